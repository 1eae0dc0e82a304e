/- The contract of the reference's sum of bytes; no condition but that the length fits. -/
import Derived.Test.YtaniflbhkddlhaaWs
namespace Go.Proofs.Ytaniflbhkddlhaa
open Go.RowKit
theorem pow_small {d : Nat} (h : d ≤ 4) : (256 : Int) ^ d ≤ 4294967296 ∧ 1 ≤ (256 : Int) ^ d := by
  have : d = 0 ∨ d = 1 ∨ d = 2 ∨ d = 3 ∨ d = 4 := by omega
  rcases this with rfl | rfl | rfl | rfl | rfl <;> simp
theorem pow_small3 {d : Nat} (h : d ≤ 3) : (256 : Int) ^ d ≤ 16777216 := by
  have : d = 0 ∨ d = 1 ∨ d = 2 ∨ d = 3 := by omega
  rcases this with rfl | rfl | rfl | rfl <;> simp
theorem mul_small {c p : Int} (h0 : 0 ≤ c) (h1 : c ≤ 255) (h2 : 1 ≤ p) (h3 : p ≤ 16777216) : 0 ≤ c * p ∧ c * p ≤ 4278190080 :=
  ⟨Int.mul_nonneg h0 (by omega), Int.le_trans (Int.mul_le_mul h1 h3 (by omega) (by omega)) (by omega)⟩
set_option maxHeartbeats 400000 in
set_option maxRecDepth 100000 in
theorem refSum_any (ao : Option Addr) (cap n : Nat) (l : List Int) (w : World) (h : Bs w ao cap l) (hn : l.length = n) (hb : n ≤ 9223372036854775800) :
    Calls Try.prog 16 #[.slice ao n cap] w (NumPost w .u64 (sumL l)) := by
  subst hn
  have H := Lib.hid h
  clear h
  go_enter Try.func16, Try.ntmps16
  go_wp2
  go_loop [3, 4, 5] (fun lo hi i => ∃ (x y : Int) (j : Nat), j ≤ l.length + 3 ∧ i = .int .i64 j ∧ lo = .int .u64 x ∧ hi = .int .u64 y ∧ 0 ≤ x ∧ x < 4294967295 ∧ 0 ≤ y ∧ y < 4294967295 ∧ sumGo (l.drop j) x y = sumGo l ((l.length : Int) % 4294967295) 0) (fun _ _ i => l.length + 4 - (intOf i).toNat)
  case atStart => exact ⟨_, 0, 0, by omega, rfl, rfl, rfl, by omega, by omega, by omega, by omega, rfl⟩
  case round =>
    obtain ⟨x, y, j, hj, rfl, rfl, rfl, hx0, hx1, hy0, hy1, heq⟩ := hrel
    have HQ := Lib.hid heq
    clear heq
    by_cases hlt : j < l.length
    · have hne : l.drop j ≠ [] := by simp; omega
      have h4 := word_small ((l.drop j).take 4) (Byte.take (Byte.drop H.out.byte j) 4) (by simp; omega)
      have hr0 := (stepLo_range x ((l.drop j).take 4)).1
      have hr1 := (stepLo_range x ((l.drop j).take 4)).2
      have hr2 := (stepHi_range x y ((l.drop j).take 4)).1
      have hr3 := (stepHi_range x y ((l.drop j).take 4)).2
      have HN := Lib.hid ((sumGo_more (l.drop j) x y hne).symm.trans HQ.out)
      have HLO := Lib.hid (show (x + wordL ((l.drop j).take 4)) % 4294967295 = stepLo x ((l.drop j).take 4) from rfl)
      have HHI := Lib.hid (show (y + stepLo x ((l.drop j).take 4)) % 4294967295 = stepHi x y ((l.drop j).take 4) from rfl)
      obtain ⟨h40, h41⟩ := h4
      go_wp2_with fail
      go_loop [6, 7, 8] (fun q p k => ∃ d : Nat, d ≤ 4 ∧ j + d ≤ l.length ∧ k = .int .i64 (j + d : Nat) ∧ p = .int .u64 (256 ^ d) ∧ q = .int .u64 (wordL ((l.drop j).take d))) (fun _ _ k => l.length - (intOf k).toNat)
      case atStart => exact ⟨0, by omega, by omega, rfl, rfl, rfl⟩
      case round =>
        obtain ⟨d, hd, hjd, rfl, rfl, rfl⟩ := hrel
        by_cases h3 : d ≤ 3 ∧ j + d < l.length
        · obtain ⟨h3, hjl⟩ := h3
          obtain ⟨b, o, rfl, hc⟩ := H.out.cells (j + d) hjl
          obtain ⟨hb0, hb1⟩ := H.out.getD_byte (j + d)
          have HT := Lib.hid (wordL_take (l.drop j) d (by simp; omega))
          have hg : (l.drop j).getD d 0 = l.getD (j + d) 0 := by simp [List.getD]
          rw [hg] at HT
          clear hg
          have hp1 := (pow_small hd).2
          have hp2 := pow_small3 h3
          have hp3 : (256 : Int) ^ (d + 1) = 256 ^ d * 256 := Int.pow_succ _ _
          have HP := Lib.hid hp3
          have hw0 := wordL_nonneg (Byte.take (Byte.drop H.out.byte j) d)
          have hw1 := wordL_lt (Byte.take (Byte.drop H.out.byte j) d)
          have hlen : ((l.drop j).take d).length = d := by simp; omega
          rw [hlen] at hw1
          clear hp3 hlen
          generalize l.getD (j + d) 0 = c at *
          generalize wordL ((l.drop j).take d) = q at *
          generalize (256 : Int) ^ d = p at *
          obtain ⟨hm0, hm1⟩ := mul_small hb0 hb1 hp1 hp2
          have e1 : decide (((j + d : Nat) : Int) < (j : Int) + 4) = true := by simp; omega
          have e2 : decide (((j + d : Nat) : Int) < (l.length : Int)) = true := by simp; omega
          go_wp2_with fail
          exact ⟨⟨d + 1, by omega, by omega, by go_num, by rw [HP.out], by rw [HT.out]⟩, by simp [intOf]; omega⟩
        · by_cases h4 : d = 4
          · subst h4
            have HT4 : True := trivial
            have e1 : decide (((j + 4 : Nat) : Int) < (j : Int) + 4) = false := by simp
            clear HT4
            generalize wordL ((l.drop j).take 4) = q at *
            generalize stepLo x ((l.drop j).take 4) = lo at *
            generalize stepHi x y ((l.drop j).take 4) = hi at *
            go_wp2_with fail
            exact ⟨⟨lo, hi, j + 4, by omega, by go_num, by rw [HLO.out], by rw [HLO.out, HHI.out], hr0, hr1, hr2, hr3, by rw [← List.drop_drop]; exact HN.out⟩, by simp [intOf]; omega⟩
          · have HT4 : (l.drop j).take d = (l.drop j).take 4 := by rw [List.take_of_length_le (by simp; omega), List.take_of_length_le (by simp; omega)]
            have e1 : decide (((j + d : Nat) : Int) < (j : Int) + 4) = true := by simp; omega
            have e2 : decide (((j + d : Nat) : Int) < (l.length : Int)) = false := by simp; omega
            rw [HT4]
            clear HT4
            generalize wordL ((l.drop j).take 4) = q at *
            generalize stepLo x ((l.drop j).take 4) = lo at *
            generalize stepHi x y ((l.drop j).take 4) = hi at *
            go_wp2_with fail
            exact ⟨⟨lo, hi, j + 4, by omega, by go_num, by rw [HLO.out], by rw [HLO.out, HHI.out], hr0, hr1, hr2, hr3, by rw [← List.drop_drop]; exact HN.out⟩, by simp [intOf]; omega⟩
    · have hd : l.drop j = [] := List.drop_of_length_le (by omega)
      rw [hd, sumGo_nil] at HQ
      have hs : sumL l = y * 4294967296 + x := by unfold sumL; rw [← HQ.out]
      have HO := Lib.hid hs
      clear hs hd
      go_wp2_with fail
      go_ret
      exact ⟨by rw [HO.out]; rfl, rfl⟩
end Go.Proofs.Ytaniflbhkddlhaa
