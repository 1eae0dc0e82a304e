/- Contracts of the sum of bytes, and of the number of at most eight; no condition. -/
import Derived.Test.YtaniflbhkddlhaaB
import Derived.Test.YtaniflbhkddlhaaP
namespace Go.Proofs.Ytaniflbhkddlhaa
open Go.RowKit
def NumPost (w : World) (k : IntKind) (n : Int) (e : Ending) (w' : World) : Prop := e = .returned (.int k n) ∧ w = w'
set_option maxHeartbeats 400000 in
set_option maxRecDepth 100000 in
theorem word_any (ao : Option Addr) (cap n : Nat) (l : List Int) (w : World) (h : Bs w ao cap l) (hn : l.length = n) (hl : n ≤ 8) :
    Calls Try.prog 45 #[.slice ao n cap] w (NumPost w .u64 (wordL l)) := by
  subst hn
  have H := Lib.hid h
  clear h
  go_enter Try.func45, Try.ntmps45
  go_wp2
  go_loop [3, 8] (fun n i => ∃ k : Nat, k ≤ l.length ∧ i = .int .i64 k ∧ n = .int .u64 (wordL (l.take k))) (fun _ i => l.length - (intOf i).toNat)
  case atStart => exact ⟨0, by omega, rfl, rfl⟩
  case round =>
    obtain ⟨k, hk, rfl, rfl⟩ := hrel
    by_cases hlt : k < l.length
    · obtain ⟨b, o, rfl, hc⟩ := H.out.cells k hlt
      have HS := Lib.hid (word_step l H.out.byte k hlt hl)
      obtain ⟨hb0, hb1⟩ := H.out.getD_byte k
      generalize l.getD k 0 = c at hc HS hb0 hb1
      have hk0 : (0 : Int) ≤ (k : Int) := by omega
      have hk1 : (k : Int) < (l.length : Int) := by omega
      have hk8 : (k : Int) ≤ 7 := by omega
      go_wp2
      all_goals exact ⟨⟨k + 1, by omega, by go_num, by rw [HS.out]⟩, by simp [intOf]; omega⟩
    · obtain rfl : k = l.length := by omega
      go_wp2
      go_ret
      exact ⟨rfl, rfl⟩
def lenV : Value → Nat | .slice _ n _ => n | _ => 0
set_option maxHeartbeats 400000 in
set_option maxRecDepth 100000 in
theorem sum_any (ao : Option Addr) (cap n : Nat) (l : List Int) (w : World) (h : Bs w ao cap l) (hn : l.length = n) :
    Calls Try.prog 15 #[.slice ao n cap] w (NumPost w .u64 (sumL l)) := by
  subst hn
  have hl := h.len_le
  have H := Lib.hid h
  clear h
  go_enter Try.func15, Try.ntmps15
  go_wp2
  go_loop [0, 3, 4] (fun b lo hi => ∃ (m : List Int) (ao' : Option Addr) (cap' : Nat) (x y : Int), Bs w ao' cap' m ∧ b = .slice ao' m.length cap' ∧ lo = .int .u64 x ∧ hi = .int .u64 y ∧ 0 ≤ x ∧ x < 4294967295 ∧ 0 ≤ y ∧ y < 4294967295 ∧ sumGo m x y = sumGo l ((l.length : Int) % 4294967295) 0) (fun b _ _ => lenV b)
  case atStart => exact ⟨l, ao, cap, _, 0, H.out, rfl, rfl, rfl, by omega, by omega, by omega, by omega, rfl⟩
  case round =>
    obtain ⟨m, ao', cap', x, y, hm, rfl, rfl, rfl, hx0, hx1, hy0, hy1, heq⟩ := hrel
    have HQ := Lib.hid heq
    clear heq
    have hml := hm.len_le
    by_cases h0 : m = []
    · subst h0
      rw [sumGo_nil] at HQ
      have ho := or_sum x y hx0 (by omega) hy0 (by omega)
      rw [wrap_u64, show y * 4294967296 % 18446744073709551616 = y * 4294967296 by omega] at ho
      have hs : sumL l = y * 4294967296 + x := by unfold sumL; rw [← HQ.out]
      have HO := Lib.hid (ho.trans hs.symm)
      clear ho hs
      go_wp2
      go_ret
      exact ⟨by rw [← HO.out]; rfl, rfl⟩
    · have hpos : 0 < m.length := List.length_pos_iff.2 h0
      have h4 := word_small (m.take 4) (Byte.take hm.byte 4) (by simp; omega)
      have hr0 := (stepLo_range x (m.take 4)).1
      have hr1 := (stepLo_range x (m.take 4)).2
      have hr2 := (stepHi_range x y (m.take 4)).1
      have hr3 := (stepHi_range x y (m.take 4)).2
      have HN := Lib.hid ((sumGo_more m x y h0).symm.trans HQ.out)
      have HLO := Lib.hid (show (x + wordL (m.take 4)) % 4294967295 = stepLo x (m.take 4) from rfl)
      have HHI := Lib.hid (show (y + stepLo x (m.take 4)) % 4294967295 = stepHi x y (m.take 4) from rfl)
      obtain ⟨h40, h41⟩ := h4
      by_cases h5 : 4 < m.length
      · have hs1 : ∀ W, (Instr.sliceAt 22 (.slice ao' m.length cap') none (some (.int .i64 4)) none).run Try.prog W = .ok (.slice (cutA ao' cap' 0) 4 cap') W := fun W => cut_h hm 4 (by omega) W
        have hs2 : ∀ W, (Instr.sliceAt 22 (.slice ao' m.length cap') (some (.int .i64 4)) none none).run Try.prog W = .ok (.slice (cutA ao' cap' 4) (m.length - 4) (cap' - 4)) W := fun W => cut_l hm 4 (by omega) W
        have hw := word_any (cutA ao' cap' 0) cap' 4 (m.take 4) w (hm.cut_h 4 (by omega)) (by simp; omega) (by omega)
        have hm' := Lib.hid (hm.cut_l 4 (by omega))
        have HW := Lib.hid hw
        clear hm hw
        generalize wordL (m.take 4) = q at *
        generalize stepLo x (m.take 4) = lo at *
        generalize stepHi x y (m.take 4) = hi at *
        go_wp2_with fail
        refine HW.out.mono ?_
        rintro e w' ⟨rfl, rfl⟩
        go_wp2_with fail
        exact ⟨⟨m.drop 4, _, _, lo, hi, hm'.out, by simp, by rw [HLO.out], by rw [HLO.out, HHI.out], hr0, hr1, hr2, hr3, HN.out⟩, by simp [lenV]; omega⟩
      · have et : m.take 4 = m := List.take_of_length_le (by omega)
        have ed : m.drop 4 = m.drop m.length := by rw [List.drop_length, List.drop_of_length_le (by omega)]
        have hs1 := cut_h hm m.length (Nat.le_refl _)
        have hs2 := cut_l hm m.length (Nat.le_refl _)
        have hw := word_any (cutA ao' cap' 0) cap' m.length (m.take 4) w (by have := hm.cut_h m.length (Nat.le_refl _); rw [List.take_length] at this; rw [et]; exact this) (by simp; omega) (by omega)
        have hm' := Lib.hid (hm.cut_l m.length (Nat.le_refl _))
        rw [← ed] at hm'
        have HW := Lib.hid hw
        clear hm hw et ed
        generalize wordL (m.take 4) = q at *
        generalize stepLo x (m.take 4) = lo at *
        generalize stepHi x y (m.take 4) = hi at *
        go_wp2_with fail
        refine HW.out.mono ?_
        rintro e w' ⟨rfl, rfl⟩
        go_wp2_with fail
        exact ⟨⟨m.drop 4, _, _, lo, hi, hm'.out, by simp; omega, by rw [HLO.out], by rw [HLO.out, HHI.out], hr0, hr1, hr2, hr3, HN.out⟩, by simp [lenV]; omega⟩
end Go.Proofs.Ytaniflbhkddlhaa
