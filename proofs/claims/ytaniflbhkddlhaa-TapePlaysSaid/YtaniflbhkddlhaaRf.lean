/- Contracts of 'short' and 'long'. No condition. -/
import Derived.Test.YtaniflbhkddlhaaOa
import Derived.Test.YtaniflbhkddlhaaTg
namespace Go.Proofs.Ytaniflbhkddlhaa
open Go.RowKit
def ShortPost (w : World) (ao : Option Addr) (q ca : Nat) (e : Ending) (w' : World) : Prop := e = .returned (.slice ao q ca) ∧ w = w'
theorem short_any (ao : Option Addr) (ca n q : Nat) (w : World) (hq : (if (300 : Int) < (n : Int) then (300 : Int) else (n : Int)) = (q : Int)) (hc : n ≤ ca) :
    Calls Try.prog 37 #[.slice ao n ca] w (ShortPost w ao q ca) := by
  have hqn : q ≤ n := by split at hq <;> omega
  have hqc : q ≤ ca := by omega
  go_enter Try.func37, Try.ntmps37
  go_wp2_with fail
  go_ret
  exact ⟨rfl, rfl⟩
/-- What 'long' tells, so far as it is asked: if it is false each act has few records beside its own. -/
def LongPost (w : World) (q : Nat) (ls : List ActD) (e : Ending) (w' : World) : Prop := ∃ b, e = .returned (.bool b) ∧ Below w.heap.size w w' ∧ (b = false → ∀ i, i < q → (ls.getD i noAct).ms.length ≤ 40)
set_option maxHeartbeats 4000000 in
set_option maxRecDepth 100000 in
theorem long_any (ao : Option Addr) (ca n q : Nat) (ls : List ActD) (w : World) (h : Acts w ao ca ls) (hn : ls.length = n) (hq : (if (300 : Int) < (n : Int) then (300 : Int) else (n : Int)) = (q : Int)) :
    Calls Try.prog 35 #[.slice ao n ca] w (LongPost w q ls) := by
  have L := Lib.hid h
  have HN := Lib.hid hn
  have hqn : q ≤ n := by split at hq <;> omega
  have hq3 : q ≤ 300 := by split at hq <;> omega
  have hcl := h.cap_le
  have hcm := h.max
  have hqc : q ≤ ca := by omega
  have S := Lib.hid (short_any ao ca n q w hq (by omega))
  clear h hn hq hcl
  go_enter Try.func35, Try.ntmps35
  go_wp2_with (go_at_call 37; refine S.out.mono ?_; rintro e w1 ⟨rfl, rfl⟩)
  go_loopw [3, 11] (fun v i wr => ∃ (k : Nat) (s : Int), k ≤ q ∧ i = .int .i64 k ∧ v = .int .i64 s ∧ 0 ≤ s ∧ s ≤ 90000000 * k ∧ Below w.heap.size w wr ∧ ∀ j, j < k → (ls.getD j noAct).ms.length ≤ 40) (fun _ i _ => q - (intOf i).toNat)
  case atStart => exact ⟨0, 0, by omega, rfl, rfl, by omega, by omega, Below.refl _ _, fun j hj => by omega⟩
  case round =>
    obtain ⟨k, s, hk, rfl, rfl, hs0, hs1, hbel, hall⟩ := hrel
    have hk1 : (0 : Int) ≤ (k : Int) := by omega
    have HB := Lib.hid hbel
    have HALL := Lib.hid hall
    clear hall
    by_cases hlt : k < q
    · obtain ⟨b0, o0, rfl, hL⟩ := L.out.cells k (by rw [HN.out]; omega)
      obtain ⟨x, hx⟩ : ∃ x, ls.getD k noAct = x := ⟨_, rfl⟩
      have HX := Lib.hid hx
      rw [hx] at hL
      clear hx
      obtain ⟨kd, B, ms, N⟩ := x
      obtain ⟨bo, bc, mo, mc, q0, q1, q2, q3, hB, hM, -, -⟩ := hL
      simp only at q0 q1 q2 q3 hB hM
      rw [Addr.add_lit] at q1 q2 q3
      have c0 := (hbel.cell (block_lt_of_cell q0)).trans q0
      have c1 := (hbel.cell (block_lt_of_cell q1)).trans q1
      have c2 := (hbel.cell (block_lt_of_cell q2)).trans q2
      have c3 := (hbel.cell (block_lt_of_cell q3)).trans q3
      have hbn9 := hB.len_le
      have hmn9 := hM.len_le
      have hmc := hM.cap_le
      have M0 := Lib.hid hM
      obtain ⟨bn, hbn⟩ : ∃ bn, B.length = bn := ⟨_, rfl⟩
      obtain ⟨mn, hmn⟩ : ∃ mn, ms.length = mn := ⟨_, rfl⟩
      have HMN := Lib.hid hmn
      rw [hbn] at c1 hbn9
      rw [hmn] at c2 hmn9 hmc
      have hk0 : (k : Int) < (q : Int) := by omega
      have hs9 : s ≤ 27000000000 := by omega
      obtain ⟨mq, hmq⟩ : ∃ mq : Nat, (if (40 : Int) < (mn : Int) then (40 : Int) else (mn : Int)) = (mq : Int) := by
        by_cases e : (40 : Int) < (mn : Int)
        · exact ⟨40, by rw [if_pos e]; rfl⟩
        · exact ⟨mn, by rw [if_neg e]⟩
      obtain ⟨sq, hsq, hsq1⟩ : ∃ sq : Nat, (if (2097152 : Int) < (bn : Int) then (2097152 : Int) else (bn : Int)) = (sq : Int) ∧ sq ≤ 2097152 := by
        by_cases e : (2097152 : Int) < (bn : Int)
        · exact ⟨2097152, by rw [if_pos e]; rfl, Nat.le_refl _⟩
        · exact ⟨bn, by rw [if_neg e], by omega⟩
      have hmqn : mq ≤ mn := by split at hmq <;> omega
      have hmq4 : mq ≤ 40 := by split at hmq <;> omega
      have hmqc : mq ≤ mc := by omega
      clear q0 q1 q2 q3 hB hM hbn hmn hbel
      go_wp2_with fail
      go_loopw [3, 29] (fun v i wr2 => ∃ (j : Nat) (t : Int), j ≤ mq ∧ i = .int .i64 j ∧ v = .int .i64 t ∧ 0 ≤ t ∧ t ≤ s + 2097152 + 2097152 * j ∧ wr2 = wr.alloc (.cells #[.int .u8 kd, .slice bo bn bc, .slice mo mn mc, .int .i64 N] 65)) (fun _ i _ => mq - (intOf i).toNat)
      case atStart => exact ⟨0, s + sq, by omega, rfl, rfl, by omega, by omega, rfl⟩
      case round =>
        obtain ⟨j, t, hj, rfl, rfl, ht0, ht1, rfl⟩ := hrel
        have hj1 : (0 : Int) ≤ (j : Int) := by omega
        have ht9 : t ≤ 28000000000 := by omega
        by_cases hjl : j < mq
        · obtain ⟨yb, yq, ya, yc, rfl, hy0, hY⟩ := M0.out.cells j (by rw [HMN.out]; omega)
          have hy := (HB.out.cell (block_lt_of_cell hy0)).trans hy0
          have hyn9 := hY.len_le
          have hji : (j : Int) < (mq : Int) := by omega
          obtain ⟨yn, hyn⟩ : ∃ yn, (ms.getD j []).length = yn := ⟨_, rfl⟩
          rw [hyn] at hy hyn9
          obtain ⟨s2, hs2, hs21⟩ : ∃ s2 : Nat, (if (2097152 : Int) < (yn : Int) then (2097152 : Int) else (yn : Int)) = (s2 : Int) ∧ s2 ≤ 2097152 := by
            by_cases e : (2097152 : Int) < (yn : Int)
            · exact ⟨2097152, by rw [if_pos e]; rfl, Nat.le_refl _⟩
            · exact ⟨yn, by rw [if_neg e], by omega⟩
          have hy1 := (below_alloc wr (.cells #[.int .u8 kd, .slice bo bn bc, .slice (some ⟨yb, yq, none⟩) mn mc, .int .i64 N] 65)).cell (block_lt_of_cell hy)
          rw [hy] at hy1
          clear hy0 hY hyn hy
          go_wp2_with fail
          exact ⟨⟨j + 1, t + s2, by omega, by go_num, rfl, by omega, by omega, by first | rfl | trivial⟩, by simp [intOf]; omega⟩
        · obtain rfl : j = mq := by omega
          by_cases h40 : (40 : Int) < (mn : Int)
          · go_wp2_with fail
            go_ret
            exact ⟨true, rfl, st_below HB.out (below_alloc _ _), fun h => by cases h⟩
          · by_cases hbig : (4194304 : Int) < t
            · go_wp2_with fail
              go_ret
              exact ⟨true, rfl, st_below HB.out (below_alloc _ _), fun h => by cases h⟩
            · have hmn4 : mn ≤ 40 := by omega
              go_wp2_with fail
              exact ⟨⟨k + 1, t, by omega, by go_num, rfl, ht0, by omega, st_below HB.out (below_alloc _ _), fun i hi => by
                by_cases e : i = k
                · rw [e, HX.out]; simp only; rw [HMN.out]; exact hmn4
                · exact HALL.out i (by omega)⟩, by simp [intOf]; omega⟩
    · obtain rfl : k = q := by omega
      clear hbel
      go_wp2_with fail
      go_ret
      exact ⟨false, rfl, HB.out, fun _ => HALL.out⟩
end Go.Proofs.Ytaniflbhkddlhaa
