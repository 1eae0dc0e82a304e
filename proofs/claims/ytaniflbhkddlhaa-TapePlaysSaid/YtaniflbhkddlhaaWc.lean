/- The contracts of slices.Grow at the nil slice and of slices.Concat; no condition but the sizes. -/
import Derived.Test.YtaniflbhkddlhaaWb
import Derived.Test.YtaniflbhkddlhaaWt
import Derived.Lib.AppendZerosOnto
namespace Go.Proofs.Ytaniflbhkddlhaa
open Go.RowKit
/-- Slices of bytes that lie in a row. -/
def RowsAt (w : World) (ao : Option Addr) (ls : List (List Int)) : Prop :=
  ∀ i, i < ls.length → ∃ b o ao' cap', ao = some ⟨b, o, none⟩ ∧ w.cell? ⟨b, o + i, none⟩ = some (.slice ao' (ls.getD i []).length cap') ∧ Bs w ao' cap' (ls.getD i [])
structure Rs (w : World) (ao : Option Addr) (cap : Nat) (ls : List (List Int)) : Prop where
  cells : RowsAt w ao ls
  cap_le : ls.length ≤ cap
  max : cap ≤ maxLen
  nil : ao = none → cap = 0
theorem RowsAt.below {w w' : World} {ao : Option Addr} {ls : List (List Int)} (h : RowsAt w ao ls) (hb : Below w.heap.size w w') : RowsAt w' ao ls := fun i hi => by
  obtain ⟨b, o, ao', cap', rfl, hc, hB⟩ := h i hi
  exact ⟨b, o, ao', cap', rfl, by rw [hb.cell (block_lt_of_cell hc)]; exact hc, hB.below hb⟩
theorem Rs.below {w w' : World} {ao : Option Addr} {cap : Nat} {ls : List (List Int)} (h : Rs w ao cap ls) (hb : Below w.heap.size w w') : Rs w' ao cap ls :=
  ⟨h.cells.below hb, h.cap_le, h.max, h.nil⟩
theorem Rs.len_le {w : World} {ao : Option Addr} {cap : Nat} {l : List (List Int)} (h : Rs w ao cap l) : l.length ≤ 9223372036854775807 := by
  have := h.max; have := h.cap_le; unfold maxLen at *; omega
theorem under5 : Try.prog.underlying 5 = some (.int .u8) := Try.underlying5
theorem zeros5 (w : World) (n : Nat) (h0 : 0 < n) (hb : n ≤ 140737488355328) (ty : TypeId) :
    (Builtin.append_ #[22, 3] ty #[.slice none 0 0, .int .i64 n]).run Try.prog w =
      .ok (.slice (some ⟨w.heap.size, 0, none⟩) n (grownCap w n 0 5)) (w.drew.alloc (.cells (Builtin.zeroCells #[.int .u8 0] n ++ Builtin.zeroCells #[.int .u8 0] (grownCap w n 0 5 - n)) 5)) := by
  obtain ⟨i0, hi, hz0, hz1, hz2⟩ := info_parts info5
  have hold : (Builtin.firstCells i0.size 0 (.slice none 0 0)).run Try.prog w.drew = .ok ([] : List Value).toArray w.drew := run_firstCells_none w.drew i0.size 0 0 0
  have h := Lib.run_append_grow_zeros w 22 3 ty 5 i0 (.int .u8 0) .i64 .i64 Try.underlying22 Try.underlying3 hi hz0 none 0 0 [] hold n h0 (by omega) (by omega) (by omega) (by rw [hz2]; omega)
    (by rw [hz2]; exact growslice_fits (by omega) (by omega))
  simpa [Value.cells] using h
set_option maxHeartbeats 400000 in
set_option maxRecDepth 100000 in
theorem grow_any (n : Nat) (w : World) (hb : n ≤ 140737488355328) :
    Calls Try.prog 59 #[.slice none 0 0, .int .i64 n] w (MadeB w []) := by
  by_cases h0 : n = 0
  · subst h0
    go_enter Try.func59, Try.ntmps59
    go_wp2
    go_ret
    exact ⟨_, rfl, OwnB.nil _ _, Below.refl _ _⟩
  · have hpos : (0 : Int) < (n : Int) := by omega
    have hz := fun ty => zeros5 w n (by omega) hb ty
    have hge : n ≤ grownCap w n 0 5 := grownCap_ge w _ _ _
    have hle := grownCap_le_maxLen w n 0 5 (by unfold maxLen; omega)
    generalize hG : grownCap w n 0 5 = G at *
    clear hG
    have hle' : G ≤ 9223372036854775807 := by unfold maxLen at hle; omega
    have hn : ¬ (n : Int) < 0 := by omega
    clear h0
    go_enter Try.func59, Try.ntmps59
    go_wp2_with (at_builtin; refine Lib.wpList_append_run _ rfl _ _ _ _ rfl _ _ rfl rfl _ _ (hz _) ?_)
    go_ret
    refine ⟨_, rfl, ⟨⟨rfl, .inr ⟨w.heap.size, G, _, rfl, Nat.le_refl _, heap_alloc_new w.drew _, Nat.zero_le _, hle, ?_, rfl⟩⟩, fun _ h => by cases h⟩, ((Below.refl _ _).drew).alloc (by simp) _⟩
    simp [Builtin.zeroCells]; omega
theorem flat_take (ls : List (List Int)) (k : Nat) (h : k < ls.length) : (ls.take (k + 1)).flatten = (ls.take k).flatten ++ ls.getD k [] := by
  rw [List.take_succ_eq_append_getElem h, List.flatten_append]
  simp [List.getD, h]
theorem flat_le (ls : List (List Int)) (k : Nat) : (ls.take k).flatten.length ≤ ls.flatten.length := by
  have h : ls.flatten = (ls.take k).flatten ++ (ls.drop k).flatten := by rw [← List.flatten_append, List.take_append_drop]
  rw [h, List.length_append]; omega
set_option maxHeartbeats 400000 in
set_option maxRecDepth 100000 in
theorem concat_any (ao : Option Addr) (cap n : Nat) (ls : List (List Int)) (w : World) (h : Rs w ao cap ls) (hn : ls.length = n) (hb : ls.flatten.length ≤ 140737488355328) :
    Calls Try.prog 46 #[.slice ao n cap] w (MadeB w ls.flatten) := by
  subst hn
  have hl := h.len_le
  have H := Lib.hid h
  clear h
  go_enter Try.func46, Try.ntmps46
  go_wp2_with fail
  go_loop [3, 11] (fun q i => ∃ k : Nat, k ≤ ls.length ∧ i = .int .i64 k ∧ q = .int .i64 ((ls.take k).flatten.length : Nat)) (fun _ i => ls.length - (intOf i).toNat)
  case atStart => exact ⟨0, by omega, rfl, rfl⟩
  case round =>
    obtain ⟨k, hk, rfl, rfl⟩ := hrel
    by_cases hlt : k < ls.length
    · obtain ⟨b, o, ao', cap', rfl, hc, hB⟩ := H.out.cells k hlt
      have hf := congrArg List.length (flat_take ls k hlt)
      rw [List.length_append] at hf
      have hle := flat_le ls (k + 1)
      have hle2 := flat_le ls k
      have HF := Lib.hid hf
      have hs : (ls.take k).flatten.length + (ls.getD k []).length ≤ 140737488355328 := by omega
      clear hf hle hB
      generalize (ls.take k).flatten.length = q at *
      generalize (ls.getD k []).length = m at *
      have hk0 : (0 : Int) ≤ (k : Int) := by omega
      have hk1 : (k : Int) < (ls.length : Int) := by omega
      go_wp2_with fail
      exact ⟨⟨k + 1, by omega, by go_num, by rw [HF.out]; go_num⟩, by simp [intOf]; omega⟩
    · obtain rfl : k = ls.length := by omega
      obtain ⟨tot, htot⟩ : ∃ tot : Nat, ls.flatten.length = tot := ⟨_, rfl⟩
      have hall : (ls.take ls.length).flatten.length = tot := by rw [List.take_length]; exact htot
      rw [hall]
      have hbt : tot ≤ 140737488355328 := by omega
      have HB := Lib.hid hb
      clear hall hb htot
      go_wp2_with fail
      refine (grow_any tot w hbt).mono ?_
      rintro e w1 ⟨v, rfl, hv, hb1⟩
      have HV := Lib.hid hv
      clear hv
      go_wp2_with fail
      go_loopw [6, 27] (fun v i wr => ∃ k : Nat, k ≤ ls.length ∧ i = .int .i64 k ∧ OwnB wr w.heap.size v (ls.take k).flatten ∧ Below w.heap.size w wr) (fun _ i _ => ls.length - (intOf i).toNat)
      case atStart => exact ⟨0, by omega, rfl, HV.out, hb1⟩
      case round =>
        clear HV hb1
        obtain ⟨k, hk, rfl, hv, hbel⟩ := hrel
        by_cases hlt : k < ls.length
        · obtain ⟨b, o, ao', cap', rfl, hc, hB⟩ := (H.out.below hbel).cells k hlt
          have HF := Lib.hid (flat_take ls k hlt)
          have hle := flat_le ls (k + 1)
          rw [HF.out, List.length_append] at hle
          have hb := HB.out
          have hsum : (ls.take k).flatten.length + (ls.getD k []).length ≤ 140737488355328 := by omega
          have HSUM := Lib.hid hsum
          clear hsum hle hb
          have HV := Lib.hid hv
          have HBB := Lib.hid hB
          have hsz := hbel.size
          have hk0 : (0 : Int) ≤ (k : Int) := by omega
          have hk1 : (k : Int) < (ls.length : Int) := by omega
          clear hv hB
          generalize ls.getD k [] = m at *
          go_wp2_with (at_builtin; refine wpList_app _ rfl _ _ rfl w.heap.size _ _ rfl HV.out _ _ _ _ rfl HBB.out rfl HSUM.out (by omega) ?_)
          intro v' w2 hown hgrow _
          have hb2 := Lib.hid (below_grown hbel hgrow (by omega) HV.out (Nat.le_refl _))
          have HO := Lib.hid hown
          clear hown hgrow
          go_wp2_with fail
          exact ⟨⟨k + 1, by omega, by go_num, by rw [HF.out]; exact HO.out, hb2.out⟩, by simp [intOf]; omega⟩
        · obtain rfl : k = ls.length := by omega
          rw [List.take_length] at hv
          go_wp2_with fail
          go_ret
          exact ⟨_, rfl, hv, hbel⟩
end Go.Proofs.Ytaniflbhkddlhaa
