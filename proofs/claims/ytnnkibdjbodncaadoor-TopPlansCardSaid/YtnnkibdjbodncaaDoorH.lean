/- The first numbers of a set: sets of the numbers below eight; the table is as it is laid. -/
import Derived.Test.YtnnkibdjbodncaaDoorF
import Derived.Test.YtnnkibdjbodncaaDoorG
namespace Go.Proofs.YtnnkibdjbodncaaDoor
open Go.RowKit
def FirstPost (w : World) (s : List Int) (b : Bool) (e : Ending) (w' : World) : Prop := e = .returned (.tuple #[setV s, .bool b]) ∧ Below w.heap.size w w'
theorem two (w : World) (o1 o2 : Obj) : ((w.alloc o1).alloc o2).heap[w.heap.size]? = some o1 ∧ ((w.alloc o1).alloc o2).heap[w.heap.size + 1]? = some o2 := by
  have h2 := heap_alloc_new (w.alloc o1) o2
  rw [World.size_alloc] at h2
  refine ⟨?_, h2⟩
  rw [Below.heap_alloc _ _ _ (by simp)]
  exact heap_alloc_new w o1
theorem Tab.below {w w' : World} (h : Tab w) (hb : Below w.heap.size w w') : Tab w' := fun i hi => by rw [hb.cell (block_lt_of_cell (h i hi))]; exact h i hi
theorem four_end {w : World} {g : Nat} {y0 y1 y2 y3 : Int} (H : Blk4 w g 0 0 0 0) : Blk4 ((((w.setCell ⟨g, 0, none⟩ (.int .u64 y0)).setCell ⟨g, 1, none⟩ (.int .u64 y1)).setCell ⟨g, 2, none⟩ (.int .u64 y2)).setCell ⟨g, 3, none⟩ (.int .u64 y3)) g y0 y1 y2 y3 := by
  unfold Blk4
  rw [heap_set4 _ _ _ _ _ _ (heap_set4 _ _ _ _ _ _ (heap_set4 _ _ _ _ _ _ (heap_set4 _ _ _ _ _ _ H)))]
  rfl
theorem four_below {w0 w : World} {g : Nat} {y0 y1 y2 y3 : Value} (h : Below w0.heap.size w0 w) (hg : w0.heap.size ≤ g) : Below w0.heap.size w0 ((((w.setCell ⟨g, 0, none⟩ y0).setCell ⟨g, 1, none⟩ y1).setCell ⟨g, 2, none⟩ y2).setCell ⟨g, 3, none⟩ y3) :=
  (((h.setCell hg _).setCell hg _).setCell hg _).setCell hg _
set_option maxHeartbeats 2000000 in
set_option maxRecDepth 100000 in
theorem first_many (x n : Nat) (hx : x < 256) (hn : popN x < n) (w : World) : Calls Tryd.prog 26 #[.agg #[.int .u64 x, .int .u64 0, .int .u64 0, .int .u64 0], .int .i64 n] w (FirstPost w [0, 0, 0, 0] false) := by
  have HC := Lib.hid (fun w => count_any x hx w)
  obtain ⟨p, hp⟩ : ∃ p, popN x = p := ⟨_, rfl⟩
  rw [hp] at HC hn
  clear hp
  have hpn : (p : Int) < (n : Int) := by omega
  have HB := Lib.hid ((below_alloc' w (.cells #[.int .u64 x, .int .u64 0, .int .u64 0, .int .u64 0] 28)).alloc (by simp) (.cells #[.int .u64 0, .int .u64 0, .int .u64 0, .int .u64 0] 28))
  have H2 := Lib.hid (two w (.cells #[.int .u64 x, .int .u64 0, .int .u64 0, .int .u64 0] 28) (.cells #[.int .u64 0, .int .u64 0, .int .u64 0, .int .u64 0] 28))
  go_enter Tryd.func26, Tryd.ntmps26
  go_wp2_with (go_at_call 32; refine (HC.out _).mono ?_; rintro e w2 ⟨rfl, hb2⟩; have hR := Blk4.below (show Blk4 _ _ 0 0 0 0 from H2.out.2) hb2; have HR := Lib.hid hR; obtain ⟨r0, r1, r2, r3⟩ := hR.cells; have fR := hR.frozen; have HL := Lib.hid (HB.out.trans (hb2.mono HB.out.size)); clear hb2 hR)
  have hW := four_end (y0 := 0) (y1 := 0) (y2 := 0) (y3 := 0) HR.out
  obtain ⟨z0, z1, z2, z3⟩ := hW.cells
  refine bodyPost_ret (v := .tuple #[setV [0, 0, 0, 0], .bool false]) ?_ rfl ⟨rfl, four_below HL.out (by omega)⟩
  clear hW r0 r1 r2 r3 fR
  simp [results, Tryd.results26, go_sem, setV, z0, z1, z2, z3]
set_option maxHeartbeats 2000000 in
set_option maxRecDepth 100000 in
theorem first_all (x : Nat) (hx : x < 256) (w : World) : Calls Tryd.prog 26 #[.agg #[.int .u64 x, .int .u64 0, .int .u64 0, .int .u64 0], .int .i64 (popN x)] w (FirstPost w [x, 0, 0, 0] true) := by
  have HC := Lib.hid (fun w => count_any x hx w)
  have hp8 := popN_le x
  have HN := Lib.hid (fun w => nth_none x (popN x) hx (Nat.le_refl _) (by omega) w)
  obtain ⟨p, hp⟩ : ∃ p, popN x = p := ⟨_, rfl⟩
  rw [hp] at HC HN hp8 ⊢
  clear hp
  have HB := Lib.hid ((below_alloc' w (.cells #[.int .u64 x, .int .u64 0, .int .u64 0, .int .u64 0] 28)).alloc (by simp) (.cells #[.int .u64 0, .int .u64 0, .int .u64 0, .int .u64 0] 28))
  have H2 := Lib.hid (two w (.cells #[.int .u64 x, .int .u64 0, .int .u64 0, .int .u64 0] 28) (.cells #[.int .u64 0, .int .u64 0, .int .u64 0, .int .u64 0] 28))
  go_enter Tryd.func26, Tryd.ntmps26
  go_wp2_with (go_at_call 32; refine (HC.out _).mono ?_; rintro e w2 ⟨rfl, hb2⟩; have hR := Blk4.below (show Blk4 _ _ 0 0 0 0 from H2.out.2) hb2; have HR := Lib.hid hR; have hX := Blk4.below (show Blk4 _ _ (x : Int) 0 0 0 from H2.out.1) hb2; have HX := Lib.hid hX; obtain ⟨c0, c1, c2, c3⟩ := hX.cells; have HL := Lib.hid (HB.out.trans (hb2.mono HB.out.size)); clear hb2 hR hX)
  refine (HN.out _).mono ?_
  rintro e w3 ⟨rfl, hb3⟩
  have hR := HR.out.below hb3
  have hX := HX.out.below hb3
  have HR := Lib.hid hR
  have HL := Lib.hid (HL.out.trans (hb3.mono HL.out.size))
  obtain ⟨r0, r1, r2, r3⟩ := hR.cells
  have fR := hR.frozen
  obtain ⟨c0, c1, c2, c3⟩ := hX.cells
  clear hb3 hR hX
  go_wp2_with fail
  have hW := four_end (y0 := (x : Int)) (y1 := 0) (y2 := 0) (y3 := 0) HR.out
  obtain ⟨z0, z1, z2, z3⟩ := hW.cells
  refine bodyPost_ret (v := .tuple #[setV [(x : Int), 0, 0, 0], .bool true]) ?_ rfl ⟨rfl, four_below HL.out (by omega)⟩
  clear hW r0 r1 r2 r3 fR
  simp [results, Tryd.results26, go_sem, setV, z0, z1, z2, z3]
set_option maxHeartbeats 2000000 in
set_option maxRecDepth 100000 in
theorem first_some (x n : Nat) (hx : x < 256) (hn : n < popN x) (w : World) (hT : Tab w) : Calls Tryd.prog 26 #[.agg #[.int .u64 x, .int .u64 0, .int .u64 0, .int .u64 0], .int .i64 n] w (FirstPost w [bits .and .u64 x (2 ^ nthN x n - 1), 0, 0, 0] true) := by
  have HC := Lib.hid (fun w => count_any x hx w)
  have hp8 := popN_le x
  have hm8 := (clr_small ⟨x, hx⟩ ⟨n, by omega⟩ hn).2.2.2.1
  have HN := Lib.hid (fun w hT => nth_some x n hx hn w hT)
  have HBE := Lib.hid (fun w => below_any (nthN x n) (by simp only at hm8; omega) w)
  have hpn : ¬ (popN x : Int) < (n : Int) := by omega
  have HT := Lib.hid (hT.below ((below_alloc' w (.cells #[.int .u64 x, .int .u64 0, .int .u64 0, .int .u64 0] 28)).alloc (by simp) (.cells #[.int .u64 0, .int .u64 0, .int .u64 0, .int .u64 0] 28)))
  obtain ⟨p, hp⟩ : ∃ p, popN x = p := ⟨_, rfl⟩
  rw [hp] at HC hpn
  obtain ⟨m, hm⟩ : ∃ m, nthN x n = m := ⟨_, rfl⟩
  rw [hm] at HN HBE ⊢
  obtain ⟨y, hy⟩ : ∃ y : Int, 2 ^ m - 1 = y := ⟨_, rfl⟩
  rw [hy] at HBE ⊢
  have h00 : bits .and .u64 0 0 = 0 := by decide
  clear hp hm hy hm8 hT
  have HB := Lib.hid ((below_alloc' w (.cells #[.int .u64 x, .int .u64 0, .int .u64 0, .int .u64 0] 28)).alloc (by simp) (.cells #[.int .u64 0, .int .u64 0, .int .u64 0, .int .u64 0] 28))
  have H2 := Lib.hid (two w (.cells #[.int .u64 x, .int .u64 0, .int .u64 0, .int .u64 0] 28) (.cells #[.int .u64 0, .int .u64 0, .int .u64 0, .int .u64 0] 28))
  go_enter Tryd.func26, Tryd.ntmps26
  go_wp2_with (go_at_call 32; refine (HC.out _).mono ?_; rintro e w2 ⟨rfl, hb2⟩; have T2 := Lib.hid (HT.out.below hb2); have hR := Blk4.below (show Blk4 _ _ 0 0 0 0 from H2.out.2) hb2; have HR := Lib.hid hR; have hX := Blk4.below (show Blk4 _ _ (x : Int) 0 0 0 from H2.out.1) hb2; have HX := Lib.hid hX; obtain ⟨c0, c1, c2, c3⟩ := hX.cells; have HL := Lib.hid (HB.out.trans (hb2.mono HB.out.size)); clear hb2 hR hX)
  refine (HN.out _ T2.out).mono ?_
  rintro e w3 ⟨rfl, hb3⟩
  have hR3 := HR.out.below hb3
  have hX3 := HX.out.below hb3
  have HR3 := Lib.hid hR3
  have HX3 := Lib.hid hX3
  have HL3 := Lib.hid (HL.out.trans (hb3.mono HL.out.size))
  obtain ⟨d0, d1, d2, d3⟩ := hX3.cells
  clear hb3 hR3 hX3 c0 c1 c2 c3
  go_wp2_with fail
  go_region_with (first
    | (go_at_call 34; refine (HBE.out _).mono ?_; rintro e w4 ⟨rfl, hb4⟩; rw [setV_four]; have R4 := Lib.hid (Blk4.below (show Blk4 w3.drew _ 0 0 0 0 from HR3.out) hb4); have hX4 := Blk4.below (show Blk4 w3.drew _ (x : Int) 0 0 0 from HX3.out) hb4; obtain ⟨c0, c1, c2, c3⟩ := hX4.cells; have HL4 := Lib.hid (HL3.out.drew.trans (hb4.mono HL3.out.drew.size)); clear hb4 hX4)
    | (go_at_call 5; refine (and_any _ _ _ _ _ _ _ _ _).mono ?_; rintro e w5 ⟨rfl, hb5⟩; rw [setV_four, h00]; have hR := R4.out.below hb5; have HR5 := Lib.hid hR; obtain ⟨r0, r1, r2, r3⟩ := hR.cells; have fR := hR.frozen; have HL5 := Lib.hid (HL4.out.trans (hb5.mono HL4.out.size)); clear hb5 hR))
  all_goals go_wp2_with fail
  all_goals have hW := four_end (y0 := bits .and .u64 (x : Int) y) (y1 := 0) (y2 := 0) (y3 := 0) HR5.out
  all_goals obtain ⟨z0, z1, z2, z3⟩ := hW.cells
  all_goals refine bodyPost_ret (v := .tuple #[setV [bits .and .u64 (x : Int) y, 0, 0, 0], .bool true]) ?_ rfl ⟨rfl, four_below HL5.out (by omega)⟩
  all_goals clear hW r0 r1 r2 r3 fR
  all_goals simp [results, Tryd.results26, go_sem, setV, z0, z1, z2, z3]
end Go.Proofs.YtnnkibdjbodncaaDoor
