/- Sets of nodes: And and Not. No condition. -/
import Derived.Test.YtnnkibdjbodncaaDoorA
namespace Go.Proofs.YtnnkibdjbodncaaDoor
open Go.RowKit
theorem Blk4.below {w w' : World} {g : Nat} {x0 x1 x2 x3 : Int} (h : Blk4 w g x0 x1 x2 x3) (hb : Below w.heap.size w w') : Blk4 w' g x0 x1 x2 x3 := by
  unfold Blk4 at *
  rw [hb.block g (Array.getElem?_eq_some_iff.1 h).1]; exact h
theorem setV_four (x0 x1 x2 x3 : Int) : setV [x0, x1, x2, x3] = .agg #[.int .u64 x0, .int .u64 x1, .int .u64 x2, .int .u64 x3] := rfl
set_option maxHeartbeats 1000000 in
set_option maxRecDepth 100000 in
theorem and_any (a0 a1 a2 a3 b0 b1 b2 b3 : Int) (w : World) :
    Calls Tryd.prog 5 #[.agg #[.int .u64 a0, .int .u64 a1, .int .u64 a2, .int .u64 a3], .agg #[.int .u64 b0, .int .u64 b1, .int .u64 b2, .int .u64 b3]] w
      (AggPost w [(bits .and .u64 a0 b0), (bits .and .u64 a1 b1), (bits .and .u64 a2 b2), (bits .and .u64 a3 b3)]) := by
  have H3 := Lib.hid (three w (.cells #[.int .u64 a0, .int .u64 a1, .int .u64 a2, .int .u64 a3] 28) (.cells #[.int .u64 b0, .int .u64 b1, .int .u64 b2, .int .u64 b3] 28) (.cells #[.int .u64 0, .int .u64 0, .int .u64 0, .int .u64 0] 28))
  have HB := Lib.hid (((below_alloc' w (.cells #[.int .u64 a0, .int .u64 a1, .int .u64 a2, .int .u64 a3] 28)).alloc (by simp) (.cells #[.int .u64 b0, .int .u64 b1, .int .u64 b2, .int .u64 b3] 28)).alloc (by simp; omega) (.cells #[.int .u64 0, .int .u64 0, .int .u64 0, .int .u64 0] 28))
  go_enter Tryd.func5, Tryd.ntmps5
  go_wp2_with (go_at_call 8; refine (each_and a0 a1 a2 a3 b0 b1 b2 b3 _).mono ?_; rintro e w2 ⟨rfl, hb2⟩; rw [setV_four]; have hR := Blk4.below (show Blk4 _ _ 0 0 0 0 from H3.out.2.2) hb2; have HR := Lib.hid hR; obtain ⟨r0, r1, r2, r3⟩ := hR.cells; have fR := hR.frozen; have HL := Lib.hid (HB.out.trans (hb2.mono HB.out.size)); clear hb2 hR)
  have hW : Blk4 ((((w2.setCell ⟨w.heap.size + 1 + 1, 0, none⟩ (.int .u64 (bits .and .u64 a0 b0))).setCell ⟨w.heap.size + 1 + 1, 1, none⟩ (.int .u64 (bits .and .u64 a1 b1))).setCell ⟨w.heap.size + 1 + 1, 2, none⟩ (.int .u64 (bits .and .u64 a2 b2))).setCell ⟨w.heap.size + 1 + 1, 3, none⟩ (.int .u64 (bits .and .u64 a3 b3))) (w.heap.size + 1 + 1) (bits .and .u64 a0 b0) (bits .and .u64 a1 b1) (bits .and .u64 a2 b2) (bits .and .u64 a3 b3) := by
    unfold Blk4
    rw [heap_set4 _ _ _ _ _ _ (heap_set4 _ _ _ _ _ _ (heap_set4 _ _ _ _ _ _ (heap_set4 _ _ _ _ _ _ (show w2.heap[w.heap.size + 1 + 1]? = _ from HR.out))))]
    rfl
  obtain ⟨z0, z1, z2, z3⟩ := hW.cells
  refine bodyPost_ret (v := setV [(bits .and .u64 a0 b0), (bits .and .u64 a1 b1), (bits .and .u64 a2 b2), (bits .and .u64 a3 b3)]) ?_ rfl ⟨rfl, (((HL.out.setCell (by simp; omega) _).setCell (by simp; omega) _).setCell (by simp; omega) _).setCell (by simp; omega) _⟩
  clear hW r0 r1 r2 r3 fR
  simp [results, Tryd.results5, go_sem, setV, z0, z1, z2, z3]
set_option maxHeartbeats 1000000 in
set_option maxRecDepth 100000 in
theorem not_any (a0 a1 a2 a3 b0 b1 b2 b3 : Int) (w : World) :
    Calls Tryd.prog 6 #[.agg #[.int .u64 a0, .int .u64 a1, .int .u64 a2, .int .u64 a3], .agg #[.int .u64 b0, .int .u64 b1, .int .u64 b2, .int .u64 b3]] w
      (AggPost w [(bits .andNot .u64 a0 b0), (bits .andNot .u64 a1 b1), (bits .andNot .u64 a2 b2), (bits .andNot .u64 a3 b3)]) := by
  have H3 := Lib.hid (three w (.cells #[.int .u64 a0, .int .u64 a1, .int .u64 a2, .int .u64 a3] 28) (.cells #[.int .u64 b0, .int .u64 b1, .int .u64 b2, .int .u64 b3] 28) (.cells #[.int .u64 0, .int .u64 0, .int .u64 0, .int .u64 0] 28))
  have HB := Lib.hid (((below_alloc' w (.cells #[.int .u64 a0, .int .u64 a1, .int .u64 a2, .int .u64 a3] 28)).alloc (by simp) (.cells #[.int .u64 b0, .int .u64 b1, .int .u64 b2, .int .u64 b3] 28)).alloc (by simp; omega) (.cells #[.int .u64 0, .int .u64 0, .int .u64 0, .int .u64 0] 28))
  go_enter Tryd.func6, Tryd.ntmps6
  go_wp2_with (go_at_call 8; refine (each_not a0 a1 a2 a3 b0 b1 b2 b3 _).mono ?_; rintro e w2 ⟨rfl, hb2⟩; rw [setV_four]; have hR := Blk4.below (show Blk4 _ _ 0 0 0 0 from H3.out.2.2) hb2; have HR := Lib.hid hR; obtain ⟨r0, r1, r2, r3⟩ := hR.cells; have fR := hR.frozen; have HL := Lib.hid (HB.out.trans (hb2.mono HB.out.size)); clear hb2 hR)
  have hW : Blk4 ((((w2.setCell ⟨w.heap.size + 1 + 1, 0, none⟩ (.int .u64 (bits .andNot .u64 a0 b0))).setCell ⟨w.heap.size + 1 + 1, 1, none⟩ (.int .u64 (bits .andNot .u64 a1 b1))).setCell ⟨w.heap.size + 1 + 1, 2, none⟩ (.int .u64 (bits .andNot .u64 a2 b2))).setCell ⟨w.heap.size + 1 + 1, 3, none⟩ (.int .u64 (bits .andNot .u64 a3 b3))) (w.heap.size + 1 + 1) (bits .andNot .u64 a0 b0) (bits .andNot .u64 a1 b1) (bits .andNot .u64 a2 b2) (bits .andNot .u64 a3 b3) := by
    unfold Blk4
    rw [heap_set4 _ _ _ _ _ _ (heap_set4 _ _ _ _ _ _ (heap_set4 _ _ _ _ _ _ (heap_set4 _ _ _ _ _ _ (show w2.heap[w.heap.size + 1 + 1]? = _ from HR.out))))]
    rfl
  obtain ⟨z0, z1, z2, z3⟩ := hW.cells
  refine bodyPost_ret (v := setV [(bits .andNot .u64 a0 b0), (bits .andNot .u64 a1 b1), (bits .andNot .u64 a2 b2), (bits .andNot .u64 a3 b3)]) ?_ rfl ⟨rfl, (((HL.out.setCell (by simp; omega) _).setCell (by simp; omega) _).setCell (by simp; omega) _).setCell (by simp; omega) _⟩
  clear hW r0 r1 r2 r3 fR
  simp [results, Tryd.results6, go_sem, setV, z0, z1, z2, z3]
end Go.Proofs.YtnnkibdjbodncaaDoor
