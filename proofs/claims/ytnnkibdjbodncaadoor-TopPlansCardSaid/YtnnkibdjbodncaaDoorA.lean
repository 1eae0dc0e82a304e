/- Sets of nodes: contracts of And and Not. No condition. -/
import Derived.Test.YtnnkibdjbodncaaDoorRows
import Derived.WalkKit
import Derived.WalkSpells
import Derived.WalkLawsBesides
import Derived.Lib.Hide
import Derived.Deep.RegionWith
import Derived.Laws.BitsAllLaws
namespace Go.Proofs.YtnnkibdjbodncaaDoor
open Go.RowKit
def NumPost (w : World) (k : IntKind) (n : Int) (e : Ending) (w' : World) : Prop := e = .returned (.int k n) ∧ w = w'
theorem and1_any (w : World) (a b : Int) : Calls Tryd.prog 9 #[.int .u64 a, .int .u64 b] w (NumPost w .u64 (bits .and .u64 a b)) := by
  go_enter Tryd.func9, Tryd.ntmps9
  go_wp2_with fail
  go_ret
  exact ⟨rfl, rfl⟩
theorem not1_any (w : World) (a b : Int) : Calls Tryd.prog 10 #[.int .u64 a, .int .u64 b] w (NumPost w .u64 (bits .andNot .u64 a b)) := by
  go_enter Tryd.func10, Tryd.ntmps10
  go_wp2_with fail
  go_ret
  exact ⟨rfl, rfl⟩
/-- A set's four words, as a value. -/
def setV (s : List Int) : Value := .agg (s.map (Value.int .u64)).toArray
def AggPost (w : World) (s : List Int) (e : Ending) (w' : World) : Prop := e = .returned (setV s) ∧ Below w.heap.size w w'
theorem three (w : World) (o1 o2 o3 : Obj) : (((w.alloc o1).alloc o2).alloc o3).heap[w.heap.size]? = some o1 ∧ (((w.alloc o1).alloc o2).alloc o3).heap[w.heap.size + 1]? = some o2 ∧ (((w.alloc o1).alloc o2).alloc o3).heap[w.heap.size + 2]? = some o3 := by
  have h2 := heap_alloc_new (w.alloc o1) o2
  have h3 := heap_alloc_new ((w.alloc o1).alloc o2) o3
  rw [World.size_alloc] at h2
  rw [World.size_alloc, World.size_alloc] at h3
  refine ⟨?_, ?_, h3⟩
  · rw [Below.heap_alloc _ _ _ (by simp; omega), Below.heap_alloc _ _ _ (by simp)]
    exact heap_alloc_new w o1
  · rw [Below.heap_alloc _ _ _ (by simp)]
    exact h2
theorem below_alloc' (w : World) (o : Obj) : Below w.heap.size w (w.alloc o) := (Below.refl _ _).alloc (Nat.le_refl _) o
/-- Four words behind a pointer. -/
def Blk4 (w : World) (g : Nat) (x0 x1 x2 x3 : Int) : Prop := w.heap[g]? = some (.cells #[.int .u64 x0, .int .u64 x1, .int .u64 x2, .int .u64 x3] 28)
theorem Blk4.cells {w : World} {g : Nat} {x0 x1 x2 x3 : Int} (h : Blk4 w g x0 x1 x2 x3) :
    w.cell? ⟨g, 0, none⟩ = some (.int .u64 x0) ∧ w.cell? ⟨g, 1, none⟩ = some (.int .u64 x1) ∧ w.cell? ⟨g, 2, none⟩ = some (.int .u64 x2) ∧ w.cell? ⟨g, 3, none⟩ = some (.int .u64 x3) := by
  unfold Blk4 at h
  simp [World.cell?, h]
theorem Blk4.frozen {w : World} {g : Nat} {x0 x1 x2 x3 : Int} (h : Blk4 w g x0 x1 x2 x3) (o : Nat) : w.frozen? ⟨g, o, none⟩ = false := by
  unfold Blk4 at h
  simp [World.frozen?, h]
theorem Blk4.far {w : World} {g g' o : Nat} {x0 x1 x2 x3 : Int} (h : Blk4 w g x0 x1 x2 x3) (hg : g ≠ g') (v : Value) : Blk4 (w.setCell ⟨g', o, none⟩ v) g x0 x1 x2 x3 := by
  unfold Blk4; rw [Below.heap_setCell _ _ _ _ hg]; exact h
theorem heap_set4 (w : World) (g o : Nat) (v : Value) (c : Array Value) (e : TypeId) (h : w.heap[g]? = some (.cells c e)) : (w.setCell ⟨g, o, none⟩ v).heap[g]? = some (.cells (c.setIfInBounds o v) e) := by
  simp [World.setCell, Array.getElem?_modify, h]
set_option maxHeartbeats 4000000 in
set_option maxRecDepth 100000 in
theorem each_and (a0 a1 a2 a3 b0 b1 b2 b3 : Int) (w : World) :
    Calls Tryd.prog 8 #[.agg #[.int .u64 a0, .int .u64 a1, .int .u64 a2, .int .u64 a3], .agg #[.int .u64 b0, .int .u64 b1, .int .u64 b2, .int .u64 b3], .func (.func 9) #[] #[]] w
      (AggPost w [(bits .and .u64 a0 b0), (bits .and .u64 a1 b1), (bits .and .u64 a2 b2), (bits .and .u64 a3 b3)]) := by
  go_enter Tryd.func8, Tryd.ntmps8
  go_wp2_with fail
  go_loopw [8] (fun i wr => ∃ (k : Nat) (x0 x1 x2 x3 : Int), i = .int .i64 k ∧ (k = 0 ∧ x0 = a0 ∧ x1 = a1 ∧ x2 = a2 ∧ x3 = a3 ∨ k = 1 ∧ x0 = (bits .and .u64 a0 b0) ∧ x1 = a1 ∧ x2 = a2 ∧ x3 = a3 ∨ k = 2 ∧ x0 = (bits .and .u64 a0 b0) ∧ x1 = (bits .and .u64 a1 b1) ∧ x2 = a2 ∧ x3 = a3 ∨ k = 3 ∧ x0 = (bits .and .u64 a0 b0) ∧ x1 = (bits .and .u64 a1 b1) ∧ x2 = (bits .and .u64 a2 b2) ∧ x3 = a3 ∨ k = 4 ∧ x0 = (bits .and .u64 a0 b0) ∧ x1 = (bits .and .u64 a1 b1) ∧ x2 = (bits .and .u64 a2 b2) ∧ x3 = (bits .and .u64 a3 b3)) ∧
      Blk4 wr w.heap.size x0 x1 x2 x3 ∧ Blk4 wr (w.heap.size + 1) b0 b1 b2 b3 ∧ Blk4 wr (w.heap.size + 2) 0 0 0 0 ∧ Below w.heap.size w wr) (fun i _ => 4 - (intOf i).toNat)
  case atStart => exact ⟨0, a0, a1, a2, a3, rfl, Or.inl ⟨rfl, rfl, rfl, rfl, rfl⟩, (three w _ _ _).1, (three w _ _ _).2.1, (three w _ _ _).2.2, ((below_alloc' w _).alloc (by simp) _).alloc (by simp; omega) _⟩
  case round =>
    obtain ⟨k, x0, x1, x2, x3, rfl, hk, hA, hB, hR, hbel⟩ := hrel
    obtain ⟨c0, c1, c2, c3⟩ := hA.cells
    obtain ⟨d0, d1, d2, d3⟩ := hB.cells
    obtain ⟨r0, r1, r2, r3⟩ := hR.cells
    have fA := hA.frozen
    have fR := hR.frozen
    have HA := Lib.hid hA
    have HB := Lib.hid hB
    have HR := Lib.hid hR
    have HL := Lib.hid hbel
    clear hA hB hR hbel
    rcases hk with ⟨rfl, h⟩ | ⟨rfl, h⟩ | ⟨rfl, h⟩ | ⟨rfl, h⟩ | ⟨rfl, rfl, rfl, rfl, rfl⟩
    · obtain ⟨rfl, rfl, rfl, rfl⟩ := h
      go_wp2_with fail
      go_region_with (go_at_call 9; refine (and1_any _ _ _).mono ?_; rintro e w' ⟨rfl, rfl⟩)
      all_goals go_wp2_with fail
      all_goals exact ⟨⟨1, _, _, _, _, by go_num, Or.inr (Or.inl ⟨rfl, rfl, rfl, rfl, rfl⟩), (by unfold Blk4; first | exact heap_set4 _ _ _ _ _ _ HA.out | (rw [heap_set4 _ _ _ _ _ _ (show _ = _ from HA.out)]; rfl)), HB.out.far (by omega) _, HR.out.far (by omega) _, HL.out.drew.setCell (Nat.le_refl _) _⟩, by simp [intOf]⟩
    · obtain ⟨rfl, rfl, rfl, rfl⟩ := h
      go_wp2_with fail
      go_region_with (go_at_call 9; refine (and1_any _ _ _).mono ?_; rintro e w' ⟨rfl, rfl⟩)
      all_goals go_wp2_with fail
      all_goals exact ⟨⟨2, _, _, _, _, by go_num, Or.inr (Or.inr (Or.inl ⟨rfl, rfl, rfl, rfl, rfl⟩)), (by unfold Blk4; first | exact heap_set4 _ _ _ _ _ _ HA.out | (rw [heap_set4 _ _ _ _ _ _ (show _ = _ from HA.out)]; rfl)), HB.out.far (by omega) _, HR.out.far (by omega) _, HL.out.drew.setCell (Nat.le_refl _) _⟩, by simp [intOf]⟩
    · obtain ⟨rfl, rfl, rfl, rfl⟩ := h
      go_wp2_with fail
      go_region_with (go_at_call 9; refine (and1_any _ _ _).mono ?_; rintro e w' ⟨rfl, rfl⟩)
      all_goals go_wp2_with fail
      all_goals exact ⟨⟨3, _, _, _, _, by go_num, Or.inr (Or.inr (Or.inr (Or.inl ⟨rfl, rfl, rfl, rfl, rfl⟩))), (by unfold Blk4; first | exact heap_set4 _ _ _ _ _ _ HA.out | (rw [heap_set4 _ _ _ _ _ _ (show _ = _ from HA.out)]; rfl)), HB.out.far (by omega) _, HR.out.far (by omega) _, HL.out.drew.setCell (Nat.le_refl _) _⟩, by simp [intOf]⟩
    · obtain ⟨rfl, rfl, rfl, rfl⟩ := h
      go_wp2_with fail
      go_region_with (go_at_call 9; refine (and1_any _ _ _).mono ?_; rintro e w' ⟨rfl, rfl⟩)
      all_goals go_wp2_with fail
      all_goals exact ⟨⟨4, _, _, _, _, by go_num, Or.inr (Or.inr (Or.inr (Or.inr ⟨rfl, rfl, rfl, rfl, rfl⟩))), (by unfold Blk4; first | exact heap_set4 _ _ _ _ _ _ HA.out | (rw [heap_set4 _ _ _ _ _ _ (show _ = _ from HA.out)]; rfl)), HB.out.far (by omega) _, HR.out.far (by omega) _, HL.out.drew.setCell (Nat.le_refl _) _⟩, by simp [intOf]⟩
    · go_wp2_with fail
      have hW : Blk4 ((((wr.setCell ⟨w.heap.size + 1 + 1, 0, none⟩ (.int .u64 (bits .and .u64 a0 b0))).setCell ⟨w.heap.size + 1 + 1, 1, none⟩ (.int .u64 (bits .and .u64 a1 b1))).setCell ⟨w.heap.size + 1 + 1, 2, none⟩ (.int .u64 (bits .and .u64 a2 b2))).setCell ⟨w.heap.size + 1 + 1, 3, none⟩ (.int .u64 (bits .and .u64 a3 b3))) (w.heap.size + 1 + 1) (bits .and .u64 a0 b0) (bits .and .u64 a1 b1) (bits .and .u64 a2 b2) (bits .and .u64 a3 b3) := by
        unfold Blk4
        rw [heap_set4 _ _ _ _ _ _ (heap_set4 _ _ _ _ _ _ (heap_set4 _ _ _ _ _ _ (heap_set4 _ _ _ _ _ _ (show wr.heap[w.heap.size + 1 + 1]? = _ from HR.out))))]
        rfl
      obtain ⟨z0, z1, z2, z3⟩ := hW.cells
      refine bodyPost_ret (v := setV [(bits .and .u64 a0 b0), (bits .and .u64 a1 b1), (bits .and .u64 a2 b2), (bits .and .u64 a3 b3)]) ?_ rfl ⟨rfl, (((HL.out.setCell (by simp; omega) _).setCell (by simp; omega) _).setCell (by simp; omega) _).setCell (by simp; omega) _⟩
      clear hW c0 c1 c2 c3 d0 d1 d2 d3 r0 r1 r2 r3 fA fR
      simp [results, Tryd.results8, go_sem, setV, z0, z1, z2, z3]
set_option maxHeartbeats 4000000 in
set_option maxRecDepth 100000 in
theorem each_not (a0 a1 a2 a3 b0 b1 b2 b3 : Int) (w : World) :
    Calls Tryd.prog 8 #[.agg #[.int .u64 a0, .int .u64 a1, .int .u64 a2, .int .u64 a3], .agg #[.int .u64 b0, .int .u64 b1, .int .u64 b2, .int .u64 b3], .func (.func 10) #[] #[]] w
      (AggPost w [(bits .andNot .u64 a0 b0), (bits .andNot .u64 a1 b1), (bits .andNot .u64 a2 b2), (bits .andNot .u64 a3 b3)]) := by
  go_enter Tryd.func8, Tryd.ntmps8
  go_wp2_with fail
  go_loopw [8] (fun i wr => ∃ (k : Nat) (x0 x1 x2 x3 : Int), i = .int .i64 k ∧ (k = 0 ∧ x0 = a0 ∧ x1 = a1 ∧ x2 = a2 ∧ x3 = a3 ∨ k = 1 ∧ x0 = (bits .andNot .u64 a0 b0) ∧ x1 = a1 ∧ x2 = a2 ∧ x3 = a3 ∨ k = 2 ∧ x0 = (bits .andNot .u64 a0 b0) ∧ x1 = (bits .andNot .u64 a1 b1) ∧ x2 = a2 ∧ x3 = a3 ∨ k = 3 ∧ x0 = (bits .andNot .u64 a0 b0) ∧ x1 = (bits .andNot .u64 a1 b1) ∧ x2 = (bits .andNot .u64 a2 b2) ∧ x3 = a3 ∨ k = 4 ∧ x0 = (bits .andNot .u64 a0 b0) ∧ x1 = (bits .andNot .u64 a1 b1) ∧ x2 = (bits .andNot .u64 a2 b2) ∧ x3 = (bits .andNot .u64 a3 b3)) ∧
      Blk4 wr w.heap.size x0 x1 x2 x3 ∧ Blk4 wr (w.heap.size + 1) b0 b1 b2 b3 ∧ Blk4 wr (w.heap.size + 2) 0 0 0 0 ∧ Below w.heap.size w wr) (fun i _ => 4 - (intOf i).toNat)
  case atStart => exact ⟨0, a0, a1, a2, a3, rfl, Or.inl ⟨rfl, rfl, rfl, rfl, rfl⟩, (three w _ _ _).1, (three w _ _ _).2.1, (three w _ _ _).2.2, ((below_alloc' w _).alloc (by simp) _).alloc (by simp; omega) _⟩
  case round =>
    obtain ⟨k, x0, x1, x2, x3, rfl, hk, hA, hB, hR, hbel⟩ := hrel
    obtain ⟨c0, c1, c2, c3⟩ := hA.cells
    obtain ⟨d0, d1, d2, d3⟩ := hB.cells
    obtain ⟨r0, r1, r2, r3⟩ := hR.cells
    have fA := hA.frozen
    have fR := hR.frozen
    have HA := Lib.hid hA
    have HB := Lib.hid hB
    have HR := Lib.hid hR
    have HL := Lib.hid hbel
    clear hA hB hR hbel
    rcases hk with ⟨rfl, h⟩ | ⟨rfl, h⟩ | ⟨rfl, h⟩ | ⟨rfl, h⟩ | ⟨rfl, rfl, rfl, rfl, rfl⟩
    · obtain ⟨rfl, rfl, rfl, rfl⟩ := h
      go_wp2_with fail
      go_region_with (go_at_call 10; refine (not1_any _ _ _).mono ?_; rintro e w' ⟨rfl, rfl⟩)
      all_goals go_wp2_with fail
      all_goals exact ⟨⟨1, _, _, _, _, by go_num, Or.inr (Or.inl ⟨rfl, rfl, rfl, rfl, rfl⟩), (by unfold Blk4; first | exact heap_set4 _ _ _ _ _ _ HA.out | (rw [heap_set4 _ _ _ _ _ _ (show _ = _ from HA.out)]; rfl)), HB.out.far (by omega) _, HR.out.far (by omega) _, HL.out.drew.setCell (Nat.le_refl _) _⟩, by simp [intOf]⟩
    · obtain ⟨rfl, rfl, rfl, rfl⟩ := h
      go_wp2_with fail
      go_region_with (go_at_call 10; refine (not1_any _ _ _).mono ?_; rintro e w' ⟨rfl, rfl⟩)
      all_goals go_wp2_with fail
      all_goals exact ⟨⟨2, _, _, _, _, by go_num, Or.inr (Or.inr (Or.inl ⟨rfl, rfl, rfl, rfl, rfl⟩)), (by unfold Blk4; first | exact heap_set4 _ _ _ _ _ _ HA.out | (rw [heap_set4 _ _ _ _ _ _ (show _ = _ from HA.out)]; rfl)), HB.out.far (by omega) _, HR.out.far (by omega) _, HL.out.drew.setCell (Nat.le_refl _) _⟩, by simp [intOf]⟩
    · obtain ⟨rfl, rfl, rfl, rfl⟩ := h
      go_wp2_with fail
      go_region_with (go_at_call 10; refine (not1_any _ _ _).mono ?_; rintro e w' ⟨rfl, rfl⟩)
      all_goals go_wp2_with fail
      all_goals exact ⟨⟨3, _, _, _, _, by go_num, Or.inr (Or.inr (Or.inr (Or.inl ⟨rfl, rfl, rfl, rfl, rfl⟩))), (by unfold Blk4; first | exact heap_set4 _ _ _ _ _ _ HA.out | (rw [heap_set4 _ _ _ _ _ _ (show _ = _ from HA.out)]; rfl)), HB.out.far (by omega) _, HR.out.far (by omega) _, HL.out.drew.setCell (Nat.le_refl _) _⟩, by simp [intOf]⟩
    · obtain ⟨rfl, rfl, rfl, rfl⟩ := h
      go_wp2_with fail
      go_region_with (go_at_call 10; refine (not1_any _ _ _).mono ?_; rintro e w' ⟨rfl, rfl⟩)
      all_goals go_wp2_with fail
      all_goals exact ⟨⟨4, _, _, _, _, by go_num, Or.inr (Or.inr (Or.inr (Or.inr ⟨rfl, rfl, rfl, rfl, rfl⟩))), (by unfold Blk4; first | exact heap_set4 _ _ _ _ _ _ HA.out | (rw [heap_set4 _ _ _ _ _ _ (show _ = _ from HA.out)]; rfl)), HB.out.far (by omega) _, HR.out.far (by omega) _, HL.out.drew.setCell (Nat.le_refl _) _⟩, by simp [intOf]⟩
    · go_wp2_with fail
      have hW : Blk4 ((((wr.setCell ⟨w.heap.size + 1 + 1, 0, none⟩ (.int .u64 (bits .andNot .u64 a0 b0))).setCell ⟨w.heap.size + 1 + 1, 1, none⟩ (.int .u64 (bits .andNot .u64 a1 b1))).setCell ⟨w.heap.size + 1 + 1, 2, none⟩ (.int .u64 (bits .andNot .u64 a2 b2))).setCell ⟨w.heap.size + 1 + 1, 3, none⟩ (.int .u64 (bits .andNot .u64 a3 b3))) (w.heap.size + 1 + 1) (bits .andNot .u64 a0 b0) (bits .andNot .u64 a1 b1) (bits .andNot .u64 a2 b2) (bits .andNot .u64 a3 b3) := by
        unfold Blk4
        rw [heap_set4 _ _ _ _ _ _ (heap_set4 _ _ _ _ _ _ (heap_set4 _ _ _ _ _ _ (heap_set4 _ _ _ _ _ _ (show wr.heap[w.heap.size + 1 + 1]? = _ from HR.out))))]
        rfl
      obtain ⟨z0, z1, z2, z3⟩ := hW.cells
      refine bodyPost_ret (v := setV [(bits .andNot .u64 a0 b0), (bits .andNot .u64 a1 b1), (bits .andNot .u64 a2 b2), (bits .andNot .u64 a3 b3)]) ?_ rfl ⟨rfl, (((HL.out.setCell (by simp; omega) _).setCell (by simp; omega) _).setCell (by simp; omega) _).setCell (by simp; omega) _⟩
      clear hW c0 c1 c2 c3 d0 d1 d2 d3 r0 r1 r2 r3 fA fR
      simp [results, Tryd.results8, go_sem, setV, z0, z1, z2, z3]
end Go.Proofs.YtnnkibdjbodncaaDoor
