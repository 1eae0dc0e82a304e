/- The contract of the function that makes the table of states and events; no condition. -/
import Derived.Test.YtojinbckpjddmaaRows
import Derived.WalkKit
import Derived.WalkSpells
import Derived.WalkLawsBesides
namespace Go.Proofs.Ytojinbckpjddmaa
open Go.RowKit

def tabA (f : Nat → Int) : Array Value := Array.ofFn (n := 96) fun i => .int .i64 (f i)
theorem tabA_get (f : Nat → Int) (i : Nat) (h : i < 96) : (tabA f)[i]? = some (.int .i64 (f i)) := by
  simp [tabA, h]
theorem tabA_size (f : Nat → Int) : (tabA f).size = 96 := by simp [tabA]
def upd (f : Nat → Int) (i : Nat) (v : Int) : Nat → Int := fun j => if j = i then v else f j
theorem tabA_set (f : Nat → Int) (i : Nat) (v : Int) : (tabA f).setIfInBounds i (.int .i64 v) = tabA (upd f i v) := by
  apply Array.ext
  · simp [tabA]
  · intro j h1 h2
    have hj : j < 96 := by simpa [tabA] using h2
    simp [tabA, upd, Array.getElem_setIfInBounds, hj]
    by_cases e : i = j <;> simp [e, eq_comm]
theorem tabA_congr {f g : Nat → Int} (h : ∀ i, i < 96 → f i = g i) : tabA f = tabA g := by
  apply Array.ext
  · simp [tabA]
  · intro j h1 h2
    have hj : j < 96 := by simpa [tabA] using h2
    simp [tabA, h j hj]
theorem zero44 (w : World) : (zeroValue 44).run Try.prog w = .ok (.agg (tabA fun _ => 0)) w := by kernel_rfl


def ff (s e : Nat) (i : Nat) : Int := if i < 12 * s then (if i % 12 = 8 ∧ i / 12 ≠ 6 then 6 else -1) else if i < 12 * s + e then -1 else 0
theorem ff_start : ff 0 0 = fun _ => 0 := by funext i; simp [ff]
theorem ff_step (s e : Nat) : upd (ff s e) (s * 12 + e) (-1) = ff s (e + 1) := by
  funext i; unfold upd ff
  repeat' split
  all_goals first | rfl | omega
theorem ff_row (s : Nat) (h : s ≠ 6) : upd (ff s 12) (s * 12 + 8) 6 = ff (s + 1) 0 := by
  funext i; unfold upd ff
  repeat' split
  all_goals first | rfl | omega
theorem ff_row6 : ff 6 12 = ff 7 0 := by
  funext i; unfold ff
  repeat' split
  all_goals first | rfl | omega
/-- The table's cells. -/
def tabN : List Int := [
  -1, 1, -1, -1, -1, -1, 5, -1, 6, -1, -1, -1,
  -1, -1, 2, 0, -1, -1, -1, -1, 6, -1, -1, -1,
  -1, -1, -1, -1, 3, -1, 5, -1, 6, -1, 7, -1,
  -1, -1, -1, -1, -1, 2, 4, -1, 6, -1, -1, -1,
  -1, -1, -1, -1, -1, 5, -1, 3, 6, -1, -1, -1,
  -1, -1, -1, -1, -1, -1, -1, 2, 6, -1, -1, -1,
  -1, -1, -1, -1, -1, -1, -1, -1, -1, 0, -1, -1,
  -1, -1, -1, -1, -1, -1, -1, -1, 6, -1, -1, 0]
def tabF (i : Nat) : Int := tabN.getD i 0
theorem tab_fin : tabA (upd (upd (upd (upd (upd (upd (upd (upd (upd (upd (upd (upd (upd (upd (ff 8 0) 1 1) 6 5) 14 2) 15 0) 28 3) 30 5) 34 7) 41 2) 42 4) 53 5) 55 3) 67 2) 81 0) 95 0) = tabA tabF := tabA_congr (by decide)
theorem tabA_one (f : Nat → Int) : (tabA f).all (·.oneCell') = true := by
  rw [Array.all_eq_true_iff_forall_mem]
  intro v hv
  obtain ⟨i, hi, rfl⟩ := Array.mem_ofFn.1 hv
  rfl
theorem setRow_alloc2 (w : World) (C D : Array Value) (t : TypeId) (B : Obj) : ((w.alloc (.cells C t)).alloc B).setRow w.heap.size D = (w.alloc (.cells D t)).alloc B := by
  unfold World.setRow World.alloc
  congr 1
  apply Array.ext_getElem?
  intro k
  simp only [Array.getElem?_modify, Array.getElem?_push, Array.size_push]
  by_cases e : w.heap.size = k
  · subst e; simp
  · have e' : ¬ k = w.heap.size := fun h => e h.symm
    simp [e, e']
attribute [local go_sem] tabA_get tabA_set tabA_size zero44
set_option maxHeartbeats 1000000 in
set_option maxRecDepth 100000 in
theorem table_any (w : World) :
    Calls Try.prog 21 #[] w fun e w' => e = .returned (.agg (tabA tabF)) ∧ w' = (w.alloc (.cells (tabA tabF) 44)).alloc (.cells (tabA tabF) 44) := by
  go_enter Try.func21, Try.ntmps21
  go_wp2
  go_loopw [4] (fun i wr => ∃ s : Nat, s ≤ 8 ∧ i = .int .i64 s ∧ wr = (w.alloc (.cells (tabA fun _ => 0) 44)).alloc (.cells (tabA (ff s 0)) 44)) (fun i _ => 8 - (intOf i).toNat)
  case atStart => exact ⟨0, by omega, rfl, by rw [ff_start]⟩
  case round =>
    obtain ⟨s, hs, rfl, rfl⟩ := hrel
    by_cases hlt : s < 8
    · go_wp2
      go_loopw [7] (fun i wr => ∃ e : Nat, e ≤ 12 ∧ i = .int .i64 e ∧ wr = (w.alloc (.cells (tabA fun _ => 0) 44)).alloc (.cells (tabA (ff s e)) 44)) (fun i _ => 12 - (intOf i).toNat)
      case atStart => exact ⟨0, by omega, rfl, rfl⟩
      case round =>
        obtain ⟨e, he, rfl, rfl⟩ := hrel
        by_cases hlt2 : e < 12
        · have hb : s * 12 + e < 96 := by omega
          go_wp2
          go_roundw
          case rel => exact ⟨e + 1, by omega, by go_num, by rw [ff_step]⟩
          case measure => simp [intOf]; omega
        · obtain rfl : e = 12 := by omega
          have hb : s * 12 + 8 < 96 := by omega
          by_cases h6 : s = 6
          · subst h6
            go_wp2
            go_roundw
            case rel => exact ⟨7, by omega, rfl, by rw [ff_row6]⟩
            case measure => simp [intOf]
          · go_wp2
            go_roundw
            case rel => exact ⟨s + 1, by omega, by go_num, by rw [ff_row s h6]⟩
            case measure => simp [intOf]; omega
    · obtain rfl : s = 8 := by omega
      go_wp2
      rw [tab_fin]
      refine wp_load_row 44 (.tmp 1) rfl (w.heap.size + 1) rfl 44 (tabA tabF) (0, 0) _ (heap_alloc2_new _ _ _) Try.underlying44 rfl (by rw [tabA_size]; kernel_rfl) ?_
      go_step
      refine wpList_store_row rfl 44 (.tmp 0) (.tmp 49) rfl w.heap.size (tabA tabF) rfl rfl 44 (tabA fun _ => 0) (heap_alloc2_old _ _ _) (by rw [tabA_size]; kernel_rfl) (by rw [tabA_size, tabA_size]) (tabA_one _) ?_
      rw [setRow_alloc2]
      go_wp2
      refine bodyPost_ret (v := .agg (tabA tabF)) (results_cell_row rfl _ _ w.heap.size 44 (tabA tabF) (0, 0) _ rfl (heap_alloc2_old _ _ _) Try.underlying44 rfl (by rw [tabA_size]; kernel_rfl)) rfl ⟨rfl, rfl⟩

end Go.Proofs.Ytojinbckpjddmaa
