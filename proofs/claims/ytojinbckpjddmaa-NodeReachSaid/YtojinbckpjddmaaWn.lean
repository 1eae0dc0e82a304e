/- The contract of node.Next, case by case; no condition but that the numbers are told apart. -/
import Derived.Test.YtojinbckpjddmaaWt
import Derived.BigQuiet
import Derived.Deep.QuietTactic
import Derived.Deep.RegionHeld3
import Derived.Deep.DeepCutAuto
namespace Go.Proofs.Ytojinbckpjddmaa
open Go.RowKit

set_option maxHeartbeats 400000 in
theorem isState_yes (s : Int) (w : World) (h0 : 0 ≤ s) (h1 : s < 8) :
    Calls Try.prog 20 #[.int .i64 s] w fun e w' => e = .returned (.bool true) ∧ w = w' := by
  go_enter Try.func20, Try.ntmps20
  go_wp2
  go_ret
  exact ⟨rfl, rfl⟩

set_option maxHeartbeats 400000 in
theorem isState_no (s : Int) (w : World) (h : s < 0 ∨ 8 ≤ s) :
    Calls Try.prog 20 #[.int .i64 s] w fun e w' => e = .returned (.bool false) ∧ w = w' := by
  rcases h with h | h
  · have h1 : decide (0 ≤ s) = false := by simp; omega
    go_enter Try.func20, Try.ntmps20
    go_wp2
    go_ret
    exact ⟨rfl, rfl⟩
  · have : 0 ≤ s := by omega
    have h1 : decide (s < 8) = false := by simp; omega
    go_enter Try.func20, Try.ntmps20
    go_wp2
    go_ret
    exact ⟨rfl, rfl⟩


def rowA (s : Nat) : Array Value := ((List.range 12).map fun e => Value.int .i64 (tabF (s * 12 + e))).toArray
def tabT (s e : Int) : Int := tabF (s.toNat * 12 + e.toNat)
theorem idx44 (s : Int) (h0 : 0 ≤ s) (h1 : s < 8) (w : World) : (Instr.index 44 (.agg (tabA tabF)) (.int .i64 s)).run Try.prog w = .ok (.agg (rowA s.toNat)) w := by
  have h : s = 0 ∨ s = 1 ∨ s = 2 ∨ s = 3 ∨ s = 4 ∨ s = 5 ∨ s = 6 ∨ s = 7 := by omega
  rcases h with rfl | rfl | rfl | rfl | rfl | rfl | rfl | rfl
  all_goals (show _ = _; kernel_rfl)
theorem idx43 (s : Nat) (e : Int) (h0 : 0 ≤ e) (h1 : e < 12) (w : World) : (Instr.index 43 (.agg (rowA s)) (.int .i64 e)).run Try.prog w = .ok (.int .i64 (tabF (s * 12 + e.toNat))) w := by
  have h : e = 0 ∨ e = 1 ∨ e = 2 ∨ e = 3 ∨ e = 4 ∨ e = 5 ∨ e = 6 ∨ e = 7 ∨ e = 8 ∨ e = 9 ∨ e = 10 ∨ e = 11 := by omega
  rcases h with rfl | rfl | rfl | rfl | rfl | rfl | rfl | rfl | rfl | rfl | rfl | rfl
  all_goals (show _ = _; kernel_rfl)

def NextPost (w : World) (a b c d : Int) (e : Ending) (w' : World) : Prop :=
  e = .returned (.tuple #[.agg #[.int .i64 a, .int .i64 b, .int .i64 c], .int .i64 d]) ∧ Below w.heap.size w w'

theorem below2 (w : World) (a b : Obj) : Below w.heap.size w ((w.alloc a).alloc b) := ((Below.refl _ _).alloc (by simp) _).alloc (by simp) _
theorem below4 (w : World) (a b c d : Obj) : Below w.heap.size w ((((w.alloc a).alloc b).alloc c).alloc d).drew := ((((((Below.refl _ _).alloc (by simp) _).alloc (by simp) _).alloc (by simp; omega) _).alloc (by simp; omega) _)).drew
theorem below5 (w : World) (a b c d e : Obj) : Below w.heap.size w (((((w.alloc a).alloc b).alloc c).alloc d).alloc e).drew := ((((((Below.refl _ _).alloc (by simp) _).alloc (by simp) _).alloc (by simp; omega) _).alloc (by simp; omega) _).alloc (by simp; omega) _).drew
set_option maxHeartbeats 400000 in
set_option maxRecDepth 100000 in
theorem next_arg0 (s since tries ev now retry : Int) (w : World) (h : s < 0 ∨ 8 ≤ s) :
    Calls Try.prog 8 #[.agg #[.int .i64 s, .int .i64 since, .int .i64 tries], .int .i64 ev, .int .i64 now, .int .i64 retry] w (NextPost w 0 0 0 1) := by
  go_enter Try.func8, Try.ntmps8
  go_wp2_with (go_at_call 20; refine (isState_no _ _ h).mono ?_; rintro e w' ⟨rfl, rfl⟩)
  refine bodyPost_ret (v := .tuple #[.agg #[.int .i64 0, .int .i64 0, .int .i64 0], .int .i64 1]) (by simp [results, Try.results8, go_sem]) rfl ⟨rfl, ?_⟩
  exact below2 _ _ _
set_option maxHeartbeats 400000 in
set_option maxRecDepth 100000 in
theorem next_arg1 (s since tries ev now retry : Int) (w : World) (h0 : 0 ≤ s) (h1 : s < 8)  (h : ev < 1) :
    Calls Try.prog 8 #[.agg #[.int .i64 s, .int .i64 since, .int .i64 tries], .int .i64 ev, .int .i64 now, .int .i64 retry] w (NextPost w 0 0 0 1) := by
  have b0 : decide (ev < 1) = true := by simp; omega
  go_enter Try.func8, Try.ntmps8
  go_wp2_with (go_at_call 20; refine (isState_yes _ _ h0 h1).mono ?_; rintro e w' ⟨rfl, rfl⟩)
  refine bodyPost_ret (v := .tuple #[.agg #[.int .i64 0, .int .i64 0, .int .i64 0], .int .i64 1]) (by simp [results, Try.results8, go_sem]) rfl ⟨rfl, ?_⟩
  exact below2 _ _ _
set_option maxHeartbeats 400000 in
set_option maxRecDepth 100000 in
theorem next_arg2 (s since tries ev now retry : Int) (w : World) (h0 : 0 ≤ s) (h1 : s < 8) (g1 : 1 ≤ ev) (h : 11 < ev) :
    Calls Try.prog 8 #[.agg #[.int .i64 s, .int .i64 since, .int .i64 tries], .int .i64 ev, .int .i64 now, .int .i64 retry] w (NextPost w 0 0 0 1) := by
  have b0 : decide (ev < 1) = false := by simp; omega
  have b1 : decide (11 < ev) = true := by simp; omega
  go_enter Try.func8, Try.ntmps8
  go_wp2_with (go_at_call 20; refine (isState_yes _ _ h0 h1).mono ?_; rintro e w' ⟨rfl, rfl⟩)
  refine bodyPost_ret (v := .tuple #[.agg #[.int .i64 0, .int .i64 0, .int .i64 0], .int .i64 1]) (by simp [results, Try.results8, go_sem]) rfl ⟨rfl, ?_⟩
  exact below2 _ _ _
set_option maxHeartbeats 400000 in
set_option maxRecDepth 100000 in
theorem next_arg3 (s since tries ev now retry : Int) (w : World) (h0 : 0 ≤ s) (h1 : s < 8) (g1 : 1 ≤ ev) (g2 : ev ≤ 11) (h : tries < 0) :
    Calls Try.prog 8 #[.agg #[.int .i64 s, .int .i64 since, .int .i64 tries], .int .i64 ev, .int .i64 now, .int .i64 retry] w (NextPost w 0 0 0 1) := by
  have b0 : decide (ev < 1) = false := by simp; omega
  have b1 : decide (11 < ev) = false := by simp; omega
  have b2 : decide (tries < 0) = true := by simp; omega
  go_enter Try.func8, Try.ntmps8
  go_wp2_with (go_at_call 20; refine (isState_yes _ _ h0 h1).mono ?_; rintro e w' ⟨rfl, rfl⟩)
  refine bodyPost_ret (v := .tuple #[.agg #[.int .i64 0, .int .i64 0, .int .i64 0], .int .i64 1]) (by simp [results, Try.results8, go_sem]) rfl ⟨rfl, ?_⟩
  exact below2 _ _ _
set_option maxHeartbeats 400000 in
set_option maxRecDepth 100000 in
theorem next_arg4 (s since tries ev now retry : Int) (w : World) (h0 : 0 ≤ s) (h1 : s < 8) (g1 : 1 ≤ ev) (g2 : ev ≤ 11) (g3 : 0 ≤ tries) (h : now < since) :
    Calls Try.prog 8 #[.agg #[.int .i64 s, .int .i64 since, .int .i64 tries], .int .i64 ev, .int .i64 now, .int .i64 retry] w (NextPost w 0 0 0 1) := by
  have b0 : decide (ev < 1) = false := by simp; omega
  have b1 : decide (11 < ev) = false := by simp; omega
  have b2 : decide (tries < 0) = false := by simp; omega
  have b3 : decide (now < since) = true := by simp; omega
  go_enter Try.func8, Try.ntmps8
  go_wp2_with (go_at_call 20; refine (isState_yes _ _ h0 h1).mono ?_; rintro e w' ⟨rfl, rfl⟩)
  refine bodyPost_ret (v := .tuple #[.agg #[.int .i64 0, .int .i64 0, .int .i64 0], .int .i64 1]) (by simp [results, Try.results8, go_sem]) rfl ⟨rfl, ?_⟩
  exact below2 _ _ _
theorem idx43' (s e t : Int) (h2 : 0 ≤ e) (h3 : e < 12) (ht : Hid (tabT s e = t)) (w : World) : (Instr.index 43 (.agg (rowA s.toNat)) (.int .i64 e)).run Try.prog w = .ok (.int .i64 t) w := by
  rw [idx43 s.toNat e h2 h3 w, show tabF (s.toNat * 12 + e.toNat) = t from ht.out]
set_option maxHeartbeats 400000 in
set_option maxRecDepth 100000 in
theorem next_none (s since tries ev now retry t : Int) (w : World) (h0 : 0 ≤ s) (h1 : s < 8) (h2 : 1 ≤ ev) (h3 : ev ≤ 11) (h4 : 0 ≤ tries) (h5 : since ≤ now) (ht : Hid (tabT s ev = t)) (c0 : t = -1) :
    Calls Try.prog 8 #[.agg #[.int .i64 s, .int .i64 since, .int .i64 tries], .int .i64 ev, .int .i64 now, .int .i64 retry] w (NextPost w 0 0 0 11) := by
  have hi1 := fun w => idx44 s h0 h1 w
  have hi2 := fun w => idx43' s ev t (by omega) (by omega) ht w
  have b1 : decide (ev < 1) = false := by simp; omega
  have b2 : decide (11 < ev) = false := by simp; omega
  have b3 : decide (tries < 0) = false := by simp; omega
  have b4 : decide (now < since) = false := by simp; omega
  subst c0
  go_enter Try.func8, Try.ntmps8
  go_wp2_with (go_at_call 20; refine (isState_yes _ _ h0 h1).mono ?_; rintro e w' ⟨rfl, rfl⟩)
  go_region_held3 (fun w' => w'.cell? ⟨w.heap.size, 0, none⟩ = some (.int .i64 s)) (go_keep)
    (first | (go_at_call 21; refine (table_any _).mono ?_; rintro e w' ⟨rfl, rfl⟩))
  go_wp2
  refine bodyPost_ret (v := .tuple #[.agg #[.int .i64 0, .int .i64 0, .int .i64 0], .int .i64 11]) (by simp [results, Try.results8, go_sem]) rfl ⟨rfl, ?_⟩
  exact below4 _ _ _ _ _
set_option maxHeartbeats 400000 in
set_option maxRecDepth 100000 in
theorem next_late_lo_y (s since tries ev now retry t : Int) (w : World) (h0 : 0 ≤ s) (h1 : s < 8) (h2 : 1 ≤ ev) (h3 : ev ≤ 11) (h4 : 0 ≤ tries) (h5 : since ≤ now) (ht : Hid (tabT s ev = t)) (c0 : t ≠ -1) (c1 : ev = 3) (c2 : tries ≤ 4611686018427387903) (c3 : retry < (tries + 1)) :
    Calls Try.prog 8 #[.agg #[.int .i64 s, .int .i64 since, .int .i64 tries], .int .i64 ev, .int .i64 now, .int .i64 retry] w (NextPost w 6 now (tries + 1) 0) := by
  have hi1 := fun w => idx44 s h0 h1 w
  have hi2 := fun w => idx43' s ev t (by omega) (by omega) ht w
  have b1 : decide (ev < 1) = false := by simp; omega
  have b2 : decide (11 < ev) = false := by simp; omega
  have b3 : decide (tries < 0) = false := by simp; omega
  have b4 : decide (now < since) = false := by simp; omega
  have c0' : (t == -1) = false := by simpa using c0
  clear c0
  subst c1
  have d1 : ¬ 4611686018427387903 < tries := by omega
  have d2 : tries < tries + 1 := by omega
  go_enter Try.func8, Try.ntmps8
  go_wp2_with (go_at_call 20; refine (isState_yes _ _ h0 h1).mono ?_; rintro e w' ⟨rfl, rfl⟩)
  go_region_held3 (fun w' => w'.cell? ⟨w.heap.size, 0, none⟩ = some (.int .i64 s)) (go_keep)
    (first | (go_at_call 21; refine (table_any _).mono ?_; rintro e w' ⟨rfl, rfl⟩))
  go_wp2
  refine bodyPost_ret (v := .tuple #[.agg #[.int .i64 6, .int .i64 now, .int .i64 (tries + 1)], .int .i64 0]) (by simp [results, Try.results8, go_sem]) rfl ⟨rfl, ?_⟩
  exact below5 _ _ _ _ _ _
set_option maxHeartbeats 400000 in
set_option maxRecDepth 100000 in
theorem next_late_lo_n (s since tries ev now retry t : Int) (w : World) (h0 : 0 ≤ s) (h1 : s < 8) (h2 : 1 ≤ ev) (h3 : ev ≤ 11) (h4 : 0 ≤ tries) (h5 : since ≤ now) (ht : Hid (tabT s ev = t)) (c0 : t ≠ -1) (c1 : ev = 3) (c2 : tries ≤ 4611686018427387903) (c3 : ¬ retry < (tries + 1)) :
    Calls Try.prog 8 #[.agg #[.int .i64 s, .int .i64 since, .int .i64 tries], .int .i64 ev, .int .i64 now, .int .i64 retry] w (NextPost w t now (tries + 1) 0) := by
  have hi1 := fun w => idx44 s h0 h1 w
  have hi2 := fun w => idx43' s ev t (by omega) (by omega) ht w
  have b1 : decide (ev < 1) = false := by simp; omega
  have b2 : decide (11 < ev) = false := by simp; omega
  have b3 : decide (tries < 0) = false := by simp; omega
  have b4 : decide (now < since) = false := by simp; omega
  have c0' : (t == -1) = false := by simpa using c0
  clear c0
  subst c1
  have d1 : ¬ 4611686018427387903 < tries := by omega
  have d2 : tries < tries + 1 := by omega
  go_enter Try.func8, Try.ntmps8
  go_wp2_with (go_at_call 20; refine (isState_yes _ _ h0 h1).mono ?_; rintro e w' ⟨rfl, rfl⟩)
  go_region_held3 (fun w' => w'.cell? ⟨w.heap.size, 0, none⟩ = some (.int .i64 s)) (go_keep)
    (first | (go_at_call 21; refine (table_any _).mono ?_; rintro e w' ⟨rfl, rfl⟩))
  go_wp2
  refine bodyPost_ret (v := .tuple #[.agg #[.int .i64 t, .int .i64 now, .int .i64 (tries + 1)], .int .i64 0]) (by simp [results, Try.results8, go_sem]) rfl ⟨rfl, ?_⟩
  exact below5 _ _ _ _ _ _
set_option maxHeartbeats 400000 in
set_option maxRecDepth 100000 in
theorem next_late_hi_y (s since tries ev now retry t : Int) (w : World) (h0 : 0 ≤ s) (h1 : s < 8) (h2 : 1 ≤ ev) (h3 : ev ≤ 11) (h4 : 0 ≤ tries) (h5 : since ≤ now) (ht : Hid (tabT s ev = t)) (c0 : t ≠ -1) (c1 : ev = 3) (c2 : 4611686018427387903 < tries) (c3 : retry < tries) :
    Calls Try.prog 8 #[.agg #[.int .i64 s, .int .i64 since, .int .i64 tries], .int .i64 ev, .int .i64 now, .int .i64 retry] w (NextPost w 6 now tries 0) := by
  have hi1 := fun w => idx44 s h0 h1 w
  have hi2 := fun w => idx43' s ev t (by omega) (by omega) ht w
  have b1 : decide (ev < 1) = false := by simp; omega
  have b2 : decide (11 < ev) = false := by simp; omega
  have b3 : decide (tries < 0) = false := by simp; omega
  have b4 : decide (now < since) = false := by simp; omega
  have c0' : (t == -1) = false := by simpa using c0
  clear c0
  subst c1
  have d2 : ¬ tries < 4611686018427387903 + 1 := by omega
  go_enter Try.func8, Try.ntmps8
  go_wp2_with (go_at_call 20; refine (isState_yes _ _ h0 h1).mono ?_; rintro e w' ⟨rfl, rfl⟩)
  go_region_held3 (fun w' => w'.cell? ⟨w.heap.size, 0, none⟩ = some (.int .i64 s)) (go_keep)
    (first | (go_at_call 21; refine (table_any _).mono ?_; rintro e w' ⟨rfl, rfl⟩))
  go_wp2
  refine bodyPost_ret (v := .tuple #[.agg #[.int .i64 6, .int .i64 now, .int .i64 tries], .int .i64 0]) (by simp [results, Try.results8, go_sem]) rfl ⟨rfl, ?_⟩
  exact below5 _ _ _ _ _ _
set_option maxHeartbeats 400000 in
set_option maxRecDepth 100000 in
theorem next_late_hi_n (s since tries ev now retry t : Int) (w : World) (h0 : 0 ≤ s) (h1 : s < 8) (h2 : 1 ≤ ev) (h3 : ev ≤ 11) (h4 : 0 ≤ tries) (h5 : since ≤ now) (ht : Hid (tabT s ev = t)) (c0 : t ≠ -1) (c1 : ev = 3) (c2 : 4611686018427387903 < tries) (c3 : ¬ retry < tries) :
    Calls Try.prog 8 #[.agg #[.int .i64 s, .int .i64 since, .int .i64 tries], .int .i64 ev, .int .i64 now, .int .i64 retry] w (NextPost w t now tries 0) := by
  have hi1 := fun w => idx44 s h0 h1 w
  have hi2 := fun w => idx43' s ev t (by omega) (by omega) ht w
  have b1 : decide (ev < 1) = false := by simp; omega
  have b2 : decide (11 < ev) = false := by simp; omega
  have b3 : decide (tries < 0) = false := by simp; omega
  have b4 : decide (now < since) = false := by simp; omega
  have c0' : (t == -1) = false := by simpa using c0
  clear c0
  subst c1
  have d2 : ¬ tries < 4611686018427387903 + 1 := by omega
  go_enter Try.func8, Try.ntmps8
  go_wp2_with (go_at_call 20; refine (isState_yes _ _ h0 h1).mono ?_; rintro e w' ⟨rfl, rfl⟩)
  go_region_held3 (fun w' => w'.cell? ⟨w.heap.size, 0, none⟩ = some (.int .i64 s)) (go_keep)
    (first | (go_at_call 21; refine (table_any _).mono ?_; rintro e w' ⟨rfl, rfl⟩))
  go_wp2
  refine bodyPost_ret (v := .tuple #[.agg #[.int .i64 t, .int .i64 now, .int .i64 tries], .int .i64 0]) (by simp [results, Try.results8, go_sem]) rfl ⟨rfl, ?_⟩
  exact below5 _ _ _ _ _ _
set_option maxHeartbeats 400000 in
set_option maxRecDepth 100000 in
theorem next_two (s since tries ev now retry t : Int) (w : World) (h0 : 0 ≤ s) (h1 : s < 8) (h2 : 1 ≤ ev) (h3 : ev ≤ 11) (h4 : 0 ≤ tries) (h5 : since ≤ now) (ht : Hid (tabT s ev = t)) (c0 : t ≠ -1) (c1 : ev = 2) :
    Calls Try.prog 8 #[.agg #[.int .i64 s, .int .i64 since, .int .i64 tries], .int .i64 ev, .int .i64 now, .int .i64 retry] w (NextPost w t now 0 0) := by
  have hi1 := fun w => idx44 s h0 h1 w
  have hi2 := fun w => idx43' s ev t (by omega) (by omega) ht w
  have b1 : decide (ev < 1) = false := by simp; omega
  have b2 : decide (11 < ev) = false := by simp; omega
  have b3 : decide (tries < 0) = false := by simp; omega
  have b4 : decide (now < since) = false := by simp; omega
  have c0' : (t == -1) = false := by simpa using c0
  clear c0
  subst c1
  go_enter Try.func8, Try.ntmps8
  go_wp2_with (go_at_call 20; refine (isState_yes _ _ h0 h1).mono ?_; rintro e w' ⟨rfl, rfl⟩)
  go_region_held3 (fun w' => w'.cell? ⟨w.heap.size, 0, none⟩ = some (.int .i64 s)) (go_keep)
    (first | (go_at_call 21; refine (table_any _).mono ?_; rintro e w' ⟨rfl, rfl⟩))
  go_wp2
  refine bodyPost_ret (v := .tuple #[.agg #[.int .i64 t, .int .i64 now, .int .i64 0], .int .i64 0]) (by simp [results, Try.results8, go_sem]) rfl ⟨rfl, ?_⟩
  exact below5 _ _ _ _ _ _
set_option maxHeartbeats 400000 in
set_option maxRecDepth 100000 in
theorem next_nine (s since tries ev now retry t : Int) (w : World) (h0 : 0 ≤ s) (h1 : s < 8) (h2 : 1 ≤ ev) (h3 : ev ≤ 11) (h4 : 0 ≤ tries) (h5 : since ≤ now) (ht : Hid (tabT s ev = t)) (c0 : t ≠ -1) (c1 : ev = 9) :
    Calls Try.prog 8 #[.agg #[.int .i64 s, .int .i64 since, .int .i64 tries], .int .i64 ev, .int .i64 now, .int .i64 retry] w (NextPost w t now 0 0) := by
  have hi1 := fun w => idx44 s h0 h1 w
  have hi2 := fun w => idx43' s ev t (by omega) (by omega) ht w
  have b1 : decide (ev < 1) = false := by simp; omega
  have b2 : decide (11 < ev) = false := by simp; omega
  have b3 : decide (tries < 0) = false := by simp; omega
  have b4 : decide (now < since) = false := by simp; omega
  have c0' : (t == -1) = false := by simpa using c0
  clear c0
  subst c1
  go_enter Try.func8, Try.ntmps8
  go_wp2_with (go_at_call 20; refine (isState_yes _ _ h0 h1).mono ?_; rintro e w' ⟨rfl, rfl⟩)
  go_region_held3 (fun w' => w'.cell? ⟨w.heap.size, 0, none⟩ = some (.int .i64 s)) (go_keep)
    (first | (go_at_call 21; refine (table_any _).mono ?_; rintro e w' ⟨rfl, rfl⟩))
  go_wp2
  refine bodyPost_ret (v := .tuple #[.agg #[.int .i64 t, .int .i64 now, .int .i64 0], .int .i64 0]) (by simp [results, Try.results8, go_sem]) rfl ⟨rfl, ?_⟩
  exact below5 _ _ _ _ _ _
set_option maxHeartbeats 400000 in
set_option maxRecDepth 100000 in
theorem next_else (s since tries ev now retry t : Int) (w : World) (h0 : 0 ≤ s) (h1 : s < 8) (h2 : 1 ≤ ev) (h3 : ev ≤ 11) (h4 : 0 ≤ tries) (h5 : since ≤ now) (ht : Hid (tabT s ev = t)) (c0 : t ≠ -1) (c1 : ev ≠ 3) (c2 : ev ≠ 2) (c3 : ev ≠ 9) :
    Calls Try.prog 8 #[.agg #[.int .i64 s, .int .i64 since, .int .i64 tries], .int .i64 ev, .int .i64 now, .int .i64 retry] w (NextPost w t now tries 0) := by
  have hi1 := fun w => idx44 s h0 h1 w
  have hi2 := fun w => idx43' s ev t (by omega) (by omega) ht w
  have b1 : decide (ev < 1) = false := by simp; omega
  have b2 : decide (11 < ev) = false := by simp; omega
  have b3 : decide (tries < 0) = false := by simp; omega
  have b4 : decide (now < since) = false := by simp; omega
  have c0' : (t == -1) = false := by simpa using c0
  clear c0
  have d1 : (ev == 3) = false := by simpa using c1
  have d2 : (ev == 2) = false := by simpa using c2
  have d3 : (ev == 9) = false := by simpa using c3
  clear c1 c2 c3
  go_enter Try.func8, Try.ntmps8
  go_wp2_with (go_at_call 20; refine (isState_yes _ _ h0 h1).mono ?_; rintro e w' ⟨rfl, rfl⟩)
  go_region_held3 (fun w' => w'.cell? ⟨w.heap.size, 0, none⟩ = some (.int .i64 s)) (go_keep)
    (first | (go_at_call 21; refine (table_any _).mono ?_; rintro e w' ⟨rfl, rfl⟩))
  go_wp2
  refine bodyPost_ret (v := .tuple #[.agg #[.int .i64 t, .int .i64 now, .int .i64 tries], .int .i64 0]) (by simp [results, Try.results8, go_sem]) rfl ⟨rfl, ?_⟩
  exact below5 _ _ _ _ _ _

/-- What Next answers: state, since, tries, error. -/
def nextF (s since tries ev now retry : Int) : Int × Int × Int × Int :=
  if s < 0 ∨ 8 ≤ s ∨ ev < 1 ∨ 11 < ev ∨ tries < 0 ∨ now < since then (0, 0, 0, 1)
  else if tabT s ev = -1 then (0, 0, 0, 11)
  else if ev = 3 then
    if retry < (if tries ≤ 4611686018427387903 then tries + 1 else tries) then (6, now, (if tries ≤ 4611686018427387903 then tries + 1 else tries), 0)
    else (tabT s ev, now, (if tries ≤ 4611686018427387903 then tries + 1 else tries), 0)
  else if ev = 2 ∨ ev = 9 then (tabT s ev, now, 0, 0)
  else (tabT s ev, now, tries, 0)

def NextAny (w : World) (r : Int × Int × Int × Int) : Ending → World → Prop := NextPost w r.1 r.2.1 r.2.2.1 r.2.2.2

theorem next_any (s since tries ev now retry : Int) (w : World) :
    Calls Try.prog 8 #[.agg #[.int .i64 s, .int .i64 since, .int .i64 tries], .int .i64 ev, .int .i64 now, .int .i64 retry] w (NextAny w (nextF s since tries ev now retry)) := by
  unfold NextAny
  by_cases hs : s < 0 ∨ 8 ≤ s
  · rw [show nextF s since tries ev now retry = (0, 0, 0, 1) from if_pos (by omega)]
    exact next_arg0 _ _ _ _ _ _ _ hs
  · by_cases h1 : ev < 1
    · rw [show nextF s since tries ev now retry = (0, 0, 0, 1) from if_pos (by omega)]
      exact next_arg1 _ _ _ _ _ _ _ (by omega) (by omega) h1
    · by_cases h2 : 11 < ev
      · rw [show nextF s since tries ev now retry = (0, 0, 0, 1) from if_pos (by omega)]
        exact next_arg2 _ _ _ _ _ _ _ (by omega) (by omega) (by omega) h2
      · by_cases h3 : tries < 0
        · rw [show nextF s since tries ev now retry = (0, 0, 0, 1) from if_pos (by omega)]
          exact next_arg3 _ _ _ _ _ _ _ (by omega) (by omega) (by omega) (by omega) h3
        · by_cases h4 : now < since
          · rw [show nextF s since tries ev now retry = (0, 0, 0, 1) from if_pos (by omega)]
            exact next_arg4 _ _ _ _ _ _ _ (by omega) (by omega) (by omega) (by omega) (by omega) h4
          · have e0 : nextF s since tries ev now retry = _ := if_neg (by omega)
            rw [e0]
            have H0 : 0 ≤ s := by omega
            have H1 : s < 8 := by omega
            have H2 : 1 ≤ ev := by omega
            have H3 : ev ≤ 11 := by omega
            have H4 : 0 ≤ tries := by omega
            have H5 : since ≤ now := by omega
            clear e0 hs h1 h2 h3 h4
            obtain ⟨t, ht⟩ : ∃ t, tabT s ev = t := ⟨_, rfl⟩
            rw [ht]
            by_cases c0 : t = -1
            · rw [if_pos c0]; exact next_none _ _ _ _ _ _ t _ H0 H1 H2 H3 H4 H5 ht c0
            · rw [if_neg c0]
              by_cases c1 : ev = 3
              · rw [if_pos c1]
                by_cases c2 : tries ≤ 4611686018427387903
                · rw [if_pos c2]
                  by_cases c3 : retry < tries + 1
                  · rw [if_pos c3]; exact next_late_lo_y _ _ _ _ _ _ t _ H0 H1 H2 H3 H4 H5 ht c0 c1 c2 c3
                  · rw [if_neg c3]; exact next_late_lo_n _ _ _ _ _ _ t _ H0 H1 H2 H3 H4 H5 ht c0 c1 c2 c3
                · rw [if_neg c2]
                  by_cases c3 : retry < tries
                  · rw [if_pos c3]; exact next_late_hi_y _ _ _ _ _ _ t _ H0 H1 H2 H3 H4 H5 ht c0 c1 (by omega) c3
                  · rw [if_neg c3]; exact next_late_hi_n _ _ _ _ _ _ t _ H0 H1 H2 H3 H4 H5 ht c0 c1 (by omega) c3
              · rw [if_neg c1]
                by_cases c2 : ev = 2
                · rw [if_pos (.inl c2)]; exact next_two _ _ _ _ _ _ t _ H0 H1 H2 H3 H4 H5 ht c0 c2
                · by_cases c3 : ev = 9
                  · rw [if_pos (.inr c3)]; exact next_nine _ _ _ _ _ _ t _ H0 H1 H2 H3 H4 H5 ht c0 c3
                  · rw [if_neg (by omega)]; exact next_else _ _ _ _ _ _ t _ H0 H1 H2 H3 H4 H5 ht c0 c1 c2 c3
end Go.Proofs.Ytojinbckpjddmaa
