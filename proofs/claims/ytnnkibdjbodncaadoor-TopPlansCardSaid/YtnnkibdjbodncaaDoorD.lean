/- How many numbers a set has, and which comes first: sets of the numbers below eight. No condition but that. -/
import Derived.Test.YtnnkibdjbodncaaDoorC
import Derived.Test.YtnnkibdjbodncaaDoorB
namespace Go.Proofs.YtnnkibdjbodncaaDoor
open Go.RowKit
theorem popN_le (x : Nat) : popN x ≤ 8 := by
  unfold popN
  exact Nat.le_trans (List.length_filter_le _ _) (by simp)
def CountPost (w : World) (n : Int) (e : Ending) (w' : World) : Prop := e = .returned (.int .i64 n) ∧ Below w.heap.size w w'
set_option maxHeartbeats 1000000 in
set_option maxRecDepth 100000 in
theorem count_any (x : Nat) (hx : x < 256) (w : World) : Calls Tryd.prog 32 #[.agg #[.int .u64 x, .int .u64 0, .int .u64 0, .int .u64 0]] w (CountPost w (popN x)) := by
  have HX := Lib.hid (fun w => ones_any x hx w)
  have H0 := Lib.hid (fun w => ones_any 0 (by omega) w)
  have hp := popN_le x
  obtain ⟨n, hn⟩ : ∃ n, popN x = n := ⟨_, rfl⟩
  rw [hn] at HX hp ⊢
  clear hn
  have HB := Lib.hid (below_alloc' w (.cells #[.int .u64 x, .int .u64 0, .int .u64 0, .int .u64 0] 28))
  have i0 : ∀ w, (Instr.index 28 (.agg #[.int .u64 x, .int .u64 0, .int .u64 0, .int .u64 0]) (.int .i64 0)).run Tryd.prog w = .ok (.int .u64 x) w := fun _ => by kernel_rfl
  have i1 : ∀ w, (Instr.index 28 (.agg #[.int .u64 x, .int .u64 0, .int .u64 0, .int .u64 0]) (.int .i64 1)).run Tryd.prog w = .ok (.int .u64 0) w := fun _ => by kernel_rfl
  have i2 : ∀ w, (Instr.index 28 (.agg #[.int .u64 x, .int .u64 0, .int .u64 0, .int .u64 0]) (.int .i64 2)).run Tryd.prog w = .ok (.int .u64 0) w := fun _ => by kernel_rfl
  have i3 : ∀ w, (Instr.index 28 (.agg #[.int .u64 x, .int .u64 0, .int .u64 0, .int .u64 0]) (.int .i64 3)).run Tryd.prog w = .ok (.int .u64 0) w := fun _ => by kernel_rfl
  go_enter Tryd.func32, Tryd.ntmps32
  go_wp2_with fail
  go_loopw [3, 7] (fun v i wr => (i = .int .i64 0 ∧ v = .int .i64 0 ∨ i = .int .i64 1 ∧ v = .int .i64 (n : Nat) ∨ i = .int .i64 2 ∧ v = .int .i64 (n : Nat) ∨ i = .int .i64 3 ∧ v = .int .i64 (n : Nat) ∨ i = .int .i64 4 ∧ v = .int .i64 (n : Nat)) ∧ wr = w.alloc (.cells #[.int .u64 x, .int .u64 0, .int .u64 0, .int .u64 0] 28)) (fun _ i _ => 4 - (intOf i).toNat)
  case atStart => exact ⟨.inl ⟨rfl, rfl⟩, rfl⟩
  case round =>
    obtain ⟨hk, rfl⟩ := hrel
    rcases hk with ⟨rfl, rfl⟩ | ⟨rfl, rfl⟩ | ⟨rfl, rfl⟩ | ⟨rfl, rfl⟩ | ⟨rfl, rfl⟩
    · go_wp2_with (go_at_call 35; refine (HX.out _).mono ?_; rintro e w1 ⟨rfl, rfl⟩)
      simp [intOf]
    · go_wp2_with (go_at_call 35; refine (H0.out _).mono ?_; rintro e w1 ⟨rfl, rfl⟩; rw [show popN 0 = 0 from rfl])
      simp [intOf]
    · go_wp2_with (go_at_call 35; refine (H0.out _).mono ?_; rintro e w1 ⟨rfl, rfl⟩; rw [show popN 0 = 0 from rfl])
      simp [intOf]
    · go_wp2_with (go_at_call 35; refine (H0.out _).mono ?_; rintro e w1 ⟨rfl, rfl⟩; rw [show popN 0 = 0 from rfl])
      simp [intOf]
    · go_wp2_with fail
      go_ret
      exact ⟨rfl, HB.out⟩
end Go.Proofs.YtnnkibdjbodncaaDoor
