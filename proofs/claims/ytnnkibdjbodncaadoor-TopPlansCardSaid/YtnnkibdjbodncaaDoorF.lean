/- The k-th number of a set: sets of the numbers below eight; the table is as it is laid. -/
import Derived.Test.YtnnkibdjbodncaaDoorE
namespace Go.Proofs.YtnnkibdjbodncaaDoor
open Go.RowKit
/-- A set without its lowest number, so many times. -/
def clrN : Nat → Nat → Nat
  | x, 0 => x
  | x, k + 1 => clrN x k &&& (clrN x k - 1)
/-- The k-th number of a set. -/
def nthN (x k : Nat) : Nat := lowN (clrN x k)
theorem wrap_u64' (n : Int) : IntKind.u64.wrap n = n % 18446744073709551616 := by simp [IntKind.wrap, IntKind.bits, IntKind.signed]
theorem clr_small : ∀ (x : Fin 256) (k : Fin 9), k.val < popN x.val → clrN x.val k.val < 256 ∧ clrN x.val k.val ≠ 0 ∧ bits .and .u64 (clrN x.val k.val : Int) ((clrN x.val k.val : Int) - 1) = (clrN x.val (k.val + 1) : Int) ∧ nthN x.val k.val < 8 ∧ bits .or .i64 0 (nthN x.val k.val : Int) = nthN x.val k.val := by decide +kernel
def NthPost (w : World) (n : Int) (b : Bool) (e : Ending) (w' : World) : Prop := e = .returned (.tuple #[.int .i64 n, .bool b]) ∧ Below w.heap.size w w'
set_option maxHeartbeats 2000000 in
set_option maxRecDepth 100000 in
theorem nth_none (x k : Nat) (hx : x < 256) (hk : popN x ≤ k) (hk9 : k ≤ 1000) (w : World) : Calls Tryd.prog 33 #[.agg #[.int .u64 x, .int .u64 0, .int .u64 0, .int .u64 0], .int .i64 k] w (NthPost w 0 false) := by
  have HX := Lib.hid (fun w => ones_any x hx w)
  have H0 := Lib.hid (fun w => ones_any 0 (by omega) w)
  obtain ⟨n, hn⟩ : ∃ n, popN x = n := ⟨_, rfl⟩
  rw [hn] at HX hk
  clear hn
  obtain ⟨d, hd⟩ : ∃ d : Nat, (k : Int) - n = d := ⟨k - n, by omega⟩
  have hd0 : (0 : Int) ≤ (d : Int) := by omega
  have hnk : (n : Int) ≤ (k : Int) := by omega
  have HB := Lib.hid (below_alloc' w (.cells #[.int .u64 x, .int .u64 0, .int .u64 0, .int .u64 0] 28))
  have i0 : ∀ w, (Instr.index 28 (.agg #[.int .u64 x, .int .u64 0, .int .u64 0, .int .u64 0]) (.int .i64 0)).run Tryd.prog w = .ok (.int .u64 x) w := fun _ => by kernel_rfl
  have i1 : ∀ w, (Instr.index 28 (.agg #[.int .u64 x, .int .u64 0, .int .u64 0, .int .u64 0]) (.int .i64 1)).run Tryd.prog w = .ok (.int .u64 0) w := fun _ => by kernel_rfl
  have i2 : ∀ w, (Instr.index 28 (.agg #[.int .u64 x, .int .u64 0, .int .u64 0, .int .u64 0]) (.int .i64 2)).run Tryd.prog w = .ok (.int .u64 0) w := fun _ => by kernel_rfl
  have i3 : ∀ w, (Instr.index 28 (.agg #[.int .u64 x, .int .u64 0, .int .u64 0, .int .u64 0]) (.int .i64 3)).run Tryd.prog w = .ok (.int .u64 0) w := fun _ => by kernel_rfl
  go_enter Tryd.func33, Tryd.ntmps33
  go_wp2_with fail
  go_loopw [1, 12] (fun v i wr => (i = .int .i64 0 ∧ v = .int .i64 (k : Nat) ∨ i = .int .i64 1 ∧ v = .int .i64 (d : Nat) ∨ i = .int .i64 2 ∧ v = .int .i64 (d : Nat) ∨ i = .int .i64 3 ∧ v = .int .i64 (d : Nat) ∨ i = .int .i64 4 ∧ v = .int .i64 (d : Nat)) ∧ wr = w.alloc (.cells #[.int .u64 x, .int .u64 0, .int .u64 0, .int .u64 0] 28)) (fun _ i _ => 4 - (intOf i).toNat)
  case atStart => exact ⟨.inl ⟨rfl, rfl⟩, rfl⟩
  case round =>
    obtain ⟨hk, rfl⟩ := hrel
    rcases hk with ⟨rfl, rfl⟩ | ⟨rfl, rfl⟩ | ⟨rfl, rfl⟩ | ⟨rfl, rfl⟩ | ⟨rfl, rfl⟩
    · go_wp2_with (go_at_call 35; refine (HX.out _).mono ?_; rintro e w1 ⟨rfl, rfl⟩)
      simp [intOf]
    · go_wp2_with (go_at_call 35; refine (H0.out _).mono ?_; rintro e w1 ⟨rfl, rfl⟩; rw [show popN 0 = 0 from rfl])
      simp [intOf]
    · go_wp2_with (go_at_call 35; refine (H0.out _).mono ?_; rintro e w1 ⟨rfl, rfl⟩; rw [show popN 0 = 0 from rfl])
      simp [intOf]
    · go_wp2_with (go_at_call 35; refine (H0.out _).mono ?_; rintro e w1 ⟨rfl, rfl⟩; rw [show popN 0 = 0 from rfl])
      simp [intOf]
    · go_wp2_with fail
      go_ret2
      exact ⟨rfl, HB.out⟩
set_option maxHeartbeats 2000000 in
set_option maxRecDepth 100000 in
theorem nth_some (x k : Nat) (hx : x < 256) (hk : k < popN x) (w : World) (hT : Tab w) : Calls Tryd.prog 33 #[.agg #[.int .u64 x, .int .u64 0, .int .u64 0, .int .u64 0], .int .i64 k] w (NthPost w (nthN x k) true) := by
  have HX := Lib.hid (fun w => ones_any x hx w)
  have hp := popN_le x
  have HS := Lib.hid (fun j (hj : j < popN x) => clr_small ⟨x, hx⟩ ⟨j, by omega⟩ hj)
  have HK := Lib.hid hk
  obtain ⟨y, hy⟩ : ∃ y, clrN x k = y := ⟨_, rfl⟩
  have HZ := Lib.hid (fun w hT => zeros_any (clrN x k) (HS.out k hk).1 (HS.out k hk).2.1 w hT)
  have hor := (HS.out k hk).2.2.2.2
  have hm8 := (HS.out k hk).2.2.2.1
  rw [show lowN (clrN x k) = nthN x k from rfl] at HZ
  have HT := Lib.hid (show Tab (w.alloc (.cells #[.int .u64 x, .int .u64 0, .int .u64 0, .int .u64 0] 28)) from fun i hi => by rw [(below_alloc' w (.cells #[.int .u64 x, .int .u64 0, .int .u64 0, .int .u64 0] 28)).cell (block_lt_of_cell (hT i hi))]; exact hT i hi)
  have hkn : (k : Int) < (popN x : Int) := by omega
  have HB := Lib.hid (below_alloc' w (.cells #[.int .u64 x, .int .u64 0, .int .u64 0, .int .u64 0] 28))
  clear hT hy
  obtain ⟨m, hm⟩ : ∃ m, nthN x k = m := ⟨_, rfl⟩
  rw [hm] at hor hm8 HZ ⊢
  clear hm
  have i0 : ∀ w, (Instr.index 28 (.agg #[.int .u64 x, .int .u64 0, .int .u64 0, .int .u64 0]) (.int .i64 0)).run Tryd.prog w = .ok (.int .u64 x) w := fun _ => by kernel_rfl
  have i1 : ∀ w, (Instr.index 28 (.agg #[.int .u64 x, .int .u64 0, .int .u64 0, .int .u64 0]) (.int .i64 1)).run Tryd.prog w = .ok (.int .u64 0) w := fun _ => by kernel_rfl
  have i2 : ∀ w, (Instr.index 28 (.agg #[.int .u64 x, .int .u64 0, .int .u64 0, .int .u64 0]) (.int .i64 2)).run Tryd.prog w = .ok (.int .u64 0) w := fun _ => by kernel_rfl
  have i3 : ∀ w, (Instr.index 28 (.agg #[.int .u64 x, .int .u64 0, .int .u64 0, .int .u64 0]) (.int .i64 3)).run Tryd.prog w = .ok (.int .u64 0) w := fun _ => by kernel_rfl
  go_enter Tryd.func33, Tryd.ntmps33
  go_wp2_with fail
  go_loopw [1, 12] (fun v i wr => i = .int .i64 0 ∧ v = .int .i64 (k : Nat) ∧ wr = w.alloc (.cells #[.int .u64 x, .int .u64 0, .int .u64 0, .int .u64 0] 28)) (fun _ i _ => 4 - (intOf i).toNat)
  case atStart => exact ⟨rfl, rfl, rfl⟩
  case round =>
    obtain ⟨rfl, rfl, rfl⟩ := hrel
    have hnk : ¬ (popN x : Int) ≤ (k : Int) := by omega
    obtain ⟨n, hn⟩ : ∃ n, popN x = n := ⟨_, rfl⟩
    rw [hn] at HX hnk hkn
    have HN := Lib.hid hn
    clear hn
    go_wp2_with (go_at_call 35; refine (HX.out _).mono ?_; rintro e w1 ⟨rfl, rfl⟩)
    go_loopw [1, 7] (fun v u wr => ∃ r j : Nat, r + j = k ∧ v = .int .i64 (r : Nat) ∧ u = .int .u64 (clrN x j : Nat) ∧ wr = w.alloc (.cells #[.int .u64 x, .int .u64 0, .int .u64 0, .int .u64 0] 28)) (fun v _ _ => (intOf v).toNat)
    case atStart => exact ⟨k, 0, by omega, rfl, rfl, rfl⟩
    case round =>
      obtain ⟨r, j, hrj, rfl, rfl, rfl⟩ := hrel
      by_cases hr : 0 < r
      · have hri : (0 : Int) < (r : Int) := by omega
        obtain ⟨q1, q2, q3, -, -⟩ := HS.out j (by have := HK.out; omega)
        obtain ⟨y, hy⟩ : ∃ y, clrN x j = y := ⟨_, rfl⟩
        obtain ⟨y', hy'⟩ : ∃ y', clrN x (j + 1) = y' := ⟨_, rfl⟩
        rw [hy] at q1 q2 q3
        rw [hy'] at q3
        rw [hy]
        have HY' := Lib.hid hy'
        have hw : IntKind.u64.wrap ((y : Int) - 1) = (y : Int) - 1 := by rw [wrap_u64']; omega
        obtain ⟨r', hr'⟩ : ∃ r' : Nat, (r : Int) - 1 = (r' : Int) := ⟨r - 1, by omega⟩
        have hr9 : r ≤ 8 := by have := HK.out; omega
        clear hy hy' q2
        go_wp2_with fail
        exact ⟨⟨r', j + 1, by omega, rfl, by rw [HY'.out], by first | rfl | trivial⟩, by simp [intOf]; omega⟩
      · obtain rfl : r = 0 := by omega
        obtain rfl : j = k := by omega
        go_wp2_with (go_at_call 36; refine (HZ.out _ HT.out).mono ?_; rintro e w1 ⟨rfl, rfl⟩)
        go_ret2
        exact ⟨rfl, HB.out⟩
end Go.Proofs.YtnnkibdjbodncaaDoor
