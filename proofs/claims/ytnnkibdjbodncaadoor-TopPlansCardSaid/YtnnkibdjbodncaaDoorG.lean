/- The set of all numbers below one, up to eight. No condition but that. -/
import Derived.Test.YtnnkibdjbodncaaDoorB
namespace Go.Proofs.YtnnkibdjbodncaaDoor
open Go.RowKit
theorem wrap_u64'' (n : Int) : IntKind.u64.wrap n = n % 18446744073709551616 := by simp [IntKind.wrap, IntKind.bits, IntKind.signed]
set_option maxHeartbeats 2000000 in
set_option maxRecDepth 100000 in
theorem below_any (n : Nat) (hn : n ≤ 8) (w : World) : Calls Tryd.prog 34 #[.int .i64 n] w (AggPost w [2 ^ n - 1, 0, 0, 0]) := by
  have m0 : ((n : Int) < 0) = False := eq_false (by omega)
  have m1 : ((64 : Int) < (n : Int)) = False := eq_false (by omega)
  obtain ⟨p, hp⟩ : ∃ p : Nat, (2 : Int) ^ n = p := ⟨2 ^ n, by simp⟩
  have hp1 : 1 ≤ p := by have : (1 : Int) ≤ 2 ^ n := Int.le_of_lt_add_one (by have := Int.pow_pos (n := 2) (m := n) (by omega); omega); omega
  have hp9 : p ≤ 256 := by
    have : (2 : Int) ^ n ≤ 2 ^ 8 := by exact_mod_cast Nat.pow_le_pow_right (by omega) hn
    omega
  have wp : IntKind.u64.wrap (p : Int) = p := by rw [wrap_u64'']; omega
  have wp1 : IntKind.u64.wrap ((p : Int) - 1) = (p : Int) - 1 := by rw [wrap_u64'']; omega
  rw [hp]
  go_enter Tryd.func34, Tryd.ntmps34
  go_wp2_with fail
  go_loopw [5] (fun i wr => (i = .int .i64 0 ∧ Blk4 wr (w.heap.size + 1) 0 0 0 0 ∨ i = .int .i64 1 ∧ Blk4 wr (w.heap.size + 1) ((p : Int) - 1) 0 0 0 ∨ i = .int .i64 2 ∧ Blk4 wr (w.heap.size + 1) ((p : Int) - 1) 0 0 0 ∨ i = .int .i64 3 ∧ Blk4 wr (w.heap.size + 1) ((p : Int) - 1) 0 0 0 ∨ i = .int .i64 4 ∧ Blk4 wr (w.heap.size + 1) ((p : Int) - 1) 0 0 0) ∧
      Blk4 wr w.heap.size 0 0 0 0 ∧ Below w.heap.size w wr) (fun i _ => 4 - (intOf i).toNat)
  case atStart =>
    refine ⟨.inl ⟨rfl, ?_⟩, ?_, (below_alloc' w (.cells #[.int .u64 0, .int .u64 0, .int .u64 0, .int .u64 0] 28)).alloc (by simp) (.cells #[.int .u64 0, .int .u64 0, .int .u64 0, .int .u64 0] 28)⟩
    · have h2 := heap_alloc_new (w.alloc (.cells #[.int .u64 0, .int .u64 0, .int .u64 0, .int .u64 0] 28)) (.cells #[.int .u64 0, .int .u64 0, .int .u64 0, .int .u64 0] 28)
      rw [World.size_alloc] at h2
      exact h2
    · unfold Blk4
      rw [Below.heap_alloc _ _ _ (by simp)]
      exact heap_alloc_new w _
  case round =>
    obtain ⟨hk, hR, hbel⟩ := hrel
    have HR := Lib.hid hR
    have HL := Lib.hid hbel
    obtain ⟨r0, r1, r2, r3⟩ := hR.cells
    have fR := hR.frozen
    clear hR hbel
    rcases hk with ⟨rfl, hA⟩ | ⟨rfl, hA⟩ | ⟨rfl, hA⟩ | ⟨rfl, hA⟩ | ⟨rfl, hA⟩
    · obtain ⟨c0, c1, c2, c3⟩ := hA.cells
      have fA := hA.frozen
      have HA := Lib.hid hA
      clear hA
      go_wp2_with fail
      refine ⟨⟨Or.inr (Or.inl ⟨rfl, ?_⟩), HR.out.far (by omega) _, HL.out.setCell (by simp) _⟩, by simp [intOf]⟩
      unfold Blk4
      rw [heap_set4 _ _ _ _ _ _ HA.out]
      rfl
    · obtain ⟨c0, c1, c2, c3⟩ := hA.cells
      have fA := hA.frozen
      have HA := Lib.hid hA
      clear hA
      have m2 : ((n : Int) - 64 < 0) = True := eq_true (by omega)
      go_wp2_with fail
      refine ⟨⟨Or.inr (Or.inr (Or.inl ⟨rfl, ?_⟩)), HR.out.far (by omega) _, HL.out.setCell (by simp) _⟩, by simp [intOf]⟩
      unfold Blk4
      rw [heap_set4 _ _ _ _ _ _ HA.out]
      rfl
    · obtain ⟨c0, c1, c2, c3⟩ := hA.cells
      have fA := hA.frozen
      have HA := Lib.hid hA
      clear hA
      have m2 : ((n : Int) - 128 < 0) = True := eq_true (by omega)
      go_wp2_with fail
      refine ⟨⟨Or.inr (Or.inr (Or.inr (Or.inl ⟨rfl, ?_⟩))), HR.out.far (by omega) _, HL.out.setCell (by simp) _⟩, by simp [intOf]⟩
      unfold Blk4
      rw [heap_set4 _ _ _ _ _ _ HA.out]
      rfl
    · obtain ⟨c0, c1, c2, c3⟩ := hA.cells
      have fA := hA.frozen
      have HA := Lib.hid hA
      clear hA
      have m2 : ((n : Int) - 192 < 0) = True := eq_true (by omega)
      go_wp2_with fail
      refine ⟨⟨Or.inr (Or.inr (Or.inr (Or.inr ⟨rfl, ?_⟩))), HR.out.far (by omega) _, HL.out.setCell (by simp) _⟩, by simp [intOf]⟩
      unfold Blk4
      rw [heap_set4 _ _ _ _ _ _ HA.out]
      rfl
    · obtain ⟨c0, c1, c2, c3⟩ := hA.cells
      clear hA
      go_wp2_with fail
      have hW : Blk4 ((((wr.setCell ⟨w.heap.size, 0, none⟩ (.int .u64 ((p : Int) - 1))).setCell ⟨w.heap.size, 1, none⟩ (.int .u64 0)).setCell ⟨w.heap.size, 2, none⟩ (.int .u64 0)).setCell ⟨w.heap.size, 3, none⟩ (.int .u64 0)) w.heap.size ((p : Int) - 1) 0 0 0 := by
        unfold Blk4
        rw [heap_set4 _ _ _ _ _ _ (heap_set4 _ _ _ _ _ _ (heap_set4 _ _ _ _ _ _ (heap_set4 _ _ _ _ _ _ HR.out)))]
        rfl
      obtain ⟨z0, z1, z2, z3⟩ := hW.cells
      refine bodyPost_ret (v := setV [(p : Int) - 1, 0, 0, 0]) ?_ rfl ⟨rfl, (((HL.out.setCell (by simp) _).setCell (by simp) _).setCell (by simp) _).setCell (by simp) _⟩
      clear hW c0 c1 c2 c3 r0 r1 r2 r3 fR
      simp [results, Tryd.results34, go_sem, setV, z0, z1, z2, z3]
end Go.Proofs.YtnnkibdjbodncaaDoor
