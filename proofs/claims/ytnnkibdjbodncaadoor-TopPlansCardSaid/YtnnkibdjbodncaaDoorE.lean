/- Which number of a set is the lowest: sets of the numbers below eight; the table is as it is laid. -/
import Derived.Test.YtnnkibdjbodncaaDoorD
namespace Go.Proofs.YtnnkibdjbodncaaDoor
open Go.RowKit
/-- The library's table. -/
def tabL : List Int := [0, 1, 56, 2, 57, 49, 28, 3, 61, 58, 42, 50, 38, 29, 17, 4, 62, 47, 59, 36, 45, 43, 51, 22, 53, 39, 33, 30, 24, 18, 12, 5, 63, 55, 48, 27, 60, 41, 37, 16, 46, 35, 44, 21, 52, 32, 23, 11, 54, 26, 40, 15, 34, 20, 31, 10, 25, 14, 19, 9, 13, 8, 7, 6]
def Tab (w : World) : Prop := ∀ i, i < 64 → w.cell? ⟨0, i, none⟩ = some (.int .u8 (tabL.getD i 0))
/-- The lowest of the eight bits that stands. -/
def lowN (x : Nat) : Nat := ((List.range 8).filter fun i => x.testBit i).headD 0
def idxE (x : Int) : Int := IntKind.u64.wrap (bits .and .u64 x (IntKind.u64.wrap (-x)) * 285870213051353865) / 288230376151711744
theorem zeros_small : ∀ x : Fin 256, x.val ≠ 0 → 0 ≤ idxE (x.val : Int) ∧ idxE (x.val : Int) < 64 ∧ tabL.getD (idxE (x.val : Int)).toNat 0 = lowN x.val ∧ lowN x.val < 8 := by decide +kernel
theorem zeros_any (x : Nat) (hx : x < 256) (h0 : x ≠ 0) (w : World) (hT : Tab w) : Calls Tryd.prog 36 #[.int .u64 x] w (NumPost w .i64 (lowN x)) := by
  have h0' : ((x : Int) == 0) = false := by simp; omega
  obtain ⟨q1, q2, q3, q4⟩ := zeros_small ⟨x, hx⟩ h0
  simp only at q1 q2 q3 q4
  obtain ⟨j, hj⟩ : ∃ j : Nat, idxE (x : Int) = j := ⟨_, (Int.toNat_of_nonneg q1).symm⟩
  rw [hj] at q2 q3
  have c := hT j (by omega)
  rw [Int.toNat_natCast] at q3
  rw [q3] at c
  have hj64 : (j : Int) < 64 := q2
  have hE : IntKind.u64.wrap (bits .and .u64 (x : Int) (IntKind.u64.wrap (-(x : Int))) * 285870213051353865) / 288230376151711744 = (j : Int) := hj
  generalize lowN x = m at *
  clear q1 q2 q3 hj hT
  go_enter Tryd.func36, Tryd.ntmps36
  go_wp2_with fail
  go_ret
  exact ⟨rfl, rfl⟩
end Go.Proofs.YtnnkibdjbodncaaDoor
