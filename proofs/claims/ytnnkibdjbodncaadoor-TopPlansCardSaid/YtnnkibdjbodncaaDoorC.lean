/- How many numbers a set of few has. No condition but that. -/
import Derived.Test.YtnnkibdjbodncaaDoorA
namespace Go.Proofs.YtnnkibdjbodncaaDoor
open Go.RowKit
/-- How many of the lowest eight bits stand. -/
def popN (x : Nat) : Nat := ((List.range 8).filter fun i => x.testBit i).length
def pop1 (x : Int) : Int := IntKind.u64.wrap (bits .and .u64 (x / 2) 6148914691236517205 + bits .and .u64 x 6148914691236517205)
def pop2 (x : Int) : Int := IntKind.u64.wrap (bits .and .u64 (x / 4) 3689348814741910323 + bits .and .u64 x 3689348814741910323)
def pop3 (x : Int) : Int := bits .and .u64 (IntKind.u64.wrap (x / 16 + x)) 1085102592571150095
def pop4 (x : Int) : Int := IntKind.u64.wrap (x + x / 256)
def pop5 (x : Int) : Int := IntKind.u64.wrap (x + x / 65536)
def pop6 (x : Int) : Int := IntKind.u64.wrap (x + x / 4294967296)
def popE (x : Int) : Int := pop6 (pop5 (pop4 (pop3 (pop2 (pop1 x)))))
theorem popE_small : ∀ x : Fin 256, popE (x.val : Int) = 0 + ((popE (x.val : Int)).toNat : Int) ∧ bits .and .i64 (popE (x.val : Int)) 127 = popN x.val ∧ popE (x.val : Int) < 9223372036854775808 := by decide +kernel
theorem ones_any (x : Nat) (hx : x < 256) (w : World) : Calls Tryd.prog 35 #[.int .u64 x] w (NumPost w .i64 (popN x)) := by
  obtain ⟨q1, q2, q3⟩ := popE_small ⟨x, hx⟩
  have e : wrap64 (popE (x : Int)) = popE (x : Int) := by
    simp only at q1 q3
    unfold wrap64
    omega
  have HE := Lib.hid e
  have HK := Lib.hid q2
  clear q1 q2 q3 e
  go_enter Tryd.func35, Tryd.ntmps35
  go_wp2_with fail
  go_ret
  refine ⟨?_, rfl⟩
  show Ending.returned (.int .i64 (bits .and .i64 (wrap64 (popE (x : Int))) 127)) = _
  rw [HE.out, HK.out]
end Go.Proofs.YtnnkibdjbodncaaDoor
