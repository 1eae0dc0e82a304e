/-
  No cell of these rows narrows 'for every input' (looked for: loops, veiled, ifaces, maps, wideKeys, modest, calm, conditions, laid).
  DERIVED. THE GIVEN ROWS OF THIS SEAT. 5 by the template 'for every input the law returns true; each argument reads behind the call as it read before'; 0 by the template 'total and deterministic' (their statements: YtojinbckpjddmaaTotals.lean).
  GIVEN WITH THE SEED: the statements are not yours to turn. If you find one false, say at which input.
  Laid BY PROGRAM, IN A SANDBOX (cutbox-rows.mjs): the forced cells as the released guide's own fill.sh prints them over the translation 5f0cfbaabcf25fdc… (all of the seat's roots in one cut). By AI agents, Wed Nov 11 2026. No macro, syntax, notation, axiom, sorry.
-/
import Derived.Test.YtojinbckpjddmaaChecked
import GoSem.Claim
import GoSem.ClaimJoined
import GoSem.ClaimMapViews
import Derived.JoinedTies
import Derived.KernelRfl
namespace Go.Proofs.Ytojinbckpjddmaa
/- THE CELL 'sum', in the pinned program and in every row, IS THE sha256 OF THE DUMP (.gsa) THAT YtojinbckpjddmaaProg.lean LOADS. Nothing in Lean hashes anything: it is a label: what it is worth is what the hold of that sum in a sandbox is worth. -/
noncomputable def Try.pinned : Pinned := { name := "ytojinbckpjddmaa", sum := "5f0cfbaabcf25fdc3f1f0fb52ade33c948e68706d9c8f6289853f23d1f295814", checked := Try.checked }
namespace Rows
def none {H : Type} : Left H := { results := [], args := [] }

/-- 'marlinspikelaw11.NodeTries': WHATEVER THE INPUT: true; the input reads as it did. -/
def nodeTriesSpec : ChangeSpec := { name := "nodeTries", fn := fun _ => fun
  | [d1, d2] => { results := [.lit (.bool true)], args := [d1, d2] }
  | _ => none }
def nodeTriesRow : OpenClaim := { program := "ytojinbckpjddmaa", sum := "5f0cfbaabcf25fdc3f1f0fb52ade33c948e68706d9c8f6289853f23d1f295814", func := "marlinspike/marlinspikelaw11.NodeTries", spec := "nodeTries", apart := false }
def NodeTriesSaid : Prop := nodeTriesRow.holds Try.pinned (OpenSpec.ofChange nodeTriesSpec)

/-- ITS FALSE NEIGHBOUR: 'it returns false'. Refute it at one input. -/
def nodeTriesWrong : ChangeSpec := { name := "nodeTries", fn := fun _ => fun
  | [d1, d2] => { results := [.lit (.bool false)], args := [d1, d2] }
  | _ => none }
def NodeTriesWrongFalsely : Prop := nodeTriesRow.holds Try.pinned (OpenSpec.ofChange nodeTriesWrong)

/-- 'marlinspikelaw11.NodeIdle': WHATEVER THE INPUT: true; the input reads as it did. -/
def nodeIdleSpec : ChangeSpec := { name := "nodeIdle", fn := fun _ => fun
  | [d1, d2] => { results := [.lit (.bool true)], args := [d1, d2] }
  | _ => none }
def nodeIdleRow : OpenClaim := { program := "ytojinbckpjddmaa", sum := "5f0cfbaabcf25fdc3f1f0fb52ade33c948e68706d9c8f6289853f23d1f295814", func := "marlinspike/marlinspikelaw11.NodeIdle", spec := "nodeIdle", apart := false }
def NodeIdleSaid : Prop := nodeIdleRow.holds Try.pinned (OpenSpec.ofChange nodeIdleSpec)

/-- ITS FALSE NEIGHBOUR: 'it returns false'. Refute it at one input. -/
def nodeIdleWrong : ChangeSpec := { name := "nodeIdle", fn := fun _ => fun
  | [d1, d2] => { results := [.lit (.bool false)], args := [d1, d2] }
  | _ => none }
def NodeIdleWrongFalsely : Prop := nodeIdleRow.holds Try.pinned (OpenSpec.ofChange nodeIdleWrong)

/-- 'marlinspikelaw11.NodeMay': WHATEVER THE INPUT: true; the input reads as it did. -/
def nodeMaySpec : ChangeSpec := { name := "nodeMay", fn := fun _ => fun
  | [d1, d2, d3] => { results := [.lit (.bool true)], args := [d1, d2, d3] }
  | _ => none }
def nodeMayRow : OpenClaim := { program := "ytojinbckpjddmaa", sum := "5f0cfbaabcf25fdc3f1f0fb52ade33c948e68706d9c8f6289853f23d1f295814", func := "marlinspike/marlinspikelaw11.NodeMay", spec := "nodeMay", apart := false }
def NodeMaySaid : Prop := nodeMayRow.holds Try.pinned (OpenSpec.ofChange nodeMaySpec)

/-- ITS FALSE NEIGHBOUR: 'it returns false'. Refute it at one input. -/
def nodeMayWrong : ChangeSpec := { name := "nodeMay", fn := fun _ => fun
  | [d1, d2, d3] => { results := [.lit (.bool false)], args := [d1, d2, d3] }
  | _ => none }
def NodeMayWrongFalsely : Prop := nodeMayRow.holds Try.pinned (OpenSpec.ofChange nodeMayWrong)

/-- 'marlinspikelaw11.NodeReach': WHATEVER THE INPUT: true; the input reads as it did. -/
def nodeReachSpec : ChangeSpec := { name := "nodeReach", fn := fun _ => fun
  | [d1, d2] => { results := [.lit (.bool true)], args := [d1, d2] }
  | _ => none }
def nodeReachRow : OpenClaim := { program := "ytojinbckpjddmaa", sum := "5f0cfbaabcf25fdc3f1f0fb52ade33c948e68706d9c8f6289853f23d1f295814", func := "marlinspike/marlinspikelaw11.NodeReach", spec := "nodeReach", apart := false }
def NodeReachSaid : Prop := nodeReachRow.holds Try.pinned (OpenSpec.ofChange nodeReachSpec)

/-- ITS FALSE NEIGHBOUR: 'it returns false'. Refute it at one input. -/
def nodeReachWrong : ChangeSpec := { name := "nodeReach", fn := fun _ => fun
  | [d1, d2] => { results := [.lit (.bool false)], args := [d1, d2] }
  | _ => none }
def NodeReachWrongFalsely : Prop := nodeReachRow.holds Try.pinned (OpenSpec.ofChange nodeReachWrong)

/-- 'marlinspikelaw11.NodeTells': WHATEVER THE INPUT: true; the input reads as it did. -/
def nodeTellsSpec : ChangeSpec := { name := "nodeTells", fn := fun _ => fun
  | [d1, d2, d3] => { results := [.lit (.bool true)], args := [d1, d2, d3] }
  | _ => none }
def nodeTellsRow : OpenClaim := { program := "ytojinbckpjddmaa", sum := "5f0cfbaabcf25fdc3f1f0fb52ade33c948e68706d9c8f6289853f23d1f295814", func := "marlinspike/marlinspikelaw11.NodeTells", spec := "nodeTells", apart := false }
def NodeTellsSaid : Prop := nodeTellsRow.holds Try.pinned (OpenSpec.ofChange nodeTellsSpec)

/-- ITS FALSE NEIGHBOUR: 'it returns false'. Refute it at one input. -/
def nodeTellsWrong : ChangeSpec := { name := "nodeTells", fn := fun _ => fun
  | [d1, d2, d3] => { results := [.lit (.bool false)], args := [d1, d2, d3] }
  | _ => none }
def NodeTellsWrongFalsely : Prop := nodeTellsRow.holds Try.pinned (OpenSpec.ofChange nodeTellsWrong)

/- THE SECOND FORM. 'bulk': how many values and letters a reading holds, each counted each time it is reached (what is shared counts as often as it is met; a slice's spare places count too). A statement '..UptoSaid' is the law's where the arguments, and the package variables that the reading takes, are together of bulk at most 1048576: NARROWER than '..Said'. Prove '..Said' where nothing that the law and all that it calls make is longer than what came in: it says more and counts as full. Else prove '..UptoSaid'. A law counts once. -/
mutual
def uptoBulk {H : Type} : DataW H → Nat
  | .lit (.string bytes) => bytes.length + 1
  | .lit _ => 1
  | .nil => 1
  | .ptr d => uptoBulk d + 1
  | .slice elems spare => uptoBulkAll elems + uptoBulkAll spare + 1
  | .agg parts => uptoBulkAll parts + 1
  | .iface _ d => uptoBulk d + 1
  | .map entries => uptoBulkEntries entries + 1
  | .held _ => 1
def uptoBulkAll {H : Type} : List (DataW H) → Nat
  | [] => 0
  | d :: r => uptoBulk d + uptoBulkAll r
def uptoBulkEntries {H : Type} : List (Lit × DataW H) → Nat
  | [] => 0
  | x :: r => uptoBulkEntry x + uptoBulkEntries r
def uptoBulkEntry {H : Type} : Lit × DataW H → Nat
  | (.string bytes, d) => bytes.length + uptoBulk d + 1
  | (_, d) => uptoBulk d + 1
 end
def uptoSmall : (H : Type) → List (DataW H) → Bool := fun _ ds => decide (uptoBulkAll ds ≤ 1048576)
def OpenSpec.upto (s : _root_.Go.ChangeSpec) : _root_.Go.OpenSpec := { _root_.Go.OpenSpec.ofChange s with cond := some uptoSmall }

/-- 'marlinspikelaw11.NodeTries', WHERE WHAT IT READS IS OF BULK AT MOST 1048576: true; the input reads as it did. -/
def nodeTriesUptoRow : OpenClaim := { program := "ytojinbckpjddmaa", sum := "5f0cfbaabcf25fdc3f1f0fb52ade33c948e68706d9c8f6289853f23d1f295814", func := "marlinspike/marlinspikelaw11.NodeTries", spec := "nodeTries", apart := false, narrowed := true }
def NodeTriesUptoSaid : Prop := nodeTriesUptoRow.holds Try.pinned (OpenSpec.upto nodeTriesSpec)

/-- 'marlinspikelaw11.NodeIdle', WHERE WHAT IT READS IS OF BULK AT MOST 1048576: true; the input reads as it did. -/
def nodeIdleUptoRow : OpenClaim := { program := "ytojinbckpjddmaa", sum := "5f0cfbaabcf25fdc3f1f0fb52ade33c948e68706d9c8f6289853f23d1f295814", func := "marlinspike/marlinspikelaw11.NodeIdle", spec := "nodeIdle", apart := false, narrowed := true }
def NodeIdleUptoSaid : Prop := nodeIdleUptoRow.holds Try.pinned (OpenSpec.upto nodeIdleSpec)

/-- 'marlinspikelaw11.NodeMay', WHERE WHAT IT READS IS OF BULK AT MOST 1048576: true; the input reads as it did. -/
def nodeMayUptoRow : OpenClaim := { program := "ytojinbckpjddmaa", sum := "5f0cfbaabcf25fdc3f1f0fb52ade33c948e68706d9c8f6289853f23d1f295814", func := "marlinspike/marlinspikelaw11.NodeMay", spec := "nodeMay", apart := false, narrowed := true }
def NodeMayUptoSaid : Prop := nodeMayUptoRow.holds Try.pinned (OpenSpec.upto nodeMaySpec)

/-- 'marlinspikelaw11.NodeReach', WHERE WHAT IT READS IS OF BULK AT MOST 1048576: true; the input reads as it did. -/
def nodeReachUptoRow : OpenClaim := { program := "ytojinbckpjddmaa", sum := "5f0cfbaabcf25fdc3f1f0fb52ade33c948e68706d9c8f6289853f23d1f295814", func := "marlinspike/marlinspikelaw11.NodeReach", spec := "nodeReach", apart := false, narrowed := true }
def NodeReachUptoSaid : Prop := nodeReachUptoRow.holds Try.pinned (OpenSpec.upto nodeReachSpec)

/-- 'marlinspikelaw11.NodeTells', WHERE WHAT IT READS IS OF BULK AT MOST 1048576: true; the input reads as it did. -/
def nodeTellsUptoRow : OpenClaim := { program := "ytojinbckpjddmaa", sum := "5f0cfbaabcf25fdc3f1f0fb52ade33c948e68706d9c8f6289853f23d1f295814", func := "marlinspike/marlinspikelaw11.NodeTells", spec := "nodeTells", apart := false, narrowed := true }
def NodeTellsUptoSaid : Prop := nodeTellsUptoRow.holds Try.pinned (OpenSpec.upto nodeTellsSpec)

end Rows
end Go.Proofs.Ytojinbckpjddmaa
