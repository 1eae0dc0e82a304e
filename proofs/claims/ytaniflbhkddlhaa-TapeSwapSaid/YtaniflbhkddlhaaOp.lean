/- How a pair of numbers that came in by value is opened. No condition. -/
import Derived.Test.YtaniflbhkddlhaaO
namespace Go.Proofs.Ytaniflbhkddlhaa
open Go.ChangeShapes Go.WideShapes Go.ChangeAt Go.RowKit
theorem list2 {α : Type} (l : List α) (h : (⟨l⟩ : Array α).size = 2) : ∃ a b, l = [a, b] := by
  match l, h with
  | [a, b], _ => exact ⟨a, b, rfl⟩
theorem cells72 : Try.prog.cellsOf 72 = 2 := by kernel_rfl
theorem cells3 : Try.prog.cellsOf 3 = 1 := by kernel_rfl
theorem open_pair {H : Type} {enc : TypeId × Value → H} {r : Reach} {W : World} {base : Nat} {v : Value} {d : DataW H} {p : List MemPlace} (hv : Value.okWide Try.prog W r base 72 v)
    (h : DataW.Trod enc Try.prog W 0 (fun _ => true) true 72 v d p) : ∃ x y, v = .agg #[.int .i64 x, .int .i64 y] := by
  obtain ⟨cs, rfl, hsz, _⟩ : ∃ cs, v = .agg cs ∧ cs.size = Try.prog.cellsOf 72 ∧ Row.okWide Try.prog W r base 72 cs := by
    simpa [Value.okWide, Try.underlying72] using hv
  rw [cells72] at hsz
  obtain ⟨l⟩ := cs
  obtain ⟨c0, c1, rfl⟩ := list2 l hsz
  obtain ⟨fuel, hf⟩ := h
  simp only [Value.cells] at hf
  cases fuel with
  | zero => simp [DataW.trod] at hf
  | succ n =>
    unfold DataW.trod at hf
    rw [Try.underlying72] at hf
    have r2 : List.range 2 = [0, 1] := rfl
    simp [r2, cells3] at hf
    obtain ⟨_, hf⟩ := hf
    cases h0 : DataW.trod enc Try.prog W 0 (fun _ => true) true n 3 [c0] with
    | none => simp [h0] at hf
    | some y0 =>
      cases h1 : DataW.trod enc Try.prog W 0 (fun _ => true) true n 3 [c1] with
      | none => simp [h0, h1] at hf
      | some y1 =>
        obtain ⟨x0, e0, rfl, w0⟩ := DataW.trod_int Try.underlying3 h0
        obtain ⟨x1, e1, rfl, w1⟩ := DataW.trod_int Try.underlying3 h1
        simp at e0 e1
        subst e0 e1
        exact ⟨x0, x1, rfl⟩
end Go.Proofs.Ytaniflbhkddlhaa
