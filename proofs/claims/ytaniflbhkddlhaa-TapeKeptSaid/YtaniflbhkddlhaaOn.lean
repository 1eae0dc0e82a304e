/- How a script of losses that came in is opened. No condition. -/
import Derived.Test.YtaniflbhkddlhaaOo
import Derived.Deep.Strs
namespace Go.Proofs.Ytaniflbhkddlhaa
open Go.ChangeShapes Go.WideShapes Go.ChangeAt Go.RowKit
abbrev Loss := List Int × Int × Int
def noLoss : Loss := ([], 0, 0)
theorem cells3' : Try.prog.cellsOf 3 = 1 := by kernel_rfl
theorem cells50 : Try.prog.cellsOf 50 = 3 := by kernel_rfl
theorem list3 {α : Type} (l : List α) (h : l.length = 3) : ∃ a b c, l = [a, b, c] := by
  match l, h with
  | [a, b, c], _ => exact ⟨a, b, c, rfl⟩
/-- One loss, of three cells. -/
def LossIs (w : World) (a : Addr) (x : Loss) : Prop :=
  ∃ bo bc, w.cell? a = some (.slice bo x.1.length bc) ∧ w.cell? (a.add 1) = some (.int .i64 x.2.1) ∧ w.cell? (a.add 2) = some (.int .i64 x.2.2) ∧ Bs w bo bc x.1 ∧ x.2.1 ≤ 9223372036854775807
def LossAt (w : World) (ao : Option Addr) (ls : List Loss) : Prop := ∀ i, i < ls.length → ∃ b o, ao = some ⟨b, o, none⟩ ∧ LossIs w ⟨b, o + i * 3, none⟩ (ls.getD i noLoss)
structure Losses (w : World) (ao : Option Addr) (cap : Nat) (ls : List Loss) : Prop where
  cells : LossAt w ao ls
  cap_le : ls.length ≤ cap
  max : cap ≤ maxLen
  nil : ao = none → cap = 0
theorem open_losses {H : Type} {enc : TypeId × Value → H} {r : Reach} {W : World} {base : Nat} {v : Value} {d : DataW H} {p : List MemPlace} (hv : Value.okWide Try.prog W r base 46 v)
    (h : DataW.Trod enc Try.prog W 0 (fun _ => true) true 46 v d p) : ∃ ao cap ls, v = .slice ao ls.length cap ∧ Losses W ao cap ls := by
  obtain ⟨a0, len0, cap0, rfl⟩ := okWide_slice Try.underlying46 hv
  obtain ⟨fuel, hf⟩ := h
  rcases Deep.open_slice Try.underlying46 hf with ⟨hcs, hx⟩ | ⟨a, len, cap, m, n, D, Pl, hcs, _, hl, hm, hmm, hx, hcell⟩
  · simp [Value.cells] at hcs
    obtain ⟨rfl, rfl, rfl⟩ := hcs
    exact ⟨none, 0, [], rfl, fun i hi => by simp at hi, Nat.le_refl _, Nat.zero_le _, fun _ => rfl⟩
  · simp [Value.cells] at hcs
    obtain ⟨rfl, rfl, rfl⟩ := hcs
    simp only [if_true] at hmm
    subst hmm
    rw [cells50] at hcell
    obtain ⟨L, hL⟩ := Deep.choose_lt (α := Loss) (n := m) (p := fun i x => LossIs W (a.add (i * 3)) x) (fun i hi => by
      obtain ⟨cs, h1, h2⟩ := hcell i hi
      obtain ⟨_, hlen, hc⟩ := World.cells?_some h1
      obtain ⟨c0, c1, c2, rfl⟩ := list3 cs hlen
      obtain ⟨y0, y1, y2, n', _, _, h3, h4, h5⟩ := Deep.trod_struct3 Try.underlying50 h2
      simp only [cells22, cells3', List.drop_zero, List.drop_succ_cons, List.take_succ_cons, List.take_zero] at h3 h4 h5
      obtain ⟨bo, bc, l, rfl, hB, _⟩ := open_elem h3
      obtain ⟨x1, e1, rfl, w1⟩ := DataW.trod_int Try.underlying3 h4
      obtain ⟨x2, e2, rfl, w2⟩ := DataW.trod_int Try.underlying3 h5
      simp at e1 e2
      subst e1 e2
      have k0 := hc 0 (by omega)
      have k1 := hc 1 (by omega)
      have k2 := hc 2 (by omega)
      exact ⟨(l, x1, x2), bo, bc, by simpa [Addr.add] using k0, by simpa using k1, by simpa using k2, hB, (bounds_i64 w1).2⟩)
    have hget : ∀ i, i < len0 → ((List.range len0).map L).getD i noLoss = L i := fun i hi => by simp [List.getD, hi]
    refine ⟨some a, m, (List.range len0).map L, by simp, ⟨fun i hi => ?_, by simpa using hl, hm, fun h => by cases h⟩⟩
    have hi' : i < len0 := by simpa using hi
    have hLi := hL i (by omega)
    obtain ⟨b, o, spot⟩ := a
    have hspot : spot = none := by
      obtain ⟨_, _, hc, _⟩ := hL 0 (by omega)
      simpa [Addr.add] using World.cell?_spot hc
    subst hspot
    refine ⟨b, o, rfl, ?_⟩
    rw [hget i hi']
    rw [Addr.add_lit] at hLi
    exact hLi
theorem LossIs.below {w w' : World} {a : Addr} {x : Loss} (h : LossIs w a x) (hb : Below w.heap.size w w') : LossIs w' a x := by
  obtain ⟨bo, bc, h1, h2, h3, h4, h5⟩ := h
  exact ⟨bo, bc, (hb.cell (block_lt_of_cell h1)).trans h1, (hb.cell (block_lt_of_cell h2)).trans h2, (hb.cell (block_lt_of_cell h3)).trans h3, h4.below hb, h5⟩
end Go.Proofs.Ytaniflbhkddlhaa
