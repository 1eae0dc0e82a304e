/- How a script of acts that came in is opened. No condition. -/
import Derived.Test.YtaniflbhkddlhaaOo
import Derived.Lib.SmallJoins
namespace Go.Proofs.Ytaniflbhkddlhaa
open Go.ChangeShapes Go.WideShapes Go.ChangeAt Go.RowKit
structure ActD where
  kd : Int
  B : List Int
  ms : List (List Int)
  N : Int
def noAct : ActD := ⟨0, [], [], 0⟩
instance : Inhabited ActD := ⟨noAct⟩
theorem cells5' : Try.prog.cellsOf 5 = 1 := by kernel_rfl
theorem cells3a : Try.prog.cellsOf 3 = 1 := by kernel_rfl
theorem cells37 : Try.prog.cellsOf 37 = 1 := by kernel_rfl
theorem cells65 : Try.prog.cellsOf 65 = 4 := by kernel_rfl
theorem list4 {α : Type} (l : List α) (h : l.length = 4) : ∃ a b c d, l = [a, b, c, d] := by
  match l, h with
  | [a, b, c, d], _ => exact ⟨a, b, c, d, rfl⟩
theorem open_rows_elem {H : Type} {enc : TypeId × Value → H} {W : World} {n : Nat} {V : Value} {x : DataW H × List MemPlace}
    (hf : DataW.trod enc Try.prog W 0 (fun _ => true) true n 37 [V] = some x) : ∃ ao cap ls, V = .slice ao ls.length cap ∧ Rs W ao cap ls := by
  rcases Deep.open_slice1 Try.underlying37 cells22 hf with ⟨hcs, hx⟩ | ⟨a, len, cap, m, n, V', D, Pl, hcs, _, hl, hm, hmm, hx, hcell⟩
  · simp at hcs
    subst hcs
    exact ⟨none, 0, [], rfl, ⟨fun i hi => by simp at hi, Nat.le_refl _, Nat.zero_le _, fun _ => rfl⟩⟩
  · simp at hcs
    subst hcs
    simp only [if_true] at hmm
    subst hmm
    obtain ⟨L, hL⟩ := Deep.choose_lt (α := List Int) (n := m) (p := fun i l => ∃ ao cap, V' i = .slice ao l.length cap ∧ Bs W ao cap l) (fun i hi => by
      obtain ⟨ao, cap, l, h1, h2, _⟩ := open_elem (hcell i hi).2
      exact ⟨l, ao, cap, h1, h2⟩)
    have hget : ∀ i, i < len → ((List.range len).map L).getD i [] = L i := fun i hi => by simp [List.getD, hi]
    refine ⟨some a, m, (List.range len).map L, by simp, ⟨fun i hi => ?_, by simpa using hl, hm, fun h => by cases h⟩⟩
    have hi' : i < len := by simpa using hi
    obtain ⟨ao, cap, h1, h2⟩ := hL i (by omega)
    have hc := (hcell i (by omega)).1
    obtain ⟨b, o, spot⟩ := a
    have hc0 := (hcell 0 (by omega)).1
    have hspot : spot = none := by simpa [Addr.add] using World.cell?_spot hc0
    subst hspot
    rw [Addr.add_lit] at hc
    refine ⟨b, o, ao, cap, rfl, ?_, ?_⟩
    · rw [hc, hget i hi', h1]
    · rw [hget i hi']; exact h2
/-- One act, of four cells. -/
def ActIs (w : World) (a : Addr) (x : ActD) : Prop :=
  ∃ bo bc mo mc, w.cell? a = some (.int .u8 x.kd) ∧ w.cell? (a.add 1) = some (.slice bo x.B.length bc) ∧ w.cell? (a.add 2) = some (.slice mo x.ms.length mc) ∧ w.cell? (a.add 3) = some (.int .i64 x.N) ∧
    Bs w bo bc x.B ∧ Rs w mo mc x.ms ∧ 0 ≤ x.kd ∧ x.N ≤ 9223372036854775807
def ActsAt (w : World) (ao : Option Addr) (ls : List ActD) : Prop := ∀ i, i < ls.length → ∃ b o, ao = some ⟨b, o, none⟩ ∧ ActIs w ⟨b, o + i * 4, none⟩ (ls.getD i noAct)
structure Acts (w : World) (ao : Option Addr) (cap : Nat) (ls : List ActD) : Prop where
  cells : ActsAt w ao ls
  cap_le : ls.length ≤ cap
  max : cap ≤ maxLen
theorem open_acts {H : Type} {enc : TypeId × Value → H} {r : Reach} {W : World} {base : Nat} {v : Value} {d : DataW H} {p : List MemPlace} (hv : Value.okWide Try.prog W r base 58 v)
    (h : DataW.Trod enc Try.prog W 0 (fun _ => true) true 58 v d p) : ∃ ao cap ls, v = .slice ao ls.length cap ∧ Acts W ao cap ls := by
  obtain ⟨a0, len0, cap0, rfl⟩ := okWide_slice Try.underlying58 hv
  obtain ⟨fuel, hf⟩ := h
  rcases Deep.open_slice Try.underlying58 hf with ⟨hcs, hx⟩ | ⟨a, len, cap, m, n, D, Pl, hcs, _, hl, hm, hmm, hx, hcell⟩
  · simp [Value.cells] at hcs
    obtain ⟨rfl, rfl, rfl⟩ := hcs
    exact ⟨none, 0, [], rfl, fun i hi => by simp at hi, Nat.le_refl _, Nat.zero_le _⟩
  · simp [Value.cells] at hcs
    obtain ⟨rfl, rfl, rfl⟩ := hcs
    simp only [if_true] at hmm
    subst hmm
    rw [cells65] at hcell
    obtain ⟨L, hL⟩ := Deep.choose_lt (α := ActD) (n := m) (p := fun i x => ActIs W (a.add (i * 4)) x) (fun i hi => by
      obtain ⟨cs, h1, h2⟩ := hcell i hi
      obtain ⟨_, hlen, hc⟩ := World.cells?_some h1
      obtain ⟨c0, c1, c2, c3, rfl⟩ := list4 cs hlen
      obtain ⟨y0, y1, y2, y3, n', _, _, h3, h4, h5, h6⟩ := Joins.trod_struct4 Try.underlying65 h2
      simp only [cells22, cells5', cells37, cells3a, List.drop_zero, List.drop_succ_cons, List.take_succ_cons, List.take_zero] at h3 h4 h5 h6
      obtain ⟨bo, bc, l, rfl, hB, _⟩ := open_elem h4
      obtain ⟨mo, mc, ms, rfl, hM⟩ := open_rows_elem h5
      obtain ⟨x0, e0, rfl, w0⟩ := DataW.trod_int Try.underlying5 h3
      obtain ⟨x3, e3, rfl, w3⟩ := DataW.trod_int Try.underlying3 h6
      simp at e0 e3
      subst e0 e3
      have k0 := hc 0 (by omega)
      have k1 := hc 1 (by omega)
      have k2 := hc 2 (by omega)
      have k3 := hc 3 (by omega)
      exact ⟨⟨x0, l, ms, x3⟩, bo, bc, mo, mc, by simpa [Addr.add] using k0, by simpa using k1, by simpa using k2, by simpa using k3, hB, hM, (bounds_u8 w0).1, (bounds_i64 w3).2⟩)
    have hget : ∀ i, i < len0 → ((List.range len0).map L).getD i noAct = L i := fun i hi => by simp [List.getD, hi]
    refine ⟨some a, m, (List.range len0).map L, by simp, ⟨fun i hi => ?_, by simpa using hl, hm⟩⟩
    have hi' : i < len0 := by simpa using hi
    have hLi := hL i (by omega)
    obtain ⟨b, o, spot⟩ := a
    have hspot : spot = none := by
      obtain ⟨_, _, _, _, hc, _⟩ := hL 0 (by omega)
      simpa [Addr.add] using World.cell?_spot hc
    subst hspot
    refine ⟨b, o, rfl, ?_⟩
    rw [hget i hi']
    rw [Addr.add_lit] at hLi
    exact hLi
theorem ActIs.below {w w' : World} {a : Addr} {x : ActD} (h : ActIs w a x) (hb : Below w.heap.size w w') : ActIs w' a x := by
  obtain ⟨bo, bc, mo, mc, h1, h2, h3, h4, h5, h6, h7⟩ := h
  exact ⟨bo, bc, mo, mc, (hb.cell (block_lt_of_cell h1)).trans h1, (hb.cell (block_lt_of_cell h2)).trans h2, (hb.cell (block_lt_of_cell h3)).trans h3, (hb.cell (block_lt_of_cell h4)).trans h4, h5.below hb, h6.below hb, h7⟩
theorem Acts.below {w w' : World} {ao : Option Addr} {cap : Nat} {ls : List ActD} (h : Acts w ao cap ls) (hb : Below w.heap.size w w') : Acts w' ao cap ls :=
  ⟨fun i hi => by obtain ⟨b, o, e, hx⟩ := h.cells i hi; exact ⟨b, o, e, hx.below hb⟩, h.cap_le, h.max⟩
end Go.Proofs.Ytaniflbhkddlhaa
