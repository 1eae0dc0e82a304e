/- How runs and wishes that came in are opened; the library's table off the row's condition. No condition. -/
import Derived.Test.YtnnkibdjbodncaaDoorWf
import Derived.Deep.SlicePairs
import Derived.Deep.Strs
import Derived.ProofKit
import Derived.LaidMore
import Derived.Lib.LaidTab
import Derived.OpenShut
import Derived.Stop.Joined
import Derived.MakeChecks
import Derived.LaidHandle
namespace Go.Proofs.YtnnkibdjbodncaaDoor
open Go.ChangeShapes Go.WideShapes Go.ChangeAt Go.RowKit
/-- A slice that came in, and reads as a list of structs. -/
def ReadsO {α : Type} (k : Nat) (c : α → List Value) (w : World) (v : Value) (l : List α) : Prop :=
  ∃ ao cap, v = .slice ao l.length cap ∧ l.length ≤ cap ∧ ∀ i a, l[i]? = some a → ∃ g o, ao = some ⟨g, o, none⟩ ∧ g < w.heap.size ∧ ∀ j u, (c a)[j]? = some u → w.cell? ⟨g, o + i * k + j, none⟩ = some u
theorem cells5x : Tryd.prog.cellsOf 5 = 1 := by kernel_rfl
theorem cells34 : Tryd.prog.cellsOf 34 = 2 := by kernel_rfl
theorem cells39 : Tryd.prog.cellsOf 39 = 3 := by kernel_rfl
theorem list2 {α : Type} (l : List α) (h : l.length = 2) : ∃ a b, l = [a, b] := by
  match l, h with
  | [a, b], _ => exact ⟨a, b, rfl⟩
theorem list3 {α : Type} (l : List α) (h : l.length = 3) : ∃ a b c, l = [a, b, c] := by
  match l, h with
  | [a, b, c], _ => exact ⟨a, b, c, rfl⟩
theorem u8_nat {z : Int} (h : (Lit.int .u8 z).wf = true) : ∃ n : Nat, n < 256 ∧ z = n := by
  have h' : IntKind.u8.min ≤ z ∧ z ≤ IntKind.u8.max := by
    simpa [Lit.wf] using h
  have e1 : IntKind.u8.min = 0 := by decide
  have e2 : IntKind.u8.max = 255 := by decide
  exact ⟨z.toNat, by omega, by omega⟩
theorem open_bu {H : Type} {enc : TypeId × Value → H} {r : Reach} {W : World} {base : Nat} {v : Value} {d : DataW H} {p : List MemPlace} (hv : Value.okWide Tryd.prog W r base 23 v)
    (h : DataW.Trod enc Tryd.prog W 0 (fun _ => true) true 23 v d p) : ∃ bs : List (Nat × Nat), ReadsO 2 buC W v bs ∧ (∀ b ∈ bs, b.1 < 256 ∧ b.2 < 256) ∧ bs.length ≤ maxLen := by
  obtain ⟨a0, len0, cap0, rfl⟩ := okWide_slice Tryd.underlying23 hv
  obtain ⟨fuel, hf⟩ := h
  rcases Deep.open_slice Tryd.underlying23 hf with ⟨hcs, hx⟩ | ⟨a, len, cap, m, n, D, Pl, hcs, _, hl, hm, hmm, hx, hcell⟩
  · simp [Value.cells] at hcs
    obtain ⟨rfl, rfl, rfl⟩ := hcs
    exact ⟨[], ⟨none, 0, rfl, Nat.le_refl _, fun i a hi => by simp at hi⟩, by simp, Nat.zero_le _⟩
  · simp [Value.cells] at hcs
    obtain ⟨rfl, rfl, rfl⟩ := hcs
    simp only [if_true] at hmm
    subst hmm
    rw [cells34] at hcell
    obtain ⟨L, hL⟩ := Deep.choose_lt (α := Nat × Nat) (n := m) (p := fun i x => (W.cell? (a.add (i * 2)) = some (.int .u8 x.1) ∧ W.cell? ((a.add (i * 2)).add 1) = some (.int .u8 x.2)) ∧ x.1 < 256 ∧ x.2 < 256) (fun i hi => by
      obtain ⟨cs, h1, h2⟩ := hcell i hi
      obtain ⟨_, hlen, hc⟩ := World.cells?_some h1
      obtain ⟨c0, c1, rfl⟩ := list2 cs hlen
      obtain ⟨y0, y1, n', _, _, h3, h4⟩ := trod_struct2 Tryd.underlying34 h2
      simp only [cells5x, List.drop_zero, List.drop_succ_cons, List.take_succ_cons, List.take_zero] at h3 h4
      obtain ⟨x0, e0, rfl, w0⟩ := DataW.trod_int Tryd.underlying5 h3
      obtain ⟨x1, e1, rfl, w1⟩ := DataW.trod_int Tryd.underlying5 h4
      simp at e0 e1
      subst e0 e1
      obtain ⟨n0, hn0, rfl⟩ := u8_nat w0
      obtain ⟨n1, hn1, rfl⟩ := u8_nat w1
      exact ⟨(n0, n1), ⟨by simpa [Addr.add] using hc 0 (by omega), by simpa using hc 1 (by omega)⟩, hn0, hn1⟩)
    refine ⟨(List.range len0).map L, ⟨some a, m, by simp, by simpa using hl, fun i x hi => ?_⟩, fun x hx => ?_, by simp; omega⟩
    · obtain ⟨h5, h6⟩ := List.getElem?_eq_some_iff.1 hi
      simp at h5 h6
      subst h6
      obtain ⟨⟨k0, k1⟩, _, _⟩ := hL i (by omega)
      have z0 := (hL 0 (by omega)).1.1
      obtain ⟨b, o, spot⟩ := a
      have hspot : spot = none := by simpa [Addr.add] using World.cell?_spot z0
      subst hspot
      simp only [Addr.add_lit] at k0 k1
      refine ⟨b, o, rfl, by have := block_lt_of_cell k0; exact this, fun j u hj => ?_⟩
      match j, hj with
      | 0, hj => simp [buC] at hj; subst hj; exact k0
      | 1, hj => simp [buC] at hj; subst hj; exact k1
      | j + 2, hj => simp [buC] at hj
    · obtain ⟨i, hi, rfl⟩ := List.mem_map.1 hx
      have := List.mem_range.1 hi
      exact (hL i (by omega)).2
theorem open_ws {H : Type} {enc : TypeId × Value → H} {r : Reach} {W : World} {base : Nat} {v : Value} {d : DataW H} {p : List MemPlace} (hv : Value.okWide Tryd.prog W r base 24 v)
    (h : DataW.Trod enc Tryd.prog W 0 (fun _ => true) true 24 v d p) : ∃ xs : List (Nat × Nat × Nat), ReadsO 3 wsC W v xs ∧ (∀ x ∈ xs, x.1 < 256 ∧ x.2.1 < 256 ∧ x.2.2 < 256) ∧ xs.length ≤ maxLen := by
  obtain ⟨a0, len0, cap0, rfl⟩ := okWide_slice Tryd.underlying24 hv
  obtain ⟨fuel, hf⟩ := h
  rcases Deep.open_slice Tryd.underlying24 hf with ⟨hcs, hx⟩ | ⟨a, len, cap, m, n, D, Pl, hcs, _, hl, hm, hmm, hx, hcell⟩
  · simp [Value.cells] at hcs
    obtain ⟨rfl, rfl, rfl⟩ := hcs
    exact ⟨[], ⟨none, 0, rfl, Nat.le_refl _, fun i a hi => by simp at hi⟩, by simp, Nat.zero_le _⟩
  · simp [Value.cells] at hcs
    obtain ⟨rfl, rfl, rfl⟩ := hcs
    simp only [if_true] at hmm
    subst hmm
    rw [cells39] at hcell
    obtain ⟨L, hL⟩ := Deep.choose_lt (α := Nat × Nat × Nat) (n := m) (p := fun i x => (W.cell? (a.add (i * 3)) = some (.int .u8 x.1) ∧ W.cell? ((a.add (i * 3)).add 1) = some (.int .u8 x.2.1) ∧ W.cell? ((a.add (i * 3)).add 2) = some (.int .u8 x.2.2)) ∧ x.1 < 256 ∧ x.2.1 < 256 ∧ x.2.2 < 256) (fun i hi => by
      obtain ⟨cs, h1, h2⟩ := hcell i hi
      obtain ⟨_, hlen, hc⟩ := World.cells?_some h1
      obtain ⟨c0, c1, c2, rfl⟩ := list3 cs hlen
      obtain ⟨y0, y1, y2, n', _, _, h3, h4, h5⟩ := Deep.trod_struct3 Tryd.underlying39 h2
      simp only [cells5x, List.drop_zero, List.drop_succ_cons, List.take_succ_cons, List.take_zero] at h3 h4 h5
      obtain ⟨x0, e0, rfl, w0⟩ := DataW.trod_int Tryd.underlying5 h3
      obtain ⟨x1, e1, rfl, w1⟩ := DataW.trod_int Tryd.underlying5 h4
      obtain ⟨x2, e2, rfl, w2⟩ := DataW.trod_int Tryd.underlying5 h5
      simp at e0 e1 e2
      subst e0 e1 e2
      obtain ⟨n0, hn0, rfl⟩ := u8_nat w0
      obtain ⟨n1, hn1, rfl⟩ := u8_nat w1
      obtain ⟨n2, hn2, rfl⟩ := u8_nat w2
      exact ⟨(n0, n1, n2), ⟨by simpa [Addr.add] using hc 0 (by omega), by simpa using hc 1 (by omega), by simpa using hc 2 (by omega)⟩, hn0, hn1, hn2⟩)
    refine ⟨(List.range len0).map L, ⟨some a, m, by simp, by simpa using hl, fun i x hi => ?_⟩, fun x hx => ?_, by simp; omega⟩
    · obtain ⟨h5, h6⟩ := List.getElem?_eq_some_iff.1 hi
      simp at h5 h6
      subst h6
      obtain ⟨⟨k0, k1, k2⟩, _, _⟩ := hL i (by omega)
      have z0 := (hL 0 (by omega)).1.1
      obtain ⟨b, o, spot⟩ := a
      have hspot : spot = none := by simpa [Addr.add] using World.cell?_spot z0
      subst hspot
      simp only [Addr.add_lit] at k0 k1 k2
      refine ⟨b, o, rfl, by have := block_lt_of_cell k0; exact this, fun j u hj => ?_⟩
      match j, hj with
      | 0, hj => simp [wsC] at hj; subst hj; exact k0
      | 1, hj => simp [wsC] at hj; subst hj; exact k1
      | 2, hj => simp [wsC] at hj; subst hj; exact k2
      | j + 3, hj => simp [wsC] at hj
    · obtain ⟨i, hi, rfl⟩ := List.mem_map.1 hx
      have := List.mem_range.1 hi
      exact (hL i (by omega)).2
theorem gTab : Tryd.prog.globalNamed "math/bits.deBruijn64tab" = some 0 := by kernel_rfl
/-- The library's table off the row's condition. -/
theorem tab_of_laid {W : World} (h : laidMetH Tryd.prog Rows.topPlansRow.laid W) : Tab W := by
  rw [MakeChecks.laidMetH_plain _ _ _ (by kernel_rfl)] at h
  have hT := Lib.tabIs_of_head (k := .u8) (zs := tabL) (n := 64) gTab (t := (Tryd.prog.globals[0]?).get (by kernel_rfl) |>.type) (e := 5) (by kernel_rfl) (by kernel_rfl) Tryd.underlying5 cells5x (by kernel_rfl) h
  intro i hi
  exact hT.cell gTab i hi
end Go.Proofs.YtnnkibdjbodncaaDoor
