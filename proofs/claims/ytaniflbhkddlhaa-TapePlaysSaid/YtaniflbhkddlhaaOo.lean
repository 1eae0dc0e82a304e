/-
  How the slices of slices of bytes that came in are opened, and what the bound on the input gives. No condition.
-/
import Derived.Test.YtaniflbhkddlhaaO
import Derived.Test.YtaniflbhkddlhaaWw
import Derived.Deep.Slices
namespace Go.Proofs.Ytaniflbhkddlhaa
open Go.ChangeShapes Go.WideShapes Go.ChangeAt Go.RowKit
theorem cells22 : Try.prog.cellsOf 22 = 1 := by kernel_rfl
/-- One slice of bytes of a slice of them that came in. -/
theorem open_elem {H : Type} {enc : TypeId × Value → H} {W : World} {n : Nat} {V : Value} {x : DataW H × List MemPlace}
    (hf : DataW.trod enc Try.prog W 0 (fun _ => true) true n 22 [V] = some x) : ∃ ao cap l, V = .slice ao l.length cap ∧ Bs W ao cap l ∧ l.length + 1 ≤ Rows.uptoBulk x.1 := by
  rcases open_ints Try.underlying22 Try.underlying5 (by kernel_rfl) hf with ⟨hcs, rfl⟩ | ⟨a, len, c, zs, hcs, _, hl, hm, hz, rfl, hcell, hwz⟩
  · simp only [List.cons.injEq, and_true] at hcs
    subst hcs
    exact ⟨none, 0, [], rfl, ⟨fun i hi => by simp at hi, Nat.le_refl _, Nat.zero_le _, fun _ => rfl, fun _ h => by cases h⟩, by simp [Rows.uptoBulk]⟩
  · simp only [List.cons.injEq, and_true] at hcs
    subst hcs
    have hz' : zs.length = c := by simpa using hz
    have hlen : (zs.take len).length = len := by simp; omega
    refine ⟨some a, c, zs.take len, by rw [hlen], ⟨fun i hi => ?_, by omega, hm, (fun h => by cases h), fun y hy => ?_⟩, ?_⟩
    · have hi' : i < zs.length := by omega
      have hc := hcell i hi'
      obtain ⟨b, o, spot⟩ := a
      have hc0 := hcell 0 (by omega)
      have hspot : spot = none := by simpa [Addr.add] using World.cell?_spot hc0
      subst hspot
      rw [Addr.add_lit] at hc
      refine ⟨b, o, rfl, ?_⟩
      rw [hc]
      have hg : (zs.take len).getD i 0 = zs.getD i 0 := by simp only [List.getD, List.getElem?_take]; rw [if_pos (by omega)]
      rw [hg]
    · exact bounds_u8 (hwz y (List.mem_of_mem_take hy))
    · have := bulk_slice (lits .u8 (zs.take len) : List (DataW H)) (lits .u8 (zs.drop len))
      simp only [lits, List.length_map] at this ⊢
      omega
theorem bulkAll_map {H : Type} (D : Nat → DataW H) : ∀ (ls : List (List Int)) (o : Nat), (∀ i, i < ls.length → (ls.getD i []).length + 1 ≤ Rows.uptoBulk (D (o + i))) →
    (layL ls).length ≤ 12 * Rows.uptoBulkAll ((List.range ls.length).map fun i => D (o + i))
  | [], _, _ => by simp [layL_nil]
  | x :: r, o, h => by
    have h0 := h 0 (by simp)
    have hr := bulkAll_map D r (o + 1) fun i hi => by
      have := h (i + 1) (by simpa using hi)
      rw [show o + 1 + i = o + (i + 1) by omega]
      simpa [List.getD] using this
    rw [layL_cons, List.length_append, encL_len, List.length_cons, List.range_succ_eq_map, List.map_cons, List.map_map]
    simp only [Rows.uptoBulkAll]
    have e : ((fun i => D (o + i)) ∘ Nat.succ) = fun i => D (o + 1 + i) := by
      funext i
      show D (o + (i + 1)) = _
      rw [show o + (i + 1) = o + 1 + i by omega]
    rw [e]
    simp only [List.getD, List.getElem?_cons_zero, Option.getD_some] at h0
    omega
/-- A slice of slices of bytes that came in: what it holds. -/
theorem open_rows {H : Type} {enc : TypeId × Value → H} {r : Reach} {W : World} {base : Nat} {v : Value} {d : DataW H} {p : List MemPlace} (hv : Value.okWide Try.prog W r base 37 v)
    (h : DataW.Trod enc Try.prog W 0 (fun _ => true) true 37 v d p) :
    ∃ ao cap ls, v = .slice ao ls.length cap ∧ Rs W ao cap ls ∧ (layL ls).length ≤ 12 * Rows.uptoBulk d := by
  obtain ⟨a0, len0, cap0, rfl⟩ := okWide_slice Try.underlying37 hv
  obtain ⟨fuel, hf⟩ := h
  rcases Deep.open_slice1 Try.underlying37 cells22 hf with ⟨hcs, hx⟩ | ⟨a, len, cap, m, n, V, D, Pl, hcs, _, hl, hm, hmm, hx, hcell⟩
  · simp [Value.cells] at hcs
    obtain ⟨rfl, rfl, rfl⟩ := hcs
    exact ⟨none, 0, [], rfl, ⟨fun i hi => by simp at hi, Nat.le_refl _, Nat.zero_le _, fun _ => rfl⟩, by simp [layL_nil]⟩
  · simp [Value.cells] at hcs
    obtain ⟨rfl, rfl, rfl⟩ := hcs
    simp only [Prod.mk.injEq] at hx
    simp only [if_true] at hmm
    subst hmm
    obtain ⟨L, hL⟩ := Deep.choose_lt (α := List Int) (n := m) (p := fun i l => ∃ ao cap, V i = .slice ao l.length cap ∧ Bs W ao cap l ∧ l.length + 1 ≤ Rows.uptoBulk (D i)) (fun i hi => by
      obtain ⟨ao, cap, l, h1, h2, h3⟩ := open_elem (hcell i hi).2
      exact ⟨l, ao, cap, h1, h2, h3⟩)
    have hget : ∀ i, i < len0 → ((List.range len0).map L).getD i [] = L i := fun i hi => by simp [List.getD, hi]
    refine ⟨some a, m, (List.range len0).map L, by simp, ⟨fun i hi => ?_, by simpa using hl, hm, fun h => by cases h⟩, ?_⟩
    · have hi' : i < len0 := by simpa using hi
      obtain ⟨ao, cap, h1, h2, _⟩ := hL i (by omega)
      have hc := (hcell i (by omega)).1
      obtain ⟨b, o, spot⟩ := a
      have hc0 := (hcell 0 (by omega)).1
      have hspot : spot = none := by simpa [Addr.add] using World.cell?_spot hc0
      subst hspot
      rw [Addr.add_lit] at hc
      refine ⟨b, o, ao, cap, rfl, ?_, ?_⟩
      · rw [hc, hget i hi', h1]
      · rw [hget i hi']; exact h2
    · rw [hx.1]
      have := bulkAll_map D ((List.range len0).map L) 0 (fun i hi => by
        have hi' : i < len0 := by simpa using hi
        rw [hget i hi', Nat.zero_add]
        obtain ⟨_, _, _, _, h3⟩ := hL i (by omega)
        exact h3)
      simp only [Rows.uptoBulk, List.length_map, List.length_range, Nat.zero_add] at this ⊢
      have e : (fun i => D i) = D := rfl
      rw [e] at this
      omega
end Go.Proofs.Ytaniflbhkddlhaa
