/-
  How the slices of bytes that came in are opened, and what the bound on the input gives. No condition.
-/
import Derived.Test.YtaniflbhkddlhaaB
import Derived.ProofKit
import Derived.OpenShut
import Derived.SizedLaws
import Derived.Deep.CondSized
namespace Go.Proofs.Ytaniflbhkddlhaa
open Go.ChangeShapes Go.WideShapes Go.ChangeAt Go.RowKit
theorem one_le {H : Type} (d : DataW H) : 1 ≤ Rows.uptoBulk d := by
  cases d with
  | lit l => cases l <;> simp [Rows.uptoBulk]
  | nil => simp [Rows.uptoBulk]
  | ptr d => simp [Rows.uptoBulk]
  | slice elems spare => simp [Rows.uptoBulk]
  | agg parts => simp [Rows.uptoBulk]
  | iface t d => simp [Rows.uptoBulk]
  | map entries => simp [Rows.uptoBulk]
  | held h => simp [Rows.uptoBulk]
theorem bulk_len {H : Type} (l : List (DataW H)) : l.length ≤ Rows.uptoBulkAll l := by
  induction l with
  | nil => simp [Rows.uptoBulkAll]
  | cons x r ih => have := one_le x; simp only [Rows.uptoBulkAll, List.length_cons]; omega
theorem bulk_slice {H : Type} (elems spare : List (DataW H)) : elems.length + spare.length + 1 ≤ Rows.uptoBulk (.slice elems spare) := by
  have h1 := bulk_len elems
  have h2 := bulk_len spare
  simp only [Rows.uptoBulk]
  omega
theorem bulk_bound {H : Type} {l : List (DataW H)} (hk : Rows.uptoSmall H l = true) : Rows.uptoBulkAll l ≤ 1048576 := of_decide_eq_true hk
/-- A slice of bytes that came in: what it holds; and how its reading is made. -/
theorem open_bytes {H : Type} {enc : TypeId × Value → H} {r : Reach} {W : World} {base : Nat} {v : Value} {d : DataW H} {p : List MemPlace} (hv : Value.okWide Try.prog W r base 22 v)
    (h : DataW.Trod enc Try.prog W 0 (fun _ => true) true 22 v d p) :
    ∃ ao cap l, v = .slice ao l.length cap ∧ Bs W ao cap l ∧ ((d = .nil ∧ l = []) ∨ ∃ e s, d = .slice e s ∧ e.length = l.length) := by
  obtain ⟨a0, len0, cap0, rfl⟩ := okWide_slice Try.underlying22 hv
  obtain ⟨fuel, hf⟩ := h
  rcases open_ints Try.underlying22 Try.underlying5 (by kernel_rfl) hf with ⟨hcs, hx⟩ | ⟨x, len, c, zs, hcs, _, hl, hm, hz, hx, hcell, hwz⟩
  · simp [Value.cells] at hcs
    obtain ⟨rfl, rfl, rfl⟩ := hcs
    simp only [Prod.mk.injEq] at hx
    exact ⟨none, 0, [], rfl, ⟨fun i hi => by simp at hi, Nat.le_refl _, Nat.zero_le _, fun _ => rfl, fun _ h => by cases h⟩, .inl ⟨hx.1, rfl⟩⟩
  · simp [Value.cells] at hcs
    obtain ⟨rfl, rfl, rfl⟩ := hcs
    simp only [Prod.mk.injEq] at hx
    have hz' : zs.length = cap0 := by simpa using hz
    have hlen : (zs.take len0).length = len0 := by simp; omega
    refine ⟨some x, cap0, zs.take len0, by rw [hlen], ⟨fun i hi => ?_, by omega, hm, (fun h => by cases h), fun y hy => ?_⟩, .inr ⟨_, _, hx.1, by simp [lits]⟩⟩
    · have hi' : i < zs.length := by omega
      have hc := hcell i hi'
      obtain ⟨b, o, spot⟩ := x
      have hc0 := hcell 0 (by omega)
      have hspot : spot = none := by simpa [Addr.add] using World.cell?_spot hc0
      subst hspot
      rw [Addr.add_lit] at hc
      refine ⟨b, o, rfl, ?_⟩
      rw [hc]
      have hg : (zs.take len0).getD i 0 = zs.getD i 0 := by simp only [List.getD, List.getElem?_take]; rw [if_pos (by omega)]
      rw [hg]
    · exact bounds_u8 (hwz y (List.mem_of_mem_take hy))
theorem bytes_bulk {H : Type} {d : DataW H} {l : List Int} (h : (d = .nil ∧ l = []) ∨ ∃ e s, d = .slice e s ∧ e.length = l.length) : l.length + 1 ≤ Rows.uptoBulk d := by
  rcases h with ⟨rfl, rfl⟩ | ⟨e, s, rfl, he⟩
  · simp [Rows.uptoBulk]
  · have := bulk_slice e s; omega
theorem bytes5 : Try.prog.bytesOf 5 = 1 := by kernel_rfl
theorem bytes_sized {H : Type} {d : DataW H} {l : List Int} {ts : List TypeId} {ds : List (DataW H)} {j : Nat} (hsz : (DataW.weightsEach Try.prog ts ds).all (· ≤ reachBytes) = true) (ht : ts[j]? = some 22) (hj : ds[j]? = some d)
    (h : (d = .nil ∧ l = []) ∨ ∃ e s, d = .slice e s ∧ e.length = l.length) : l.length ≤ 140737488351232 := by
  rcases h with ⟨_, rfl⟩ | ⟨e, s, rfl, he⟩
  · simp
  · have := sized_slice hsz ht hj Try.underlying22
    rw [bytes5] at this
    simp only [reachBytes] at this
    omega
end Go.Proofs.Ytaniflbhkddlhaa
