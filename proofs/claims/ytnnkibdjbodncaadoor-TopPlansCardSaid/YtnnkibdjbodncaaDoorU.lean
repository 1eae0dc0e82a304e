/- Rows of structs, and what a scene reads as. No condition. -/
import Derived.Test.YtnnkibdjbodncaaDoorTa
import Derived.Test.YtnnkibdjbodncaaDoorSf
namespace Go.Proofs.YtnnkibdjbodncaaDoor
open Go.RowKit
/-- A row of rows that the call made itself. -/
def RowOf {α : Type} (e k : Nat) (c : α → List Value) (w : World) (B : Nat) (v : Value) (l : List α) : Prop := w.ownsRow B e k v l.length (l.flatMap c)
/-- A slice that reads as a list of structs. -/
def Reads {α : Type} (k : Nat) (c : α → List Value) (w : World) (v : Value) (l : List α) : Prop :=
  ∃ ao cap, v = .slice ao l.length cap ∧ l.length ≤ cap ∧ ∀ i a, l[i]? = some a → ∃ g, ao = some ⟨g, 0, none⟩ ∧ g < w.heap.size ∧ ∀ j u, (c a)[j]? = some u → w.cell? ⟨g, i * k + j, none⟩ = some u
section
variable {α : Type} {e k : Nat} {c : α → List Value}
theorem RowOf.nil (w : World) (B : Nat) : RowOf e k c w B (.slice none 0 0) [] := ⟨by simp, .inl ⟨rfl, rfl⟩⟩
theorem RowOf.reads (hk : ∀ a, (c a).length = k) {w : World} {B : Nat} {v : Value} {l : List α} (h : RowOf e k c w B v l) : Reads k c w v l := by
  have hlt := h.lt
  have hc := fun i a (hi : l[i]? = some a) j u (hj : (c a)[j]? = some u) => by
    have hjk : j < k := by rw [← hk a]; exact (List.getElem?_eq_some_iff.1 hj).1
    have := flat_get c k hk l i j a hi hjk
    rw [hj] at this
    exact this
  rcases h.2 with ⟨rfl, h0⟩ | ⟨g, cap, cur, rfl, hb, hg, hn, hcm, _, _⟩
  · have : l = [] := List.eq_nil_of_length_eq_zero h0
    subst this
    exact ⟨none, 0, rfl, Nat.le_refl _, fun i a hi => by simp at hi⟩
  · refine ⟨_, cap, rfl, hn, fun i a hi => ⟨g, rfl, (hlt g rfl).2, fun j u hj => ?_⟩⟩
    have hu := hc i a hi j u hj
    have hil : i < l.length := (List.getElem?_eq_some_iff.1 hi).1
    have hjk : j < k := by rw [← hk a]; exact (List.getElem?_eq_some_iff.1 hj).1
    rw [World.ownsRow.cellAt h _ (by
      have := Nat.mul_le_mul_right k (show i + 1 ≤ l.length by omega)
      rw [Nat.add_mul] at this; omega)]
    exact hu
theorem RowOf.lt {w : World} {B : Nat} {v : Value} {l : List α} (h : RowOf e k c w B v l) {b : Nat} (hb : v.ownBlock = some b) : B ≤ b ∧ b < w.heap.size := by
  have := World.ownsRow.lt h b hb
  refine ⟨?_, this.2⟩
  rcases h.2 with ⟨rfl, _⟩ | ⟨g, cap, cur, rfl, hb2, _⟩
  · cases hb
  · simp only [Value.ownBlock, Option.some.injEq] at hb
    omega
theorem RowOf.kept {w w' : World} {B : Nat} {v : Value} {l : List α} (h : RowOf e k c w B v l) (hb : ∀ b, v.ownBlock = some b → w'.heap[b]? = w.heap[b]?) : RowOf e k c w' B v l := by
  refine ⟨h.1, ?_⟩
  rcases h.2 with hn | ⟨g, cap, cur, rfl, hb2, hgg, rest⟩
  · exact .inl hn
  · exact .inr ⟨g, cap, cur, rfl, hb2, by rw [hb g rfl]; exact hgg, rest⟩
theorem RowOf.below {w w' : World} {B : Nat} {v : Value} {l : List α} (h : RowOf e k c w B v l) (hb : Below w.heap.size w w') : RowOf e k c w' B v l :=
  h.kept fun b hv => hb.block b (h.lt hv).2
theorem RowOf.snoc {w : World} {B n : Nat} {v : Value} {l : List α} {a : α} (hn : l.length = n) (h : w.ownsRow B e k v (n + 1) (l.flatMap c ++ c a)) : RowOf e k c w B v (l ++ [a]) := by
  unfold RowOf
  rw [List.flatMap_append, List.length_append, hn]
  simpa using h
/-- No row lies in a block of another type. -/
theorem RowOf.other {w : World} {B : Nat} {v : Value} {l : List α} (h : RowOf e k c w B v l) {b : Nat} {o : Obj} (hb : w.heap[b]? = some o) (ho : ∀ cur, o ≠ .cells cur e) : v.ownBlock ≠ some b := by
  intro hv
  rcases h.2 with ⟨rfl, _⟩ | ⟨g, cap, cur, rfl, _, hg, _⟩
  · cases hv
  · simp only [Value.ownBlock, Option.some.injEq] at hv
    subst hv
    rw [hb] at hg
    exact ho cur (Option.some.inj hg)
theorem Reads.below {w w' : World} {v : Value} {l : List α} (h : Reads k c w v l) (hb : Below w.heap.size w w') : Reads k c w' v l := by
  obtain ⟨ao, cap, hv, hl, hc⟩ := h
  refine ⟨ao, cap, hv, hl, fun i a hi => ?_⟩
  obtain ⟨g, hg, hlt, hcell⟩ := hc i a hi
  exact ⟨g, hg, by have := hb.size; omega, fun j u hj => by rw [hb.cell (p := ⟨g, _, none⟩) hlt]; exact hcell j u hj⟩
end
def ruC (r : Ru) : List Value := [.int .u64 r.1, .int .u64 0, .int .u64 0, .int .u64 0, .int .i64 r.2]
def wiC (x : Wi) : List Value := [.int .i64 x.id, .int .i64 x.n, .int .i64 x.long, .int .u64 x.of, .int .u64 0, .int .u64 0, .int .u64 0]
/-- A plan: whose, when, which nodes. -/
abbrev Pl := Nat × Int × Nat
def plC (p : Pl) : List Value := [.int .i64 p.1, .int .i64 p.2.1, .int .u64 p.2.2, .int .u64 0, .int .u64 0, .int .u64 0]
theorem ru_cells {w : World} {g i : Nat} {r : Ru} (h : ∀ j u, (ruC r)[j]? = some u → w.cell? ⟨g, i * 5 + j, none⟩ = some u) :
    w.cell? ⟨g, i * 5, none⟩ = some (.int .u64 r.1) ∧ w.cell? ⟨g, i * 5 + 1, none⟩ = some (.int .u64 0) ∧ w.cell? ⟨g, i * 5 + 2, none⟩ = some (.int .u64 0) ∧ w.cell? ⟨g, i * 5 + 3, none⟩ = some (.int .u64 0) ∧ w.cell? ⟨g, i * 5 + 4, none⟩ = some (.int .i64 r.2) :=
  ⟨h 0 _ rfl, h 1 _ rfl, h 2 _ rfl, h 3 _ rfl, h 4 _ rfl⟩
theorem wi_cells {w : World} {g i : Nat} {r : Wi} (h : ∀ j u, (wiC r)[j]? = some u → w.cell? ⟨g, i * 7 + j, none⟩ = some u) :
    w.cell? ⟨g, i * 7, none⟩ = some (.int .i64 r.id) ∧ w.cell? ⟨g, i * 7 + 1, none⟩ = some (.int .i64 r.n) ∧ w.cell? ⟨g, i * 7 + 2, none⟩ = some (.int .i64 r.long) ∧ w.cell? ⟨g, i * 7 + 3, none⟩ = some (.int .u64 r.of) ∧ w.cell? ⟨g, i * 7 + 4, none⟩ = some (.int .u64 0) ∧ w.cell? ⟨g, i * 7 + 5, none⟩ = some (.int .u64 0) ∧ w.cell? ⟨g, i * 7 + 6, none⟩ = some (.int .u64 0) :=
  ⟨h 0 _ rfl, h 1 _ rfl, h 2 _ rfl, h 3 _ rfl, h 4 _ rfl, h 5 _ rfl, h 6 _ rfl⟩
theorem pl_cells {w : World} {g i : Nat} {r : Pl} (h : ∀ j u, (plC r)[j]? = some u → w.cell? ⟨g, i * 6 + j, none⟩ = some u) :
    w.cell? ⟨g, i * 6, none⟩ = some (.int .i64 r.1) ∧ w.cell? ⟨g, i * 6 + 1, none⟩ = some (.int .i64 r.2.1) ∧ w.cell? ⟨g, i * 6 + 2, none⟩ = some (.int .u64 r.2.2) ∧ w.cell? ⟨g, i * 6 + 3, none⟩ = some (.int .u64 0) ∧ w.cell? ⟨g, i * 6 + 4, none⟩ = some (.int .u64 0) ∧ w.cell? ⟨g, i * 6 + 5, none⟩ = some (.int .u64 0) :=
  ⟨h 0 _ rfl, h 1 _ rfl, h 2 _ rfl, h 3 _ rfl, h 4 _ rfl, h 5 _ rfl⟩
end Go.Proofs.YtnnkibdjbodncaaDoor
