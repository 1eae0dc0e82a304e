/- Profiles: the nodes of a span taken out: what stands in memory in a round. No condition. -/
import Derived.Test.YtnnkibdjbodncaaDoorM
namespace Go.Proofs.YtnnkibdjbodncaaDoor
open Go.RowKit
/-- A step behind a pointer. -/
def StB (w : World) (X : Nat) (t x : Int) : Prop := w.heap[X]? = some (.cells #[.int .i64 t, .int .u64 x, .int .u64 0, .int .u64 0, .int .u64 0] 71)
theorem StB.cells {w : World} {X : Nat} {t x : Int} (h : StB w X t x) :
    w.cell? ⟨X, 0, none⟩ = some (.int .i64 t) ∧ w.cell? ⟨X, 1, none⟩ = some (.int .u64 x) ∧ w.cell? ⟨X, 2, none⟩ = some (.int .u64 0) ∧ w.cell? ⟨X, 3, none⟩ = some (.int .u64 0) ∧ w.cell? ⟨X, 4, none⟩ = some (.int .u64 0) := by
  unfold StB at h
  simp [World.cell?, h]
theorem StB.lt {w : World} {X : Nat} {t x : Int} (h : StB w X t x) : X < w.heap.size := by
  unfold StB at h
  exact (Array.getElem?_eq_some_iff.1 h).1
/-- What stands in memory in a round: w0: the world at the call; g: the box of the steps laid; X: the step at hand; gs: the nodes to be taken. -/
structure RS (w0 w : World) (gs : Nat) (S : Int) (g X : Nat) (v : Value) (out : List St) (xa xf : Int) : Prop where
  box : Box w g v
  row : StRow w (g + 1) v out
  x : StB w X xa xf
  set : Blk4 w gs S 0 0 0
  below : Below g w0 w
  glt : gs < g
  Xg : X ≠ g
  rowX : v.ownBlock ≠ some X
  sz : g + 1 ≤ w.heap.size
theorem Blk4.lt {w : World} {g : Nat} {x0 x1 x2 x3 : Int} (h : Blk4 w g x0 x1 x2 x3) : g < w.heap.size := by
  unfold Blk4 at h
  exact (Array.getElem?_eq_some_iff.1 h).1
theorem row_ge {w : World} {B : Nat} {v : Value} {l : List St} (h : StRow w B v l) {k : Nat} (hk : v.ownBlock = some k) : B ≤ k := by
  rcases h.2 with ⟨rfl, _⟩ | ⟨g, cap, cur, rfl, hb, _⟩
  · cases hk
  · simp only [Value.ownBlock, Option.some.injEq] at hk
    omega
theorem RS.kept {w0 w w' : World} {gs : Nat} {S : Int} {g X : Nat} {v : Value} {out : List St} {xa xf : Int} (h : RS w0 w gs S g X v out xa xf) (hb : Below w.heap.size w w') : RS w0 w' gs S g X v out xa xf :=
  ⟨h.box.below hb h.box.lt, h.row.below hb (fun k hk => (h.row.lt k hk).2), by unfold StB; rw [hb.block X h.x.lt]; exact h.x, h.set.below hb, h.below.trans (hb.mono (by have := h.sz; omega)), h.glt, h.Xg, h.rowX, by have := hb.size; have := h.sz; omega⟩
theorem RS.put {w0 w w' : World} {gs : Nat} {S : Int} {g X : Nat} {v : Value} {out out' : List St} {xa xf : Int} {e : Ending} (h : RS w0 w gs S g X v out xa xf) (hp : PutPost w g (g + 1) v out' e w') :
    ∃ v', e = .returned (.tuple #[]) ∧ RS w0 w' gs S g X v' out' xa xf := by
  obtain ⟨v', rfl, hb, hr, hloc, he⟩ := hp
  have hX := h.x.lt
  have hset := h.set.lt
  refine ⟨v', rfl, hb, hr, ?_, ?_, ?_, h.glt, h.Xg, ?_, by have := he.size; have := h.sz; omega⟩
  · unfold StB
    rw [he.block X hX h.Xg (fun e => h.rowX e.symm)]
    exact h.x
  · unfold Blk4
    rw [he.block gs hset (by have := h.glt; omega) (fun e => by have := row_ge h.row e.symm; have := h.glt; omega)]
    exact h.set
  · exact he.below h.below (by have := h.sz; omega) (Nat.le_refl _) fun k hk => by have := row_ge h.row hk; omega
  · rcases hloc with hl | ⟨k, hk, hl⟩
    · rw [hl]; exact h.rowX
    · rw [hl]; intro e; cases e; omega
theorem RS.drew {w0 w : World} {gs : Nat} {S : Int} {g X : Nat} {v : Value} {out : List St} {xa xf : Int} (h : RS w0 w gs S g X v out xa xf) : RS w0 w.drew gs S g X v out xa xf := h.kept (Below.refl _ _).drew
/-- The function that takes the nodes out of a set. -/
theorem takes_any {w : World} {gs : Nat} {S : Int} (h : Blk4 w gs S 0 0 0) (x : Int) : Calls Tryd.prog 23 #[.agg #[.int .u64 x, .int .u64 0, .int .u64 0, .int .u64 0], .pointer (some ⟨gs, 0, none⟩)] w (AggPost w [bits .andNot .u64 x S, 0, 0, 0]) := by
  have H2 := two w (.cells #[.int .u64 x, .int .u64 0, .int .u64 0, .int .u64 0] 28) (.cells #[.int .u64 0, .int .u64 0, .int .u64 0, .int .u64 0] 28)
  have HB := Lib.hid ((below_alloc' w (.cells #[.int .u64 x, .int .u64 0, .int .u64 0, .int .u64 0] 28)).alloc (by simp) (.cells #[.int .u64 0, .int .u64 0, .int .u64 0, .int .u64 0] 28))
  obtain ⟨c0, c1, c2, c3⟩ := (h.below HB.out).cells
  have h00 : bits .andNot .u64 0 0 = 0 := by decide
  have HR := Lib.hid (show Blk4 _ (w.heap.size + 1) 0 0 0 0 from H2.2)
  clear H2
  go_enter Tryd.func23, Tryd.ntmps23
  go_wp2_with (go_at_call 6; refine (not_any _ _ _ _ _ _ _ _ _).mono ?_; rintro e w2 ⟨rfl, hb2⟩; rw [setV_four, h00]; have hR := HR.out.below hb2; have HR2 := Lib.hid hR; obtain ⟨r0, r1, r2, r3⟩ := hR.cells; have fR := hR.frozen; have HL := Lib.hid (HB.out.trans (hb2.mono HB.out.size)); clear hb2 hR)
  have hW := four_end (y0 := bits .andNot .u64 x S) (y1 := 0) (y2 := 0) (y3 := 0) HR2.out
  obtain ⟨z0, z1, z2, z3⟩ := hW.cells
  refine bodyPost_ret (v := setV [bits .andNot .u64 x S, 0, 0, 0]) ?_ rfl ⟨rfl, four_below HL.out (by omega)⟩
  clear hW r0 r1 r2 r3 fR
  simp [results, Tryd.results23, go_sem, setV, z0, z1, z2, z3]
end Go.Proofs.YtnnkibdjbodncaaDoor
