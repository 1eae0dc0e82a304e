/- What stays while a tape is called: the script's loss, what is wanted. No condition. -/
import Derived.Test.YtaniflbhkddlhaaTl
import Derived.Test.YtaniflbhkddlhaaTm
import Derived.Test.YtaniflbhkddlhaaTn
import Derived.Test.YtaniflbhkddlhaaOn
namespace Go.Proofs.Ytaniflbhkddlhaa
open Go.RowKit
structure KeptW (w wa : World) (bx : Nat) (v : Value) (W : List (List Int)) (bo : Option Addr) (n bc : Nat) (B : List Int) (fu ke : Int) : Prop where
  below : Below w.heap.size w wa
  own : OwnS wa w.heap.size v W
  c0 : wa.cell? ⟨bx, 0, none⟩ = some (.slice bo n bc)
  c1 : wa.cell? ⟨bx, 1, none⟩ = some (.int .i64 fu)
  c2 : wa.cell? ⟨bx, 2, none⟩ = some (.int .i64 ke)
  bytes : Bs wa bo bc B
section
variable {w wa wb : World} {bx g : Nat} {v : Value} {W : List (List Int)} {bo : Option Addr} {n bc : Nat} {B : List Int} {fu ke : Int} {off : Bool} {fuse : Int} {b : List Int} {k : Nat}
theorem KeptW.on (h : KeptW w wa bx v W bo n bc B fu ke) (hb : Below wa.heap.size wa wb) : KeptW w wb bx v W bo n bc B fu ke :=
  ⟨st_below h.below hb, h.own.kept hb, (hb.cell (block_lt_of_cell h.c0)).trans h.c0, (hb.cell (block_lt_of_cell h.c1)).trans h.c1, (hb.cell (block_lt_of_cell h.c2)).trans h.c2, h.bytes.below hb⟩
theorem KeptW.but (h : KeptW w wa bx v W bo n bc B fu ke) (hT : TapeAt wa g off fuse b k) (hg : w.heap.size ≤ g) (hx : bx ≠ g) (hb : But g wa wb) : KeptW w wb bx v W bo n bc B fu ke :=
  ⟨st_but h.below hg hb, ownS_but h.own hT hb, hb.cell h.c0 hx, hb.cell h.c1 hx, hb.cell h.c2 hx, h.bytes.but hT.noBytes hb⟩
/-- Behind an append onto what is wanted. -/
theorem KeptW.app {v' : Value} {W' : List (List Int)} (h : KeptW w wa bx v W bo n bc B fu ke) (hx : ∀ q, v.ownBlock = some q → q < bx) (hB : Bs w bo bc B) (hg : wa.grownBy wb v.ownBlock) (ho : OwnS wb w.heap.size v' W') : KeptW w wb bx v' W' bo n bc B fu ke := by
  have hbel := h.own.below_grown h.below hg h.below.size (Nat.le_refl _)
  have hne : some bx ≠ v.ownBlock := fun e => Nat.lt_irrefl _ (hx bx e.symm)
  have hc : ∀ o u, wa.cell? ⟨bx, o, none⟩ = some u → wb.cell? ⟨bx, o, none⟩ = some u := fun o u hu => hg.cell hu hne
  exact ⟨hbel, ho, hc _ _ h.c0, hc _ _ h.c1, hc _ _ h.c2, hB.below hbel⟩
end
theorem Rs.pre {w : World} {ao : Option Addr} {cap : Nat} {ls : List (List Int)} (h : Rs w ao cap ls) (k : Nat) : Rs w ao cap (ls.take k) := by
  refine ⟨fun i hi => ?_, by have := h.cap_le; simp; omega, h.max, h.nil⟩
  have hi' : i < k ∧ i < ls.length := by simp at hi; omega
  obtain ⟨b, o, ao', c', rfl, hc, hB⟩ := h.cells i hi'.2
  have e : (ls.take k).getD i [] = ls.getD i [] := by simp only [List.getD, List.getElem?_take]; rw [if_pos hi'.1]
  exact ⟨b, o, ao', c', rfl, by rw [e]; exact hc, by rw [e]; exact hB⟩
/-- The loss that a round has laid in a variable of its own. -/
theorem keptW_new {w wr : World} {v : Value} {W : List (List Int)} {bo : Option Addr} {n bc : Nat} {B : List Int} {fu ke : Int} (hb : Below w.heap.size w wr) (ho : OwnS wr w.heap.size v W) (hB : Bs w bo bc B) :
    KeptW w (wr.alloc (.cells #[.slice bo n bc, .int .i64 fu, .int .i64 ke] 50)) wr.heap.size v W bo n bc B fu ke :=
  ⟨st_below hb (below_alloc _ _), ho.kept (below_alloc _ _), by simp, by simp, by simp, (hB.below hb).below (below_alloc _ _)⟩
theorem OwnS.rs {w : World} {base : Nat} {ao : Option Addr} {m cap : Nat} {ls : List (List Int)} (h : OwnS w base (.slice ao m cap) ls) : Rs w ao cap ls ∧ ls.length = m := by
  obtain ⟨ao', cap', he, hR⟩ := h.shape
  injection he with e1 e2 e3
  subst e1 e2 e3
  exact ⟨hR, rfl⟩
theorem bytes_apart {w wa : World} {base : Nat} {v : Value} {W : List (List Int)} {bo : Option Addr} {bc : Nat} {B : List Int} (h : OwnS wa base v W) (hB : Bs w bo bc B) (hb : w.heap.size ≤ base) : ∀ a, bo = some a → B ≠ [] → some a.block ≠ v.ownBlock := fun a ha hl e => by
  obtain ⟨b', o', e', hc⟩ := hB.cells 0 (List.length_pos_iff.2 hl)
  rw [e'] at ha
  injection ha with ha
  subst ha
  have h1 := block_lt_of_cell hc
  have h2 := (h.lt _ e.symm).1
  simp only at h1 h2
  omega
theorem one_few {B : List Int} {n : Nat} (h : B.length = n) (hn : n ≤ 300) : Few [B] := fun x hx => by simp at hx; subst hx; omega
theorem few_take {W : List (List Int)} (h : Short W) (j : Nat) (hj : j < W.length) : (W.getD j []).length ≤ 65536 := by
  have := h (W.getD j []) (by simp [List.getD, hj])
  omega
theorem lay_take_short {W : List (List Int)} (h : Short W) (j : Nat) (hl : W.length ≤ 101) : (layL (W.take j)).length ≤ 1048576 := by
  have h1 := layL_le W j
  have h2 := short_lay W h
  omega
end Go.Proofs.Ytaniflbhkddlhaa
