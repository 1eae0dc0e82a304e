/- Slices of slices of bytes of the call's own, whatever their empty ones point at. No condition but the sizes. -/
import Derived.Test.YtaniflbhkddlhaaTk
namespace Go.Proofs.Ytaniflbhkddlhaa
open Go.RowKit
def RowOkS (w : World) (row : Option Nat) (v : Value) (l : List Int) : Prop :=
  ∃ ao cap, v = .slice ao l.length cap ∧ Bs w ao cap l ∧ ∀ a, ao = some a → l ≠ [] → some a.block ≠ row
def OwnS (w : World) (base : Nat) (v : Value) (ls : List (List Int)) : Prop :=
  ∃ vs, w.ownsRow base 22 1 v ls.length vs ∧ ∀ i, i < ls.length → RowOkS w v.ownBlock (vs.getD i undef) (ls.getD i [])
theorem OwnR.s {w : World} {base : Nat} {v : Value} {ls : List (List Int)} (h : OwnR w base v ls) : OwnS w base v ls := by
  obtain ⟨vs, h1, h2⟩ := h
  refine ⟨vs, h1, fun i hi => ?_⟩
  obtain ⟨ao, cap, e, hB, hr⟩ := h2 i hi
  exact ⟨ao, cap, e, hB, fun a ha _ => (hr a ha).2⟩
theorem OwnS.nil (w : World) (base : Nat) : OwnS w base (.slice none 0 0) [] := (OwnR.nil w base).s
theorem OwnS.kept {w w' : World} {base : Nat} {v : Value} {ls : List (List Int)} (h : OwnS w base v ls) (hb : Below w.heap.size w w') : OwnS w' base v ls := by
  obtain ⟨vs, hown, hv⟩ := h
  refine ⟨vs, hown.kept (grown_of_below hb none) ?_, fun i hi => ?_⟩
  · cases hv : v.ownBlock with
    | none => exact .inl rfl
    | some k => exact .inr (by simp)
  · obtain ⟨ao, cap, he, hB, hr⟩ := hv i hi
    exact ⟨ao, cap, he, hB.below hb, hr⟩
theorem OwnS.mono {w : World} {base base' : Nat} {v : Value} {ls : List (List Int)} (h : OwnS w base v ls) (hb : base' ≤ base) : OwnS w base' v ls := by
  obtain ⟨vs, ⟨h1, h2⟩, h3⟩ := h
  refine ⟨vs, ⟨h1, ?_⟩, h3⟩
  rcases h2 with h2 | ⟨g, cap, cur, hv, hg, r⟩
  · exact .inl h2
  · exact .inr ⟨g, cap, cur, hv, Nat.le_trans hb hg, r⟩
theorem OwnS.shape {w : World} {base : Nat} {v : Value} {ls : List (List Int)} (h : OwnS w base v ls) : ∃ ao cap, v = .slice ao ls.length cap ∧ Rs w ao cap ls := by
  obtain ⟨vs, hown, hr⟩ := h
  obtain ⟨hlen, ⟨rfl, h0⟩ | ⟨g, cap, cur, rfl, hb, hg, hn, hm, hs, ht⟩⟩ := id hown
  · obtain rfl : ls = [] := List.eq_nil_of_length_eq_zero h0
    exact ⟨none, 0, rfl, fun i hi => by simp at hi, Nat.le_refl _, Nat.zero_le _, fun _ => rfl⟩
  · refine ⟨_, cap, rfl, fun i hi => ?_, hn, hm, fun h => by cases h⟩
    obtain ⟨ao, c, he, hB, _⟩ := hr i hi
    refine ⟨g, 0, ao, c, rfl, ?_, hB⟩
    rw [Nat.zero_add, hown.cellAt i (by omega), ← he]
    simp [List.getD, show i < vs.length by omega]
theorem OwnS.lt {w : World} {base : Nat} {v : Value} {ls : List (List Int)} (h : OwnS w base v ls) : ∀ q, v.ownBlock = some q → base ≤ q ∧ q < w.heap.size := by
  obtain ⟨vs, hown, _⟩ := h
  exact fun q hq => hown.lt q hq
theorem ownS_not_tape {w : World} {base g : Nat} {v : Value} {l : List (List Int)} {off : Bool} {fuse kept : Int} {u : Value} (h : OwnS w base v l) (ht : TapeBlk w g off fuse u kept) : v.ownBlock ≠ some g := by
  obtain ⟨vs, ⟨_, ⟨rfl, _⟩ | ⟨b, cap, cur, rfl, _, hg, _⟩⟩, _⟩ := h
  · simp [Value.ownBlock]
  · intro e
    simp only [Value.ownBlock, Option.some.injEq] at e
    subst e
    unfold TapeBlk at ht
    rw [ht] at hg
    simp at hg
theorem ownS_but {w w' : World} {base g : Nat} {v : Value} {l : List (List Int)} {off : Bool} {fuse : Int} {b : List Int} {k : Nat} (h : OwnS w base v l) (ht : TapeAt w g off fuse b k) (hb : But g w w') : OwnS w' base v l := by
  have hN := ht.noBytes
  obtain ⟨⟨ao, cap, h1, _⟩, _⟩ := ht
  have hne := ownS_not_tape h h1
  obtain ⟨vs, hown, hr⟩ := h
  refine ⟨vs, hown.kept hb.grown (.inr hne), fun i hi => ?_⟩
  obtain ⟨ao', cap', he, hB, hq⟩ := hr i hi
  exact ⟨ao', cap', he, hB.but hN hb, hq⟩
theorem OwnS.below_grown {N : Nat} {w wr w' : World} {v : Value} {ls : List (List Int)} (h : Below N w wr) (hg : wr.grownBy w' v.ownBlock) (hN : N ≤ wr.heap.size) {base : Nat} (ho : OwnS wr base v ls) (hb : N ≤ base) : Below N w w' :=
  h.grown hg hN fun k hk => Nat.le_trans hb (ho.lt k hk).1
/-- 'append' of one slice of bytes onto such a slice. -/
theorem wpList_apps (w : World) {ops : Array Oper} {rest : List Oper} {o : Oper} {a : Act} {Q : Exit → Act → World → Prop} (hg : o.guard = none) (s x : Operand)
    (hop : o.op = .call { callee := .builtin .append, args := #[s, x], argTypes := #[37, 37] }) (base : Nat) (v : Value) (ls : List (List Int)) (hs : a.eval s = v) (hown : OwnS w base v ls)
    (g c m : Nat) (ao : Option Addr) (cap : Nat) (l : List Int) (hx : a.eval x = .slice (some ⟨g, 0, none⟩) 1 c) (hcell : w.cell? ⟨g, 0, none⟩ = some (.slice ao m cap)) (hm : l.length = m) (hB : Bs w ao cap l)
    (hlt : ∀ a, ao = some a → l ≠ [] → some a.block ≠ v.ownBlock) (hb : ls.length ≤ 5000000000000) (hbase : base ≤ w.heap.size)
    (hK : ∀ v' w', OwnS w' base v' (ls ++ [l]) → w.grownBy w' v.ownBlock → wpList Try.prog ops Q rest (a.put o.dst v') w') :
    wpList Try.prog ops Q (o :: rest) a w := by
  obtain ⟨i0, hi, hz0, hz1, hz2⟩ := info_parts info22
  subst hm
  obtain ⟨vs, hrow, hr⟩ := hown
  refine wpList_append_own_at w hg s x 37 hop base 22 i0 (.slice none 0 0) 1 24 Try.underlying37 hi hz0 hz1 hz2 rfl (by decide) v ls.length vs hs hrow ⟨g, 0, none⟩ 1 c [.slice ao l.length cap] hx rfl ?_ ?_
    (by unfold maxLen; omega) (by omega) hbase ?_
  · intro j u hu
    have hj : j = 0 := by have := (List.getElem?_eq_some_iff.1 hu).1; simpa using this
    subst hj
    rw [← hu]
    simpa [Addr.add] using hcell
  · intro u hu
    rw [List.mem_singleton.1 hu]
    rfl
  · intro v' w' h1 h2 _ h4
    have hvs : vs.length = ls.length := by have := hrow.1; omega
    have old : ∀ (l : List Int) (ao : Option Addr) (cap : Nat), Bs w ao cap l → (∀ a, ao = some a → l ≠ [] → some a.block ≠ v.ownBlock) → Bs w' ao cap l ∧ ∀ a, ao = some a → l ≠ [] → some a.block ≠ v'.ownBlock := fun l ao cap hB hq =>
      ⟨hB.grown' h2 hq, fun a ha hl => by
        rcases h4 with e | e
        · rw [e]; exact hq a ha hl
        · rw [e]
          intro e'
          injection e' with e'
          obtain ⟨b', o', e1, hc⟩ := hB.cells 0 (List.length_pos_iff.2 hl)
          rw [ha] at e1
          injection e1 with e1
          subst e1
          have := block_lt_of_cell hc
          simp only at this e'
          omega⟩
    refine hK v' w' ⟨vs ++ [.slice ao l.length cap], by simpa using h1, fun i hi => ?_⟩ h2
    rw [List.length_append] at hi
    by_cases hlt' : i < ls.length
    · obtain ⟨ao', cap', he, hB', hr'⟩ := hr i hlt'
      obtain ⟨q1, q2⟩ := old _ ao' cap' hB' hr'
      rw [show (ls ++ [l]).getD i [] = ls.getD i [] by simp [List.getD, List.getElem?_append_left hlt']]
      refine ⟨ao', cap', ?_, q1, q2⟩
      rw [← he]
      simp [List.getD, List.getElem?_append_left (show i < vs.length by omega)]
    · obtain rfl : i = ls.length := by simp at hi; omega
      obtain ⟨q1, q2⟩ := old l ao cap hB hlt
      rw [show (ls ++ [l]).getD ls.length [] = l by simp [List.getD]]
      refine ⟨ao, cap, ?_, q1, q2⟩
      simp [List.getD, ← hvs]
/-- The tape, behind an append onto such a slice. -/
theorem tapeZ_apps {w w' : World} {g base : Nat} {v : Value} {l : List (List Int)} {b : List Int} {k : Nat} {off : Bool} {fuse : Int} (hv : OwnS w base v l) (h : TapeZ w g off fuse b k fun q => v.ownBlock = some q) (hg : w.grownBy w' v.ownBlock) :
    TapeAt w' g off fuse b k := by
  obtain ⟨⟨ao, cap, h1, h2, hz⟩, h3, h4, h5, h6⟩ := h
  refine ⟨⟨ao, cap, ?_, h2.grown' hg fun a ha hl e => hz a ha hl e.symm⟩, h3, h4, h5, h6⟩
  unfold TapeBlk
  rw [hg.block g h1.lt fun e => ownS_not_tape hv h1 e.symm]
  exact h1
end Go.Proofs.Ytaniflbhkddlhaa
