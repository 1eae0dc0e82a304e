/- Slices of slices of bytes that a call made; appends onto them; what All answers. No condition but the sizes. -/
import Derived.Test.YtaniflbhkddlhaaWk
namespace Go.Proofs.Ytaniflbhkddlhaa
open Go.RowKit
/-- One slice of the call's own row: its bytes, and that it does not lie in the row's block. -/
def RowOk (w : World) (row : Option Nat) (v : Value) (l : List Int) : Prop :=
  ∃ ao cap, v = .slice ao l.length cap ∧ Bs w ao cap l ∧ ∀ a, ao = some a → a.block < w.heap.size ∧ some a.block ≠ row
def OwnR (w : World) (base : Nat) (v : Value) (ls : List (List Int)) : Prop :=
  ∃ vs, w.ownsRow base 22 1 v ls.length vs ∧ ∀ i, i < ls.length → RowOk w v.ownBlock (vs.getD i undef) (ls.getD i [])
theorem Bs.grown {w w' : World} {row : Option Nat} {ao : Option Addr} {cap : Nat} {l : List Int} (h : Bs w ao cap l) (hg : w.grownBy w' row) (hr : ∀ a, ao = some a → some a.block ≠ row) : Bs w' ao cap l := by
  refine ⟨fun i hi => ?_, h.cap_le, h.max, h.nil, h.byte⟩
  obtain ⟨b, o, rfl, hc⟩ := h.cells i hi
  exact ⟨b, o, rfl, hg.cell hc (hr ⟨b, o, none⟩ rfl)⟩
theorem OwnR.nil (w : World) (base : Nat) : OwnR w base (.slice none 0 0) [] := ⟨[], ⟨rfl, .inl ⟨rfl, rfl⟩⟩, fun i hi => by simp at hi⟩
theorem OwnR.kept {w w' : World} {base : Nat} {v : Value} {ls : List (List Int)} (h : OwnR w base v ls) (hb : Below w.heap.size w w') : OwnR w' base v ls := by
  obtain ⟨vs, hown, hv⟩ := h
  refine ⟨vs, hown.kept (grown_of_below hb none) ?_, fun i hi => ?_⟩
  · cases hv : v.ownBlock with
    | none => exact .inl rfl
    | some k => exact .inr (by simp)
  · obtain ⟨ao, cap, he, hB, hr⟩ := hv i hi
    exact ⟨ao, cap, he, hB.below hb, fun a ha => ⟨Nat.lt_of_lt_of_le (hr a ha).1 hb.size, (hr a ha).2⟩⟩
theorem OwnR.mono {w : World} {base base' : Nat} {v : Value} {ls : List (List Int)} (h : OwnR w base v ls) (hb : base' ≤ base) : OwnR w base' v ls := by
  obtain ⟨vs, ⟨h1, h2⟩, h3⟩ := h
  refine ⟨vs, ⟨h1, ?_⟩, h3⟩
  rcases h2 with h2 | ⟨g, cap, cur, hv, hg, r⟩
  · exact .inl h2
  · exact .inr ⟨g, cap, cur, hv, Nat.le_trans hb hg, r⟩
theorem OwnR.shape {w : World} {base : Nat} {v : Value} {ls : List (List Int)} (h : OwnR w base v ls) : ∃ ao cap, v = .slice ao ls.length cap ∧ Rs w ao cap ls := by
  obtain ⟨vs, hown, hr⟩ := h
  obtain ⟨hlen, ⟨rfl, h0⟩ | ⟨g, cap, cur, rfl, hb, hg, hn, hm, hs, ht⟩⟩ := id hown
  · obtain rfl : ls = [] := List.eq_nil_of_length_eq_zero h0
    exact ⟨none, 0, rfl, fun i hi => by simp at hi, Nat.le_refl _, Nat.zero_le _, fun _ => rfl⟩
  · refine ⟨_, cap, rfl, fun i hi => ?_, hn, hm, fun h => by cases h⟩
    obtain ⟨ao, c, he, hB, _⟩ := hr i hi
    refine ⟨g, 0, ao, c, rfl, ?_, hB⟩
    rw [Nat.zero_add, hown.cellAt i (by omega), ← he]
    simp [List.getD, show i < vs.length by omega]
theorem OwnB.lt {w : World} {base : Nat} {ao : Option Addr} {m cap : Nat} {l : List Int} (h : OwnB w base (.slice ao m cap) l) : ∀ a, ao = some a → base ≤ a.block ∧ a.block < w.heap.size := by
  intro a ha
  subst ha
  exact h.1.lt a.block rfl
theorem info22 : (Try.prog.info? 22).map (fun i => (i.zero, i.size, i.bytes)) = some (some (.slice none 0 0), 1, 24) := by kernel_rfl
/-- 'append' of one slice of bytes onto a slice of them of the call's own. -/
theorem wpList_appr (w : World) {ops : Array Oper} {rest : List Oper} {o : Oper} {a : Act} {Q : Exit → Act → World → Prop} (hg : o.guard = none) (s x : Operand)
    (hop : o.op = .call { callee := .builtin .append, args := #[s, x], argTypes := #[37, 37] }) (base : Nat) (v : Value) (ls : List (List Int)) (hs : a.eval s = v) (hown : OwnR w base v ls)
    (g c m : Nat) (ao : Option Addr) (cap : Nat) (l : List Int) (hx : a.eval x = .slice (some ⟨g, 0, none⟩) 1 c) (hcell : w.cell? ⟨g, 0, none⟩ = some (.slice ao m cap)) (hm : l.length = m) (hB : Bs w ao cap l)
    (hlt : ∀ a, ao = some a → a.block < w.heap.size ∧ some a.block ≠ v.ownBlock) (hb : ls.length ≤ 5000000000000) (hbase : base ≤ w.heap.size)
    (hK : ∀ v' w', OwnR w' base v' (ls ++ [l]) → w.grownBy w' v.ownBlock → wpList Try.prog ops Q rest (a.put o.dst v') w') :
    wpList Try.prog ops Q (o :: rest) a w := by
  obtain ⟨i0, hi, hz0, hz1, hz2⟩ := info_parts info22
  subst hm
  obtain ⟨vs, hrow, hr⟩ := hown
  refine wpList_append_own_at w hg s x 37 hop base 22 i0 (.slice none 0 0) 1 24 Try.underlying37 hi hz0 hz1 hz2 rfl (by decide) v ls.length vs hs hrow ⟨g, 0, none⟩ 1 c [.slice ao l.length cap] hx rfl ?_ ?_
    (by unfold maxLen; omega) (by omega) hbase ?_
  · intro j u hu
    have hj : j = 0 := by have := (List.getElem?_eq_some_iff.1 hu).1; simpa using this
    subst hj
    rw [← hu]
    simpa [Addr.add] using hcell
  · intro u hu
    rw [List.mem_singleton.1 hu]
    rfl
  · intro v' w' h1 h2 _ h4
    have hvs : vs.length = ls.length := by have := hrow.1; omega
    refine hK v' w' ⟨vs ++ [.slice ao l.length cap], by simpa using h1, fun i hi => ?_⟩ h2
    have hne : ∀ a : Addr, a.block < w.heap.size ∧ some a.block ≠ v.ownBlock → a.block < w'.heap.size ∧ some a.block ≠ v'.ownBlock := fun a ⟨q1, q2⟩ => ⟨Nat.lt_of_lt_of_le q1 h2.size, by
      rcases h4 with e | e
      · rw [e]; exact q2
      · rw [e]; intro e'; injection e' with e'; omega⟩
    rw [List.length_append] at hi
    by_cases hlt' : i < ls.length
    · obtain ⟨ao', cap', he, hB', hr'⟩ := hr i hlt'
      refine ⟨ao', cap', ?_, ?_, fun a ha => hne a (hr' a ha)⟩
      · rw [show (ls ++ [l]).getD i [] = ls.getD i [] by simp [List.getD, List.getElem?_append_left hlt'], ← he]
        simp [List.getD, List.getElem?_append_left (show i < vs.length by omega)]
      · rw [show (ls ++ [l]).getD i [] = ls.getD i [] by simp [List.getD, List.getElem?_append_left hlt']]
        exact hB'.grown h2 fun a ha => (hr' a ha).2
    · obtain rfl : i = ls.length := by simp at hi; omega
      refine ⟨ao, cap, ?_, ?_, fun a ha => hne a (hlt a ha)⟩
      · simp [List.getD, ← hvs]
      · rw [show (ls ++ [l]).getD ls.length [] = l by simp [List.getD]]
        exact hB.grown h2 fun a ha => (hlt a ha).2
theorem OwnR.below_grown {N : Nat} {w wr w' : World} {v : Value} {ls : List (List Int)} (h : Below N w wr) (hg : wr.grownBy w' v.ownBlock) (hN : N ≤ wr.heap.size) {base : Nat} (ho : OwnR wr base v ls) (hb : N ≤ base) : Below N w w' := by
  obtain ⟨vs, hrow, _⟩ := ho
  exact h.grown hg hN fun k hk => Nat.le_trans hb (hrow.lt k hk).1
theorem get_ok (b : List Int) (h : (getL b).2.2 = 0) : headL b ≤ 65536 ∧ headL b + 12 ≤ b.length ∧ tailL b = sumL (bodyL b) ∧ getL b = (bodyL b, (headL b : Int) + 12, 0) ∧ (bodyL b).length = headL b := by
  unfold getL at h ⊢
  by_cases h1 : b.length < 4
  · rw [if_pos h1] at h; simp at h
  · rw [if_neg h1] at h ⊢
    by_cases h2 : 65536 < headL b
    · rw [if_pos h2] at h; simp at h
    · rw [if_neg h2] at h ⊢
      by_cases h3 : b.length < headL b + 12
      · rw [if_pos h3] at h; simp at h
      · rw [if_neg h3] at h ⊢
        by_cases h4 : tailL b ≠ sumL (bodyL b)
        · rw [if_pos h4] at h; simp at h
        · rw [if_neg h4]
          exact ⟨by omega, by omega, by simpa using h4, rfl, by simp [bodyL]; omega⟩
theorem get_no (b : List Int) (h : ¬ (getL b).2.2 = 0) : ∃ c, getL b = ([], 0, c) ∧ (c = 4 ∨ c = 5 ∨ c = 8) := by
  unfold getL at h ⊢
  split
  · exact ⟨_, rfl, .inl rfl⟩
  · split
    · exact ⟨_, rfl, .inr (.inl rfl)⟩
    · split
      · exact ⟨_, rfl, .inl rfl⟩
      · split
        · exact ⟨_, rfl, .inr (.inr rfl)⟩
        · rename_i h1 h2 h3 h4
          rw [if_neg h1, if_neg h2, if_neg h3, if_neg h4] at h
          exact absurd rfl h
/-- All frames that any bytes begin with, and how many bytes these have. -/
def allF : Nat → List Int → List (List Int) × Nat
  | 0, _ => ([], 0)
  | f + 1, b => if (getL b).2.2 = 0 then (bodyL b :: (allF f (b.drop (headL b + 12))).1, headL b + 12 + (allF f (b.drop (headL b + 12))).2) else ([], 0)
def allL (b : List Int) : List (List Int) × Nat := allF b.length b
theorem allF_more : ∀ (f : Nat) (b : List Int), b.length ≤ f → allF f b = allL b := by
  have key : ∀ (f g : Nat) (b : List Int), b.length ≤ f → b.length ≤ g → allF f b = allF g b := by
    intro f
    induction f with
    | zero =>
      intro g b h _
      cases g with
      | zero => rfl
      | succ g =>
        have hb : b = [] := List.eq_nil_of_length_eq_zero (by omega)
        subst hb
        show _ = if (getL []).2.2 = 0 then _ else _
        rw [if_neg (by simp [getL])]
        rfl
    | succ f ih =>
      intro g b h hg
      cases g with
      | zero =>
        have hb : b = [] := List.eq_nil_of_length_eq_zero (by omega)
        subst hb
        show (if (getL []).2.2 = 0 then _ else _) = _
        rw [if_neg (by simp [getL])]
        rfl
      | succ g =>
        unfold allF
        by_cases hc : (getL b).2.2 = 0
        · have := (get_ok b hc).2.1
          rw [if_pos hc, if_pos hc, ih g (b.drop (headL b + 12)) (by simp; omega) (by simp; omega)]
        · rw [if_neg hc, if_neg hc]
  intro f b h
  exact key f b.length b h (Nat.le_refl _)
theorem allL_ok (b : List Int) (h : (getL b).2.2 = 0) : allL b = (bodyL b :: (allL (b.drop (headL b + 12))).1, headL b + 12 + (allL (b.drop (headL b + 12))).2) := by
  have h1 := (get_ok b h).2.1
  rw [← allF_more (b.length + 1) b (by omega)]
  unfold allF
  rw [if_pos h, allF_more b.length _ (by simp)]
theorem allL_no (b : List Int) (h : ¬ (getL b).2.2 = 0) : allL b = ([], 0) := by
  rw [← allF_more (b.length + 1) b (by omega)]
  unfold allF
  rw [if_neg h]
/-- Where 'at' stands in a run of All. -/
def AllAt (b : List Int) (ls : List (List Int)) (k : Nat) : Prop := k ≤ b.length ∧ ls.length ≤ k ∧ allL b = (ls ++ (allL (b.drop k)).1, k + (allL (b.drop k)).2)
theorem allAt_start (b : List Int) : AllAt b [] 0 := ⟨Nat.zero_le _, Nat.le_refl _, by simp⟩
theorem allAt_step {b : List Int} {ls : List (List Int)} {k : Nat} (h : AllAt b ls k) (hc : (getL (b.drop k)).2.2 = 0) : AllAt b (ls ++ [bodyL (b.drop k)]) (k + (headL (b.drop k) + 12)) := by
  obtain ⟨h1, h2, h3⟩ := h
  have h4 := (get_ok _ hc).2.1
  rw [List.length_drop] at h4
  refine ⟨by omega, by simp; omega, ?_⟩
  rw [h3, allL_ok _ hc, List.drop_drop]
  simp [Nat.add_assoc]
theorem allAt_end {b : List Int} {ls : List (List Int)} {k : Nat} (h : AllAt b ls k) (hc : ¬ (getL (b.drop k)).2.2 = 0) : allL b = (ls, k) := by
  rw [h.2.2, allL_no _ hc]
  simp
end Go.Proofs.Ytaniflbhkddlhaa
