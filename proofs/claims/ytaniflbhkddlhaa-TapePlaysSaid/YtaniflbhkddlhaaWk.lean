/- Rows of bytes with room behind them: make, append into the room, stores. No condition but the sizes. -/
import Derived.Test.YtaniflbhkddlhaaWi
namespace Go.Proofs.Ytaniflbhkddlhaa
open Go.RowKit
theorem OwnB.bs {w : World} {base : Nat} {ao : Option Addr} {m cap : Nat} {l : List Int} (h : OwnB w base (.slice ao m cap) l) : Bs w ao cap l ∧ l.length = m := by
  obtain ⟨ao', cap', he, hB⟩ := h.shape
  injection he with e1 e2 e3
  subst e1 e2 e3
  exact ⟨hB, rfl⟩
theorem Bs.pre {w : World} {ao : Option Addr} {cap : Nat} {l : List Int} (h : Bs w ao cap l) (k : Nat) : Bs w ao cap (l.take k) := by
  refine ⟨fun i hi => ?_, by have := h.cap_le; simp; omega, h.max, h.nil, fun x hx => h.byte x (List.mem_of_mem_take hx)⟩
  have hi' : i < k ∧ i < l.length := by simp at hi; omega
  obtain ⟨b, o, rfl, hc⟩ := h.cells i hi'.2
  exact ⟨b, o, rfl, by rw [hc]; simp only [List.getD, List.getElem?_take]; rw [if_pos hi'.1]⟩
/-- A row of own bytes that is not empty lies at a row's head. -/
theorem OwnB.at {w : World} {base : Nat} {ao : Option Addr} {m cap k : Nat} {l : List Int} (h : OwnB w base (.slice ao m cap) l) (hk : k < m) : ∃ g, ao = some ⟨g, 0, none⟩ ∧ base ≤ g := by
  obtain ⟨⟨_, ⟨he, h0⟩ | ⟨g, cap', cur, he, hb, _⟩⟩, _⟩ := h
  · injection he with e1 e2 e3; omega
  · injection he with e1 e2 e3
    exact ⟨g, e1, hb⟩
theorem OwnB.stored {w : World} {base g m cap : Nat} {l : List Int} (h : OwnB w base (.slice (some ⟨g, 0, none⟩) m cap) l) (k : Nat) (u : Int) (h0 : 0 ≤ u) (h1 : u ≤ 255) :
    OwnB (w.setCell ⟨g, k, none⟩ (.int .u8 u)) base (.slice (some ⟨g, 0, none⟩) m cap) (l.set k u) := by
  obtain ⟨h', hb⟩ := h
  have hl := (OwnB.bs ⟨h', hb⟩).2
  subst hl
  refine ⟨?_, fun x hx => ?_⟩
  · rw [List.length_set, List.map_set]
    exact (h'.stored k (.int .u8 u)).1
  · rcases List.mem_or_eq_of_mem_set hx with h | rfl
    · exact hb x h
    · exact ⟨h0, h1⟩
theorem OwnB.cell {w : World} {base g m cap : Nat} {l : List Int} (h : OwnB w base (.slice (some ⟨g, 0, none⟩) m cap) l) (k : Nat) (hk : k < m) : w.cell? ⟨g, k, none⟩ = some (.int .u8 (l.getD k 0)) := by
  obtain ⟨h', hb⟩ := h
  have hl := (OwnB.bs ⟨h', hb⟩).2
  subst hl
  rw [h'.cellAt k (by omega)]
  simp [List.getD, hk]
theorem OwnB.frozen {w : World} {base g m cap : Nat} {l : List Int} (h : OwnB w base (.slice (some ⟨g, 0, none⟩) m cap) l) (k : Nat) : w.frozen? ⟨g, k, none⟩ = false := by
  obtain ⟨h', hb⟩ := h
  have hl := (OwnB.bs ⟨h', hb⟩).2
  subst hl
  exact h'.frozenAt k
theorem wpList_make_room (w : World) {ops : Array Oper} {rest : List Oper} {o : Oper} {a : Act} {Q : Exit → Act → World → Prop}
    (hg : o.guard = none) (l c : Operand) (hop : o.op = Op.makeSlice 22 l c) (C : Int) (n : Nat) (hl : a.eval l = .int .i64 0) (hc : a.eval c = .int .i64 C) (hC : C = (n : Int)) (hn : n ≤ 140737488355328)
    (hK : ∀ w', OwnB w' w.heap.size (.slice (some ⟨w.heap.size, 0, none⟩) n n) (List.replicate n 0) → Below w.heap.size w w' → w'.heap.size = w.heap.size + 1 → wpList Try.prog ops Q rest (a.put o.dst (.slice (some ⟨w.heap.size, 0, none⟩) 0 n)) w') :
    wpList Try.prog ops Q (o :: rest) a w := by
  obtain ⟨i0, hi, hz0, hz1, hz2⟩ := info_parts info5
  refine wpList_plain hg fun K hK' => ?_
  subst hC
  have hrun := run_make (P := Try.prog) w 22 5 i0 (.int .u8 0) Try.underlying22 hi hz0 .i64 .i64 0 n (by omega) (by omega) (by rw [hz2]; omega) (by omega)
  simp only [Int.toNat_zero, Int.toNat_natCast] at hrun
  unfold Oper.wp
  simp [execOp, hop, hl, hc, hrun, Result.andThen]
  refine hK' _ _ (hK _ ⟨?_, ?_⟩ (below_alloc _ _) (by simp))
  · rw [List.length_replicate]
    have h := World.ownsRow_lit (base := w.heap.size) (e := 5) (size := 1) w (madeCells (Value.int .u8 0).cells (n * i0.size)) n (Nat.le_refl _) (by unfold maxLen; omega) (by rw [size_madeCells, hz1])
    have e : (madeCells (Value.int .u8 0).cells (n * i0.size)).toList = (List.replicate n (0 : Int)).map (Value.int .u8) := by
      rw [hz1]
      exact (toList_madeCells_one _ _).trans (by simp)
    rw [e] at h
    exact h
  · intro x hx
    obtain ⟨_, rfl⟩ := List.mem_replicate.1 hx
    omega
/-- 'append' into the room of an empty slice. -/
theorem wpList_append_room (w : World) {ops : Array Oper} {rest : List Oper} {o : Oper} {a : Act} {Q : Exit → Act → World → Prop}
    (hg : o.guard = none) (s x : Operand) (hop : o.op = Op.call { callee := Callee.builtin Builtin.append, args := #[s, x], argTypes := #[22, 22] })
    (base g cap : Nat) (z : List Int) (hs : a.eval s = .slice (some ⟨g, 0, none⟩) 0 cap) (hown : OwnB w base (.slice (some ⟨g, 0, none⟩) cap cap) z) (ao : Option Addr) (m c : Nat) (l : List Int) (hx : a.eval x = .slice ao m c) (hB : Bs w ao c l)
    (hm : l.length = m) (hfit : m ≤ cap) (N : Nat) (w0 : World) (hb : Below N w0 w) (hN : N ≤ base)
    (hK : ∀ w', OwnB w' base (.slice (some ⟨g, 0, none⟩) cap cap) (l ++ z.drop m) → Below N w0 w' → w'.heap.size = w.heap.size → wpList Try.prog ops Q rest (a.put o.dst (.slice (some ⟨g, 0, none⟩) m cap)) w') :
    wpList Try.prog ops Q (o :: rest) a w := by
  obtain ⟨i0, hi, hz0, hz1, hz2⟩ := info_parts info5
  have hzl := hown.bs.2
  obtain ⟨⟨hlen, ⟨he, _⟩ | ⟨g', cap', cur, he, hbg, hh, hnc, hmx, hsz, ht⟩⟩, hby⟩ := id hown
  · injection he with e1; cases e1
  injection he with e1 e2 e3
  injection e1 with e1
  injection e1 with e1
  subst e1 e3
  refine wpList_plain hg fun K hK' => ?_
  have hcl : cur.toList = z.map (Value.int .u8) := by
    rw [← ht, List.take_of_length_le (by rw [Array.length_toList, hsz]; omega)]
  cases ao with
  | none =>
    have h0 := hB.nil rfl
    subst h0
    obtain rfl : l = [] := List.eq_nil_of_length_eq_zero (by have := hB.cap_le; omega)
    subst hm
    have hrun := run_append_owned_none (P := Try.prog) w base 22 o.type 5 i0 1 Try.underlying22 hi (.slice (some ⟨g, 0, none⟩) 0 cap) 0 [] ⟨rfl, .inr ⟨g, cap, cur, rfl, hbg, hh, Nat.zero_le _, hmx, hsz, by simp⟩⟩
    unfold Oper.wp
    simp only [List.length_nil] at hx
    simp [execOp, hop, resolve, invoke, builtin, hs, hx, hrun, Result.andThen]
    exact hK' _ _ (by simpa using hK w (by simpa using hown) hb rfl)
  | some ad =>
    have hrun := run_append_room (P := Try.prog) w 22 o.type 5 i0 Try.underlying22 hi g 0 cap cur hh ad m c (l.map (Value.int .u8)) (by rw [hz1, List.length_map, hm, Nat.mul_one]) (fun j u hu => ?_) (fun u hu => ?_) (by omega) (by rw [List.length_map, hsz]; omega)
    · unfold Oper.wp
      simp [execOp, hop, resolve, invoke, builtin, hs, hx, hrun, Result.andThen]
      have hgl : g < w.heap.size := (Array.getElem?_eq_some_iff.1 hh).1
      refine hK' _ _ ?_
      have hgo := hK (w.setRow g (l.map (Value.int .u8) ++ cur.toList.drop l.length).toArray) ⟨?_, ?_⟩ (hb.grown (row := some g) ⟨rfl, rfl, rfl, by simp [World.setRow], fun k _ hk => setRow_other w g k _ (fun e => hk (by simp [e]))⟩ (by omega) (fun k hk => by simp at hk; omega)) (by simp [World.setRow])
      · simpa using hgo
      · have hll : (l ++ z.drop m).length = cap := by simp; omega
        rw [hll]
        refine ⟨by simp; omega, .inr ⟨g, cap, _, rfl, hbg, setRow_heap w g cur _ 5 _ hh, Nat.le_refl _, hmx, ?_, ?_⟩⟩
        · simp [hcl]; omega
        · rw [List.take_of_length_le (by simp [hcl]; omega), hcl, hm]
          simp
      · intro x hx
        rcases List.mem_append.1 hx with h | h
        · exact hB.byte x h
        · exact hby x (List.mem_of_mem_drop h)
    · have hj : j < l.length := by have := (List.getElem?_eq_some_iff.1 hu).1; simpa using this
      obtain ⟨b, o', he, hc⟩ := hB.cells j hj
      injection he with he
      subst he
      rw [Addr.add_lit, hc, ← hu]
      simp [List.getD, hj]
    · obtain ⟨_, _, rfl⟩ := List.mem_map.1 hu
      rfl
end Go.Proofs.Ytaniflbhkddlhaa
