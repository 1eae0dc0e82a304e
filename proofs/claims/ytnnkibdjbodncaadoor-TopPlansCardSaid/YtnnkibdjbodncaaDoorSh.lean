/- What is known of the plans, from pass to pass: plain facts. No condition. -/
import Derived.Test.YtnnkibdjbodncaaDoorWa
namespace Go.Proofs.YtnnkibdjbodncaaDoor
open Go.RowKit
/-- What is known of the plans fits these plans; and no plan ends behind E. -/
def Okay (M : List Pl) (E : Int) : List Wi → List (Option (Int × Nat)) → Prop
  | x :: ws, some (t, S) :: ps => (look M x.id = none ∨ look M x.id = some (x.id, t, S)) ∧ t + x.long ≤ E ∧ Okay M E ws ps
  | x :: ws, none :: ps => look M x.id = none ∧ Okay M E ws ps
  | [], [] => True
  | _, _ => False
/-- Just these plans are known. -/
def Sure (M : List Pl) (E : Int) : List Wi → List (Option (Int × Nat)) → Prop
  | x :: ws, some (t, S) :: ps => look M x.id = some (x.id, t, S) ∧ t + x.long ≤ E ∧ Sure M E ws ps
  | x :: ws, none :: ps => look M x.id = none ∧ Sure M E ws ps
  | [], [] => True
  | _, _ => False
theorem Sure.later {M : List Pl} {E now : Int} : ∀ {ws : List Wi} {ps : List (Option (Int × Nat))}, Sure M E ws ps → Okay M E (laterW now ws ps) (laterP now ps)
  | [], [], _ => trivial
  | x :: ws, none :: ps, h => by simp only [laterW, laterP]; exact Sure.later h.2
  | x :: ws, some (t, S) :: ps, h => by
    simp only [laterW, laterP]
    by_cases ht : t = now
    · rw [if_pos ht, if_pos ht]; exact Sure.later h.2.2
    · rw [if_neg ht, if_neg ht]; exact ⟨.inr h.1, h.2.1, Sure.later h.2.2⟩
  | [], _ :: _, h => by simp [Sure] at h
  | _ :: _, [], h => by simp [Sure] at h
theorem Sure.get {M : List Pl} {E : Int} : ∀ {ws : List Wi} {ps : List (Option (Int × Nat))}, Sure M E ws ps → ∀ {j : Nat} {x : Wi}, ws[j]? = some x →
    (∃ t S, ps[j]? = some (some (t, S)) ∧ look M x.id = some (x.id, t, S) ∧ t + x.long ≤ E) ∨ (ps[j]? = some none ∧ look M x.id = none)
  | [], [], _, j, x, hx => by simp at hx
  | y :: ws, none :: ps, h, 0, x, hx => by simp at hx; subst hx; exact .inr ⟨rfl, h.1⟩
  | y :: ws, none :: ps, h, j + 1, x, hx => by simp at hx ⊢; exact Sure.get h.2 hx
  | y :: ws, some (t, S) :: ps, h, 0, x, hx => by simp at hx; subst hx; exact .inl ⟨t, S, rfl, h.1, h.2.1⟩
  | y :: ws, some (t, S) :: ps, h, j + 1, x, hx => by simp only [List.getElem?_cons_succ] at hx ⊢; exact Sure.get h.2.2 hx
  | [], _ :: _, h, _, _, _ => by simp [Sure] at h
  | _ :: _, [], h, _, _, _ => by simp [Sure] at h
theorem mem_starts {now : Int} {p : Pl} : ∀ {ws : List Wi} {ps : List (Option (Int × Nat))}, p ∈ startsOf now ws ps → p.2.1 = now ∧ ∃ x ∈ ws, x.id = p.1
  | [], [], h => by simp [startsOf] at h
  | x :: ws, none :: ps, h => by
    simp only [startsOf] at h
    obtain ⟨h1, y, hy, h2⟩ := mem_starts h
    exact ⟨h1, y, by simp [hy], h2⟩
  | x :: ws, some (t, S) :: ps, h => by
    simp only [startsOf] at h
    split at h
    · rename_i ht
      rcases List.mem_cons.1 h with rfl | h
      · exact ⟨ht, x, by simp, rfl⟩
      · obtain ⟨h1, y, hy, h2⟩ := mem_starts h
        exact ⟨h1, y, by simp [hy], h2⟩
    · obtain ⟨h1, y, hy, h2⟩ := mem_starts h
      exact ⟨h1, y, by simp [hy], h2⟩
  | [], _ :: _, h => by simp [startsOf] at h
  | _ :: _, [], h => by simp [startsOf] at h
theorem mem_later {now : Int} {p : Pl} : ∀ {ws : List Wi} {ps : List (Option (Int × Nat))}, p ∈ laterOf now ws ps → p.2.1 ≠ now ∧ ∃ x ∈ ws, x.id = p.1
  | [], [], h => by simp [laterOf] at h
  | x :: ws, none :: ps, h => by
    simp only [laterOf] at h
    obtain ⟨h1, y, hy, h2⟩ := mem_later h
    exact ⟨h1, y, by simp [hy], h2⟩
  | x :: ws, some (t, S) :: ps, h => by
    simp only [laterOf] at h
    split at h
    · obtain ⟨h1, y, hy, h2⟩ := mem_later h
      exact ⟨h1, y, by simp [hy], h2⟩
    · rename_i ht
      rcases List.mem_cons.1 h with rfl | h
      · exact ⟨ht, x, by simp, rfl⟩
      · obtain ⟨h1, y, hy, h2⟩ := mem_later h
        exact ⟨h1, y, by simp [hy], h2⟩
  | [], _ :: _, h => by simp [laterOf] at h
  | _ :: _, [], h => by simp [laterOf] at h
/-- All plans, as they are gone through. -/
def allOf (now : Int) (ws : List Wi) (ps : List (Option (Int × Nat))) : List Pl := startsOf now ws ps ++ laterOf now ws ps
theorem mem_all_cons {now : Int} {x : Wi} {o : Option (Int × Nat)} {ws : List Wi} {ps : List (Option (Int × Nat))} {p : Pl} : p ∈ allOf now (x :: ws) (o :: ps) ↔ (∃ t S, o = some (t, S) ∧ p = (x.id, t, S)) ∨ p ∈ allOf now ws ps := by
  unfold allOf
  cases o with
  | none => simp [startsOf, laterOf]
  | some q =>
    obtain ⟨t, S⟩ := q
    simp only [startsOf, laterOf, List.mem_append, Option.some.injEq, Prod.mk.injEq]
    by_cases ht : t = now
    · rw [if_pos ht, if_pos ht, List.mem_cons]
      constructor
      · rintro ((h | h) | h)
        · exact .inl ⟨t, S, ⟨rfl, rfl⟩, h⟩
        · exact .inr (.inl h)
        · exact .inr (.inr h)
      · rintro (⟨t', S', ⟨rfl, rfl⟩, h⟩ | h | h)
        · exact .inl (.inl h)
        · exact .inl (.inr h)
        · exact .inr h
    · rw [if_neg ht, if_neg ht, List.mem_cons]
      constructor
      · rintro (h | h | h)
        · exact .inr (.inl h)
        · exact .inl ⟨t, S, ⟨rfl, rfl⟩, h⟩
        · exact .inr (.inr h)
      · rintro (⟨t', S', ⟨rfl, rfl⟩, h⟩ | h | h)
        · exact .inr (.inl h)
        · exact .inl h
        · exact .inr (.inr h)
theorem mem_all_id {now : Int} {p : Pl} {ws : List Wi} {ps : List (Option (Int × Nat))} (h : p ∈ allOf now ws ps) : ∃ x ∈ ws, x.id = p.1 := by
  rcases List.mem_append.1 h with h | h
  · exact (mem_starts h).2
  · exact (mem_later h).2
theorem all_one {now : Int} : ∀ {ws : List Wi} {ps : List (Option (Int × Nat))}, (ws.Pairwise fun a b => a.id ≠ b.id) → ∀ p ∈ allOf now ws ps, ∀ q ∈ allOf now ws ps, p.1 = q.1 → p = q
  | [], [], _, p, hp, _, _, _ => by simp [allOf, startsOf, laterOf] at hp
  | x :: ws, o :: ps, hw, p, hp, q, hq, he => by
    obtain ⟨h1, h2⟩ := List.pairwise_cons.1 hw
    rw [mem_all_cons] at hp hq
    rcases hp with ⟨t, S, rfl, rfl⟩ | hp
    · rcases hq with ⟨t', S', e, rfl⟩ | hq
      · simp only [Option.some.injEq, Prod.mk.injEq] at e
        rw [e.1, e.2]
      · obtain ⟨y, hy, hid⟩ := mem_all_id hq
        have := h1 y hy
        simp only at he
        omega
    · rcases hq with ⟨t', S', e, rfl⟩ | hq
      · obtain ⟨y, hy, hid⟩ := mem_all_id hp
        have := h1 y hy
        simp only at he
        omega
      · exact all_one h2 p hp q hq he
  | [], _ :: _, _, p, hp, _, _, _ => by simp [allOf, startsOf, laterOf] at hp
  | _ :: _, [], _, p, hp, _, _, _ => by simp [allOf, startsOf, laterOf] at hp
theorem Okay.all {M : List Pl} {E now : Int} : ∀ {ws : List Wi} {ps : List (Option (Int × Nat))}, Okay M E ws ps → ∀ p ∈ allOf now ws ps, (look M p.1 = none ∨ look M p.1 = some p) ∧ p.2.1 ≤ E
  | [], [], _, p, hp => by simp [allOf, startsOf, laterOf] at hp
  | x :: ws, none :: ps, h, p, hp => by
    rw [mem_all_cons] at hp
    rcases hp with ⟨t, S, e, _⟩ | hp
    · cases e
    · exact Okay.all h.2 p hp
  | x :: ws, some (t, S) :: ps, h, p, hp => by
    rw [mem_all_cons] at hp
    rcases hp with ⟨t', S', e, rfl⟩ | hp
    · simp only [Option.some.injEq, Prod.mk.injEq] at e
      obtain ⟨rfl, rfl⟩ := e
      exact ⟨h.1, by have := h.2.1; simp only; omega⟩
    · exact Okay.all h.2.2 p hp
  | [], _ :: _, h, _, _ => by simp [Okay] at h
  | _ :: _, [], h, _, _ => by simp [Okay] at h
theorem Okay.sure {M M' : List Pl} {E now : Int} : ∀ {ws : List Wi} {ps : List (Option (Int × Nat))}, Okay M E ws ps → (ws.Pairwise fun a b => a.id ≠ b.id) → (∀ p ∈ allOf now ws ps, look M' p.1 = some p) →
    (∀ y ∈ ws, (∀ p ∈ allOf now ws ps, p.1 ≠ y.id) → look M y.id = none → look M' y.id = none) → Sure M' E ws ps
  | [], [], _, _, _, _ => trivial
  | x :: ws, none :: ps, h, hw, h1, h2 => by
    obtain ⟨w1, w2⟩ := List.pairwise_cons.1 hw
    refine ⟨h2 x (by simp) (fun p hp => ?_) h.1, Okay.sure h.2 w2 (fun p hp => h1 p (mem_all_cons.2 (.inr hp))) fun y hy hn hl => h2 y (by simp [hy]) (fun p hp => ?_) hl⟩
    · rcases mem_all_cons.1 hp with ⟨t, S, e, _⟩ | hp
      · cases e
      · obtain ⟨z, hz, hid⟩ := mem_all_id hp
        have := w1 z hz
        omega
    · rcases mem_all_cons.1 hp with ⟨t, S, e, _⟩ | hp
      · cases e
      · exact hn p hp
  | x :: ws, some (t, S) :: ps, h, hw, h1, h2 => by
    obtain ⟨w1, w2⟩ := List.pairwise_cons.1 hw
    have hx := h1 (x.id, t, S) (mem_all_cons.2 (.inl ⟨t, S, rfl, rfl⟩))
    refine ⟨hx, h.2.1, Okay.sure h.2.2 w2 (fun p hp => h1 p (mem_all_cons.2 (.inr hp))) fun y hy hn hl => h2 y (by simp [hy]) (fun p hp => ?_) hl⟩
    rcases mem_all_cons.1 hp with ⟨t', S', _, rfl⟩ | hp
    · exact w1 y hy
    · exact hn p hp
  | [], _ :: _, h, _, _, _ => by simp [Okay] at h
  | _ :: _, [], h, _, _, _ => by simp [Okay] at h
theorem Okay.begun {M : List Pl} {E now : Int} : ∀ {ws : List Wi} {ps : List (Option (Int × Nat))}, Okay M E ws ps → ∀ r ∈ begun now ws ps, r.2 ≤ E
  | [], [], _, r, hr => by simp [_root_.Go.Proofs.YtnnkibdjbodncaaDoor.begun] at hr
  | x :: ws, none :: ps, h, r, hr => by
    simp only [_root_.Go.Proofs.YtnnkibdjbodncaaDoor.begun] at hr
    exact Okay.begun h.2 r hr
  | x :: ws, some (t, S) :: ps, h, r, hr => by
    simp only [_root_.Go.Proofs.YtnnkibdjbodncaaDoor.begun] at hr
    split at hr
    · rename_i ht
      rcases List.mem_cons.1 hr with rfl | hr
      · have := h.2.1; simp only; omega
      · exact Okay.begun h.2.2 r hr
    · exact Okay.begun h.2.2 r hr
  | [], _ :: _, h, _, _ => by simp [Okay] at h
  | _ :: _, [], h, _, _ => by simp [Okay] at h
theorem later_ids {now : Int} : ∀ {ws : List Wi} {ps : List (Option (Int × Nat))}, (laterW now ws ps).Sublist ws
  | [], [] => List.Sublist.refl _
  | x :: ws, none :: ps => by simp only [laterW]; exact later_ids.cons _
  | x :: ws, some (t, S) :: ps => by
    simp only [laterW]
    split
    · exact later_ids.cons _
    · exact later_ids.cons_cons _
  | [], _ :: _ => List.Sublist.refl _
  | _ :: _, [] => by simp [laterW]
theorem begun_later_len {now : Int} : ∀ {ws : List Wi} {ps : List (Option (Int × Nat))}, (begun now ws ps).length + (laterW now ws ps).length ≤ ws.length
  | [], [] => by simp [begun, laterW]
  | x :: ws, none :: ps => by have := @begun_later_len now ws ps; simp only [begun, laterW, List.length_cons]; omega
  | x :: ws, some (t, S) :: ps => by
    have := @begun_later_len now ws ps
    simp only [begun, laterW]
    split <;> simp only [List.length_cons] <;> omega
  | [], _ :: _ => by simp [begun, laterW]
  | _ :: _, [] => by simp [begun, laterW]
theorem later_same_len {now : Int} : ∀ {ws : List Wi} {ps : List (Option (Int × Nat))}, (laterOf now ws ps).length = (laterW now ws ps).length
  | [], [] => rfl
  | x :: ws, none :: ps => by simp only [laterOf, laterW]; exact later_same_len
  | x :: ws, some (t, S) :: ps => by
    simp only [laterOf, laterW]
    split
    · exact later_same_len
    · simp only [List.length_cons, later_same_len]
  | [], _ :: _ => rfl
  | _ :: _, [] => rfl
theorem begun_snoc (now : Int) (x : Wi) (p : Option (Int × Nat)) : ∀ (ws : List Wi) (ps : List (Option (Int × Nat))), ps.length = ws.length →
    begun now (ws ++ [x]) (ps ++ [p]) = begun now ws ps ++ (match p with | some (t, S) => if t = now then [(S, now + x.long)] else [] | none => [])
  | [], [], _ => by
    cases p with
    | none => simp [begun]
    | some p => obtain ⟨t, S⟩ := p; simp only [List.nil_append, begun]
  | y :: ws, q :: ps, h => by
    have ih := begun_snoc now x p ws ps (by simpa using h)
    cases q with
    | none => simp only [List.cons_append, begun, ih]
    | some q =>
      obtain ⟨t, S⟩ := q
      simp only [List.cons_append, begun, ih]
      split <;> simp
  | [], _ :: _, h => by simp at h
  | _ :: _, [], h => by simp at h
theorem laterW_snoc (now : Int) (x : Wi) (p : Option (Int × Nat)) : ∀ (ws : List Wi) (ps : List (Option (Int × Nat))), ps.length = ws.length →
    laterW now (ws ++ [x]) (ps ++ [p]) = laterW now ws ps ++ (match p with | some (t, _) => if t = now then [] else [x] | none => [])
  | [], [], _ => by
    cases p with
    | none => simp [laterW]
    | some p => obtain ⟨t, S⟩ := p; simp only [List.nil_append, laterW]
  | y :: ws, q :: ps, h => by
    have ih := laterW_snoc now x p ws ps (by simpa using h)
    cases q with
    | none => simp only [List.cons_append, laterW, ih]
    | some q =>
      obtain ⟨t, S⟩ := q
      simp only [List.cons_append, laterW, ih]
      split <;> simp
  | [], _ :: _, h => by simp at h
  | _ :: _, [], h => by simp at h
/-- Where all is free from E on, no plan begins behind E. -/
theorem first_okay {now : Int} : ∀ {ws : List Wi} {ps : List (Option (Int × Nat))} {F : Int → Nat} {E E' : Int}, (∀ t, F t < 256) → (∀ x y, E ≤ x → SubS (F y) (F x)) → now ≤ E → (∀ w ∈ ws, w.long ≤ 30) → E + 30 * ws.length ≤ E' → Plans now F ws ps → Okay [] E' ws ps
  | [], [], _, _, _, _, _, _, _, _, _ => trivial
  | x :: ws, none :: ps, F, E, E', hF, hf, hn, hw, hE, h => by
    refine ⟨rfl, first_okay hF hf hn (fun w hw' => hw w (by simp [hw'])) (by simp only [List.length_cons] at hE; omega) h.2⟩
  | x :: ws, some (t, S) :: ps, F, E, E', hF, hf, hn, hw, hE, h => by
    have ht : t ≤ E := by
      by_cases hlt : E < t
      · have h1 := h.1.least E hn hlt
        have h2 := h.1.low.pop
        have h3 : SubS (avail F x t) (avail F x E) := by
          intro i hi
          unfold avail at hi ⊢
          rw [Nat.testBit_and, Bool.and_eq_true, bit_inter] at hi ⊢
          exact ⟨⟨hi.1.1, fun j hj => hf (E + j) (t + j) (by omega) i (hi.1.2 j hj)⟩, hi.2⟩
        have := pop_mono h3
        omega
      · omega
    have hl := hw x (by simp)
    simp only [List.length_cons] at hE
    refine ⟨.inl rfl, by omega, first_okay (E := E + 30) (taken_lt hF _ _ _) (fun a b ha i hi => ?_) (by omega) (fun w hw' => hw w (by simp [hw'])) (by omega) h.2⟩
    rw [bit_taken hF h.1.low.small] at hi ⊢
    exact ⟨hf a b (by omega) i hi.1, fun _ h2 => by omega⟩
  | [], _ :: _, _, _, _, _, _, _, _, _, h => by simp [Plans] at h
  | _ :: _, [], _, _, _, _, _, _, _, _, h => by simp [Plans] at h
theorem runF_full {u : Nat} (hu : u < 256) {rs : List Ru} (h : ∀ r ∈ rs, r.1 < 256) {E : Int} (hE : ∀ r ∈ rs, r.2 ≤ E) : ∀ x y, E ≤ x → SubS (runF u rs y) (runF u rs x) := by
  intro x y hx i hi
  rw [bit_runF hu h] at hi ⊢
  exact ⟨hi.1, fun r hr h2 => by have := hE r hr; omega⟩
end Go.Proofs.YtnnkibdjbodncaaDoor
