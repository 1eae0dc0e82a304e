/- The scene behind another: plain facts. No condition. -/
import Derived.Test.YtnnkibdjbodncaaDoorSd
namespace Go.Proofs.YtnnkibdjbodncaaDoor
open Go.RowKit
/-- A job that runs: its nodes, and when it ends. -/
abbrev Ru := Nat × Int
def runF (u : Nat) (rs : List Ru) (t : Int) : Nat := rs.foldl (fun x r => if t < r.2 then minus x r.1 else x) u
theorem runF_gen (t : Int) : ∀ (rs : List Ru) (x : Nat), x < 256 → (∀ r ∈ rs, r.1 < 256) → rs.foldl (fun x r => if t < r.2 then minus x r.1 else x) x < 256 ∧ ∀ i, (rs.foldl (fun x r => if t < r.2 then minus x r.1 else x) x).testBit i = true ↔ x.testBit i = true ∧ ∀ r ∈ rs, t < r.2 → r.1.testBit i = false
  | [], x, hx, _ => ⟨hx, fun i => by simp⟩
  | r :: rs, x, hx, h => by
    have hr := h r (by simp)
    have hrs : ∀ r ∈ rs, r.1 < 256 := fun q hq => h q (by simp [hq])
    rw [List.foldl_cons]
    by_cases ht : t < r.2
    · rw [if_pos ht]
      obtain ⟨h1, h2⟩ := runF_gen t rs (minus x r.1) (minus_lt hx) hrs
      refine ⟨h1, fun i => ?_⟩
      rw [h2, bit_minus hx hr]
      simp only [Bool.and_eq_true, Bool.not_eq_true', List.mem_cons, forall_eq_or_imp]
      constructor
      · rintro ⟨⟨a, b⟩, c⟩; exact ⟨a, fun _ => b, c⟩
      · rintro ⟨a, b, c⟩; exact ⟨⟨a, b ht⟩, c⟩
    · rw [if_neg ht]
      obtain ⟨h1, h2⟩ := runF_gen t rs x hx hrs
      refine ⟨h1, fun i => ?_⟩
      rw [h2]
      simp only [List.mem_cons, forall_eq_or_imp]
      constructor
      · rintro ⟨a, c⟩; exact ⟨a, fun h => absurd h ht, c⟩
      · rintro ⟨a, _, c⟩; exact ⟨a, c⟩
theorem runF_lt {u : Nat} {rs : List Ru} (hu : u < 256) (h : ∀ r ∈ rs, r.1 < 256) (t : Int) : runF u rs t < 256 := (runF_gen t rs u hu h).1
theorem bit_runF {u : Nat} {rs : List Ru} (hu : u < 256) (h : ∀ r ∈ rs, r.1 < 256) (t : Int) (i : Nat) : (runF u rs t).testBit i = true ↔ u.testBit i = true ∧ ∀ r ∈ rs, t < r.2 → r.1.testBit i = false := (runF_gen t rs u hu h).2 i
theorem runF_sub {u : Nat} {rs : List Ru} (hu : u < 256) (h : ∀ r ∈ rs, r.1 < 256) (t : Int) : SubS (runF u rs t) u := fun i hi => ((bit_runF hu h t i).1 hi).1
theorem runF_snoc (u : Nat) (rs : List Ru) (r : Ru) (t : Int) : runF u (rs ++ [r]) t = if t < r.2 then minus (runF u rs t) r.1 else runF u rs t := by
  unfold runF
  rw [List.foldl_append]
  rfl
/-- What begins now. -/
def begun (now : Int) : List Wi → List (Option (Int × Nat)) → List Ru
  | w :: ws, some (t, S) :: ps => if t = now then (S, now + w.long) :: begun now ws ps else begun now ws ps
  | _ :: ws, none :: ps => begun now ws ps
  | _, _ => []
/-- What is planned for later. -/
def laterW (now : Int) : List Wi → List (Option (Int × Nat)) → List Wi
  | w :: ws, some (t, _) :: ps => if t = now then laterW now ws ps else w :: laterW now ws ps
  | _ :: ws, none :: ps => laterW now ws ps
  | _, _ => []
def laterP (now : Int) : List (Option (Int × Nat)) → List (Option (Int × Nat))
  | some (t, S) :: ps => if t = now then laterP now ps else some (t, S) :: laterP now ps
  | none :: ps => laterP now ps
  | [] => []
theorem begun_sub {now : Int} : ∀ {ws : List Wi} {ps : List (Option (Int × Nat))} {F : Int → Nat}, Plans now F ws ps → ∀ r ∈ begun now ws ps, r.1 < 256 ∧ ∀ x, now ≤ x → x < r.2 → SubS r.1 (F x)
  | [], [], _, _, r, hr => by simp [begun] at hr
  | w :: ws, none :: ps, F, h, r, hr => by
    simp only [begun] at hr
    exact begun_sub h.2 r hr
  | w :: ws, some (t, S) :: ps, F, h, r, hr => by
    have rest : r ∈ begun now ws ps → r.1 < 256 ∧ ∀ x, now ≤ x → x < r.2 → SubS r.1 (F x) := fun hm => by
      obtain ⟨h1, h2⟩ := begun_sub h.2 r hm
      exact ⟨h1, fun x hx hx' => (h2 x hx hx').trans (taken_sub _ _ _ _ _)⟩
    simp only [begun] at hr
    by_cases ht : t = now
    · rw [if_pos ht] at hr
      rcases List.mem_cons.1 hr with rfl | hr
      · refine ⟨h.1.low.small, fun x hx hx' i hi => ?_⟩
        have hb := h.1.low.sub i hi
        unfold avail at hb
        rw [Nat.testBit_and, Bool.and_eq_true, bit_inter] at hb
        have := hb.1.2 (x - now).toNat (by simp only at hx'; omega)
        rwa [ht, show now + ((x - now).toNat : Int) = x by omega] at this
      · exact rest hr
    · rw [if_neg ht] at hr
      exact rest hr
  | [], _ :: _, _, hp, _, _ => by simp [Plans] at hp
  | _ :: _, [], _, hp, _, _ => by simp [Plans] at hp
theorem later_plans {now now' : Int} (hn : now < now') : ∀ {ws : List Wi} {ps : List (Option (Int × Nat))} {F G : Int → Nat}, (∀ t, F t < 256) → (∀ t, G t < 256) →
    (∀ t S, some (t, S) ∈ ps → t ≠ now → now' ≤ t) → Plans now F ws ps →
    (∀ x i, now' ≤ x → ((G x).testBit i = true ↔ (F x).testBit i = true ∧ ∀ r ∈ begun now ws ps, x < r.2 → r.1.testBit i = false)) → Plans now' G (laterW now ws ps) (laterP now ps)
  | [], [], _, _, _, _, _, _, _ => trivial
  | w :: ws, none :: ps, F, G, hF, hG, hl, h, hr => by
    simp only [laterW, laterP]
    exact later_plans hn hF hG (fun t S hm => hl t S (by simp [hm])) h.2 (by simpa only [begun] using hr)
  | w :: ws, some (t, S) :: ps, F, G, hF, hG, hl, h, hr => by
    have hS := h.1.low.small
    by_cases ht : t = now
    · subst ht
      simp only [laterW, laterP, if_true]
      refine later_plans hn (taken_lt hF _ _ _) hG (fun t S hm => hl t S (by simp [hm])) h.2 fun x i hx => ?_
      rw [hr x i hx, bit_taken hF hS]
      simp only [begun, if_true, List.mem_cons, forall_eq_or_imp]
      constructor
      · rintro ⟨a, b, c⟩; exact ⟨⟨a, fun _ hlt => b hlt⟩, c⟩
      · rintro ⟨⟨a, b⟩, c⟩; exact ⟨a, fun hlt => b (by omega) hlt, c⟩
    · simp only [laterW, laterP, if_neg ht]
      have ht' := hl t S (by simp) ht
      have hr' : ∀ x i, now' ≤ x → ((G x).testBit i = true ↔ (F x).testBit i = true ∧ ∀ r ∈ begun now ws ps, x < r.2 → r.1.testBit i = false) := by
        simpa only [begun, if_neg ht] using hr
      have hsub : ∀ x, now' ≤ x → SubS (G x) (F x) := fun x hx i hi => ((hr' x i hx).1 hi).1
      have hmono : ∀ x, now' ≤ x → SubS (avail G w x) (avail F w x) := fun x hx => avail_mono fun j _ => hsub _ (by omega)
      refine ⟨⟨ht', h.1.low.within ?_ (hmono t ht'), fun t' h1 h2 => Nat.lt_of_le_of_lt (pop_mono (hmono t' h1)) (h.1.least t' (by omega) h2), h.1.early⟩, ?_⟩
      · intro i hi
        have hb := h.1.low.sub i hi
        unfold avail at hb ⊢
        rw [Nat.testBit_and, Bool.and_eq_true, bit_inter] at hb ⊢
        refine ⟨⟨hb.1.1, fun j hj => (hr' _ i (by omega)).2 ⟨hb.1.2 j hj, fun r hm hlt => ?_⟩⟩, hb.2⟩
        have hs := (begun_sub h.2 r hm).2 (t + j) (by omega) hlt
        cases hri : r.1.testBit i with
        | false => rfl
        | true =>
          have := ((bit_taken hF hS t w.long (t + j) i).1 (hs i hri)).2 (by omega) (by omega)
          rw [hi] at this; cases this
      · refine later_plans hn (taken_lt hF _ _ _) (taken_lt hG _ _ _) (fun t S hm => hl t S (by simp [hm])) h.2 fun x i hx => ?_
        rw [bit_taken hG hS, bit_taken hF hS, hr' x i hx]
        constructor
        · rintro ⟨⟨a, b⟩, c⟩; exact ⟨⟨a, c⟩, b⟩
        · rintro ⟨⟨a, c⟩, b⟩; exact ⟨⟨a, b⟩, c⟩
  | [], _ :: _, _, _, _, _, _, hp, _ => by simp [Plans] at hp
  | _ :: _, [], _, _, _, _, _, hp, _ => by simp [Plans] at hp
def Apart (rs : List Ru) : Prop := rs.Pairwise fun a b => ∀ i, a.1.testBit i = true → b.1.testBit i = false
theorem begun_apart.begun_long {now : Int} : ∀ {ws : List Wi} {ps : List (Option (Int × Nat))}, (∀ w ∈ ws, 1 ≤ w.long) → ∀ r ∈ begun now ws ps, now < r.2
  | [], _, _, r, hr => by simp [begun] at hr
  | w :: ws, [], _, r, hr => by simp [begun] at hr
  | w :: ws, none :: ps, hw, r, hr => by
    simp only [begun] at hr
    exact begun_apart.begun_long (fun v hv => hw v (by simp [hv])) r hr
  | w :: ws, some (t, S) :: ps, hw, r, hr => by
    have h1 := hw w (by simp)
    simp only [begun] at hr
    by_cases ht : t = now
    · rw [if_pos ht] at hr
      rcases List.mem_cons.1 hr with rfl | hr
      · simp only; omega
      · exact begun_apart.begun_long (fun v hv => hw v (by simp [hv])) r hr
    · rw [if_neg ht] at hr
      exact begun_apart.begun_long (fun v hv => hw v (by simp [hv])) r hr
theorem begun_apart {now : Int} : ∀ {ws : List Wi} {ps : List (Option (Int × Nat))} {F : Int → Nat}, (∀ t, F t < 256) → (∀ w ∈ ws, 1 ≤ w.long) → Plans now F ws ps → Apart (begun now ws ps)
  | [], [], _, _, _, _ => List.Pairwise.nil
  | w :: ws, none :: ps, F, hF, hw, h => by
    simp only [begun]
    exact begun_apart hF (fun v hv => hw v (by simp [hv])) h.2
  | w :: ws, some (t, S) :: ps, F, hF, hw, h => by
    have ih := begun_apart (taken_lt hF _ _ _) (fun v hv => hw v (by simp [hv])) h.2
    simp only [begun]
    by_cases ht : t = now
    · rw [if_pos ht]
      refine List.Pairwise.cons (fun r hr i hi => ?_) ih
      cases hri : r.1.testBit i with
      | false => rfl
      | true =>
        have hlong := begun_apart.begun_long (fun v hv => hw v (by simp [hv])) r hr
        have hs := (begun_sub h.2 r hr).2 now (Int.le_refl _) hlong i hri
        rw [bit_taken hF h.1.low.small] at hs
        have := hs.2 (by omega) (by have := hw w (by simp); omega)
        simp only at hi
        rw [hi] at this; cases this
    · rw [if_neg ht]; exact ih
  | [], _ :: _, _, _, _, hp => by simp [Plans] at hp
  | _ :: _, [], _, _, _, hp => by simp [Plans] at hp
/-- The scene behind this one. -/
structure Sc (u : Nat) (now : Int) (rs : List Ru) : Prop where
  small : ∀ r ∈ rs, r.1 < 256
  sub : ∀ r ∈ rs, SubS r.1 u
  ends : ∀ r ∈ rs, now < r.2
  apart : Apart rs
def nextR (now now' : Int) (rs : List Ru) (ws : List Wi) (ps : List (Option (Int × Nat))) : List Ru := (rs ++ begun now ws ps).filter fun r => now' < r.2
theorem next_sc {u : Nat} (hu : u < 256) {now now' : Int} {rs : List Ru} {ws : List Wi} {ps : List (Option (Int × Nat))} (h : Sc u now rs) (hw : ∀ w ∈ ws, 1 ≤ w.long) (hp : Plans now (runF u rs) ws ps) :
    Sc u now' (nextR now now' rs ws ps) := by
  have hF := runF_lt hu h.small
  refine ⟨fun r hr => ?_, fun r hr => ?_, fun r hr => ?_, ?_⟩
  · rcases List.mem_append.1 (List.mem_filter.1 hr).1 with hm | hm
    · exact h.small r hm
    · exact (begun_sub hp r hm).1
  · rcases List.mem_append.1 (List.mem_filter.1 hr).1 with hm | hm
    · exact h.sub r hm
    · exact ((begun_sub hp r hm).2 now (Int.le_refl _) (begun_apart.begun_long hw r hm)).trans (runF_sub hu h.small now)
  · simpa using (List.mem_filter.1 hr).2
  · refine List.Pairwise.sublist List.filter_sublist ?_
    refine List.pairwise_append.2 ⟨h.apart, begun_apart hF hw hp, fun a ha b hb i hi => ?_⟩
    cases hbi : b.1.testBit i with
    | false => rfl
    | true =>
      have := (begun_sub hp b hb).2 now (Int.le_refl _) (begun_apart.begun_long hw b hb) i hbi
      have := ((bit_runF hu h.small now i).1 this).2 a ha (h.ends a ha)
      rw [hi] at this; cases this
theorem next_plans {u : Nat} (hu : u < 256) {now now' : Int} (hn : now < now') {rs : List Ru} {ws : List Wi} {ps : List (Option (Int × Nat))} (h : Sc u now rs) (hw : ∀ w ∈ ws, 1 ≤ w.long) (hp : Plans now (runF u rs) ws ps)
    (hl : ∀ t S, some (t, S) ∈ ps → t ≠ now → now' ≤ t) : Plans now' (runF u (nextR now now' rs ws ps)) (laterW now ws ps) (laterP now ps) := by
  have hs := next_sc (now' := now') hu h hw hp
  refine later_plans hn (runF_lt hu h.small) (runF_lt hu hs.small) hl hp fun x i hx => ?_
  rw [bit_runF hu hs.small, bit_runF hu h.small]
  unfold nextR
  constructor
  · rintro ⟨a, b⟩
    have hb : ∀ r, r ∈ rs ++ begun now ws ps → x < r.2 → r.1.testBit i = false := fun r hr hx' => b r (List.mem_filter.2 ⟨hr, by simp; omega⟩) hx'
    exact ⟨⟨a, fun r hr => hb r (List.mem_append_left _ hr)⟩, fun r hr => hb r (List.mem_append_right _ hr)⟩
  · rintro ⟨⟨a, b⟩, c⟩
    refine ⟨a, fun r hr hx' => ?_⟩
    rcases List.mem_append.1 (List.mem_filter.1 hr).1 with hm | hm
    · exact b r hm hx'
    · exact c r hm hx'
end Go.Proofs.YtnnkibdjbodncaaDoor
