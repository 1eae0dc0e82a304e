/- A full pass. Conditions: a scene that is right; few runs and wishes. -/
import Derived.Test.YtnnkibdjbodncaaDoorUd
namespace Go.Proofs.YtnnkibdjbodncaaDoor
open Go.RowKit
/-- The plans that begin now, and those that begin later. -/
def startsOf (now : Int) : List Wi → List (Option (Int × Nat)) → List Pl
  | x :: ws, some (t, S) :: ps => if t = now then (x.id, t, S) :: startsOf now ws ps else startsOf now ws ps
  | _ :: ws, none :: ps => startsOf now ws ps
  | _, _ => []
def laterOf (now : Int) : List Wi → List (Option (Int × Nat)) → List Pl
  | x :: ws, some (t, S) :: ps => if t = now then laterOf now ws ps else (x.id, t, S) :: laterOf now ws ps
  | _ :: ws, none :: ps => laterOf now ws ps
  | _, _ => []
theorem starts_snoc (now : Int) (x : Wi) (p : Option (Int × Nat)) : ∀ (ws : List Wi) (ps : List (Option (Int × Nat))), ps.length = ws.length →
    startsOf now (ws ++ [x]) (ps ++ [p]) = startsOf now ws ps ++ (match p with | some (t, S) => if t = now then [(x.id, t, S)] else [] | none => [])
  | [], [], _ => by
    cases p with
    | none => simp [startsOf]
    | some p => obtain ⟨t, S⟩ := p; simp only [List.nil_append, startsOf]
  | y :: ws, q :: ps, h => by
    have ih := starts_snoc now x p ws ps (by simpa using h)
    cases q with
    | none => simp only [List.cons_append, startsOf, ih]
    | some q =>
      obtain ⟨t, S⟩ := q
      simp only [List.cons_append, startsOf, ih]
      split <;> simp
  | [], _ :: _, h => by simp at h
  | _ :: _, [], h => by simp at h
theorem later_snoc (now : Int) (x : Wi) (p : Option (Int × Nat)) : ∀ (ws : List Wi) (ps : List (Option (Int × Nat))), ps.length = ws.length →
    laterOf now (ws ++ [x]) (ps ++ [p]) = laterOf now ws ps ++ (match p with | some (t, S) => if t = now then [] else [(x.id, t, S)] | none => [])
  | [], [], _ => by
    cases p with
    | none => simp [laterOf]
    | some p => obtain ⟨t, S⟩ := p; simp only [List.nil_append, laterOf]
  | y :: ws, q :: ps, h => by
    have ih := later_snoc now x p ws ps (by simpa using h)
    cases q with
    | none => simp only [List.cons_append, laterOf, ih]
    | some q =>
      obtain ⟨t, S⟩ := q
      simp only [List.cons_append, laterOf, ih]
      split <;> simp
  | [], _ :: _, h => by simp at h
  | _ :: _, [], h => by simp at h
theorem starts_len (now : Int) : ∀ (ws : List Wi) (ps : List (Option (Int × Nat))), (startsOf now ws ps).length ≤ ws.length
  | [], [] => by simp [startsOf]
  | y :: ws, none :: ps => by have := starts_len now ws ps; simp only [startsOf, List.length_cons]; omega
  | y :: ws, some (t, S) :: ps => by
    have := starts_len now ws ps
    simp only [startsOf]
    split <;> simp only [List.length_cons] <;> omega
  | [], _ :: _ => by simp [startsOf]
  | _ :: _, [] => by simp [startsOf]
theorem laterOf_len (now : Int) : ∀ (ws : List Wi) (ps : List (Option (Int × Nat))), (laterOf now ws ps).length ≤ ws.length
  | [], [] => by simp [laterOf]
  | y :: ws, none :: ps => by have := laterOf_len now ws ps; simp only [laterOf, List.length_cons]; omega
  | y :: ws, some (t, S) :: ps => by
    have := laterOf_len now ws ps
    simp only [laterOf]
    split <;> simp only [List.length_cons] <;> omega
  | [], _ :: _ => by simp [laterOf]
  | _ :: _, [] => by simp [laterOf]
/-- Plans made for the first wishes, and what is free behind them. -/
def Made (now : Int) (F0 : Int → Nat) (ws : List Wi) (j : Nat) (ps : List (Option (Int × Nat))) (F : Int → Nat) : Prop := ps.length = j ∧ ∀ qs, Plans now F (ws.drop j) qs → Plans now F0 ws (ps ++ qs)
theorem Made.start (now : Int) (F0 : Int → Nat) (ws : List Wi) : Made now F0 ws 0 [] F0 := ⟨rfl, fun _ h => h⟩
theorem drop_at {α : Type} {l : List α} {j : Nat} {x : α} (h : l[j]? = some x) : l.drop j = x :: l.drop (j + 1) := by
  obtain ⟨h1, rfl⟩ := List.getElem?_eq_some_iff.1 h
  exact List.drop_eq_getElem_cons h1
theorem take_at {α : Type} {l : List α} {j : Nat} {x : α} (h : l[j]? = some x) : l.take (j + 1) = l.take j ++ [x] := by
  rw [List.take_add_one, h]; rfl
theorem Made.none {now : Int} {F0 F : Int → Nat} {ws : List Wi} {j : Nat} {ps : List (Option (Int × Nat))} {x : Wi} (h : Made now F0 ws j ps F) (hx : ws[j]? = some x) (hn : ∀ t, now ≤ t → t < 1099511627776 → popN (avail F x t) < x.n) : Made now F0 ws (j + 1) (ps ++ [.none]) F := by
  refine ⟨by simp [h.1], fun qs hq => ?_⟩
  rw [List.append_assoc]
  refine h.2 _ ?_
  rw [drop_at hx]
  exact ⟨hn, hq⟩
theorem Made.some {now : Int} {F0 F : Int → Nat} {ws : List Wi} {j : Nat} {ps : List (Option (Int × Nat))} {x : Wi} {t : Int} {S : Nat} (h : Made now F0 ws j ps F) (hx : ws[j]? = Option.some x) (hb : Best F now x t S) : Made now F0 ws (j + 1) (ps ++ [.some (t, S)]) (taken F S t x.long) := by
  refine ⟨by simp [h.1], fun qs hq => ?_⟩
  rw [List.append_assoc]
  refine h.2 _ ?_
  rw [drop_at hx]
  exact ⟨hb, hq⟩
theorem Made.done {now : Int} {F0 F : Int → Nat} {ws : List Wi} {ps : List (Option (Int × Nat))} (h : Made now F0 ws ws.length ps F) : Plans now F0 ws ps := by
  have := h.2 [] (by rw [List.drop_length]; trivial)
  rwa [List.append_nil] at this
theorem PS.weaken {w0 w : World} {q f u : Nat} {now : Int} {vs vp : Value} {ss pp : List Pl} {F : Int → Nat} {len len' : Nat} {H H' : Int} (h : PS w0 w q f u now vs vp ss pp F len H) (h1 : len ≤ len') (h2 : H ≤ H') : PS w0 w q f u now vs vp ss pp F len' H' := by
  obtain ⟨l, g, cap, a, b, c, d⟩ := h.prof
  exact ⟨h.pass, ⟨l, g, cap, a, b, by omega, fun s hs => by have := d s hs; omega⟩, h.starts, h.plans, h.apart, h.below, h.qge, h.fge⟩
theorem RowOf.mono {α : Type} {e k : Nat} {c : α → List Value} {w : World} {B B' : Nat} {v : Value} {l : List α} (h : RowOf e k c w B v l) (hB : B' ≤ B) : RowOf e k c w B' v l := by
  refine ⟨h.1, ?_⟩
  rcases h.2 with hn | ⟨g, cap, cur, hv, hb, hg, rest⟩
  · exact .inl hn
  · exact .inr ⟨g, cap, cur, hv, by omega, hg, rest⟩
theorem best_free {F : Int → Nat} {now : Int} {x : Wi} {t : Int} {S : Nat} (h : Best F now x t S) : SubS S (inter F t x.long) := fun i hi => by
  have := h.low.sub i hi
  unfold avail at this
  rw [Nat.testBit_and, Bool.and_eq_true] at this
  exact this.1
def PassPost (w : World) (u : Nat) (now : Int) (rs : List Ru) (ws : List Wi) (e : Ending) (w' : World) : Prop :=
  ∃ vs vp ps, e = .returned (.tuple #[vs, vp, .int .i64 0]) ∧ Plans now (runF u rs) ws ps ∧ RowOf 48 6 plC w' w.heap.size vs (startsOf now ws ps) ∧ RowOf 48 6 plC w' w.heap.size vp (laterOf now ws ps) ∧
    (∀ b, vs.ownBlock = some b → vp.ownBlock ≠ some b) ∧ Below w.heap.size w w'
/-- The state of the loop over the wishes. -/
structure PL (w0 wr : World) (q f u : Nat) (now : Int) (F0 : Int → Nat) (ws : List Wi) (n j : Nat) (vs vp : Value) (ps : List (Option (Int × Nat))) (F : Int → Nat) : Prop where
  st : PS w0 wr q f u now vs vp (startsOf now (ws.take j) ps) (laterOf now (ws.take j) ps) F (1 + 2 * n + 2 * j) (4294967296 + 1048576 * j)
  made : Made now F0 ws j ps F
  up : ∀ t, SubS (F t) u
theorem plan_one {w : World} {F : Int → Nat} {now : Int} {wi : Wi} {l : List St} {e : Ending} {w' : World} (h : PlanPost w F now wi l e w') :
    Below w.heap.size w w' ∧ ∃ (id t : Int) (S : Nat) (b : Bool), e = .returned (.tuple #[.agg #[.int .i64 id, .int .i64 t, .int .u64 S, .int .u64 0, .int .u64 0, .int .u64 0], .bool b]) ∧ Hid (b = true ∧ id = wi.id ∧ Best F now wi t S ∧ (∃ s ∈ l, s.1 = t) ∨ b = false ∧ ∀ t, now ≤ t → t < 1099511627776 → popN (avail F wi t) < wi.n) := by
  obtain ⟨hb, ⟨t, S, rfl, h1, h2⟩ | ⟨rfl, h1⟩⟩ := h
  · exact ⟨hb, wi.id, t, S, true, rfl, Lib.hid (.inl ⟨rfl, rfl, h1, h2⟩)⟩
  · exact ⟨hb, 0, 0, 0, false, rfl, Lib.hid (.inr ⟨rfl, h1⟩)⟩
theorem PL.put_none {w0 wr w' : World} {q f u : Nat} {now : Int} {F0 : Int → Nat} {ws : List Wi} {n j : Nat} {vs vp : Value} {ps : List (Option (Int × Nat))} {F : Int → Nat} {x : Wi} (h : PL w0 wr q f u now F0 ws n j vs vp ps F) (hx : ws[j]? = some x) (hs : PS w0 w' q f u now vs vp (startsOf now (ws.take j) ps) (laterOf now (ws.take j) ps) F (1 + 2 * n + 2 * j) (4294967296 + 1048576 * j))
    (hn : ∀ t, now ≤ t → t < 1099511627776 → popN (avail F x t) < x.n) : PL w0 w' q f u now F0 ws n (j + 1) vs vp (ps ++ [.none]) F := by
  refine ⟨?_, h.made.none hx hn, h.up⟩
  have hl : ps.length = (ws.take j).length := by
    rw [h.made.1, List.length_take]
    have := (List.getElem?_eq_some_iff.1 hx).1
    omega
  rw [take_at hx, starts_snoc _ _ _ _ _ hl, later_snoc _ _ _ _ _ hl]
  simp only [List.append_nil]
  exact hs.weaken (by omega) (by omega)
theorem PL.put_start {w0 wr w' : World} {q f u : Nat} {now : Int} {F0 : Int → Nat} {ws : List Wi} {n j : Nat} {vs vp vs' : Value} {ps : List (Option (Int × Nat))} {F : Int → Nat} {x : Wi} {S len : Nat} {H : Int} (h : PL w0 wr q f u now F0 ws n j vs vp ps F) (hx : ws[j]? = some x)
    (hb : Best F now x now S) (hl : len ≤ 1 + 2 * n + 2 * (j + 1)) (hH : H ≤ 4294967296 + 1048576 * (j + 1 : Nat)) (hs : PS w0 w' q f u now vs' vp (startsOf now (ws.take j) ps ++ [(x.id, now, S)]) (laterOf now (ws.take j) ps) (taken F S now x.long) len H) :
    PL w0 w' q f u now F0 ws n (j + 1) vs' vp (ps ++ [some (now, S)]) (taken F S now x.long) := by
  have hlen : ps.length = (ws.take j).length := by
    rw [h.made.1, List.length_take]
    have := (List.getElem?_eq_some_iff.1 hx).1
    omega
  refine ⟨?_, h.made.some hx hb, fun t => (taken_sub _ _ _ _ _).trans (h.up t)⟩
  rw [take_at hx, starts_snoc _ _ _ _ _ hlen, later_snoc _ _ _ _ _ hlen]
  simp only [if_true, List.append_nil]
  exact hs.weaken hl hH
theorem PL.put_later {w0 wr w' : World} {q f u : Nat} {now : Int} {F0 : Int → Nat} {ws : List Wi} {n j : Nat} {vs vp vp' : Value} {ps : List (Option (Int × Nat))} {F : Int → Nat} {x : Wi} {t : Int} {S len : Nat} {H : Int} (h : PL w0 wr q f u now F0 ws n j vs vp ps F) (hx : ws[j]? = some x) (ht : ¬ t = now)
    (hb : Best F now x t S) (hl : len ≤ 1 + 2 * n + 2 * (j + 1)) (hH : H ≤ 4294967296 + 1048576 * (j + 1 : Nat)) (hs : PS w0 w' q f u now vs vp' (startsOf now (ws.take j) ps) (laterOf now (ws.take j) ps ++ [(x.id, t, S)]) (taken F S t x.long) len H) :
    PL w0 w' q f u now F0 ws n (j + 1) vs vp' (ps ++ [some (t, S)]) (taken F S t x.long) := by
  have hlen : ps.length = (ws.take j).length := by
    rw [h.made.1, List.length_take]
    have := (List.getElem?_eq_some_iff.1 hx).1
    omega
  refine ⟨?_, h.made.some hx hb, fun t => (taken_sub _ _ _ _ _).trans (h.up t)⟩
  rw [take_at hx, starts_snoc _ _ _ _ _ hlen, later_snoc _ _ _ _ _ hlen]
  simp only [if_neg ht, List.append_nil]
  exact hs.weaken hl hH
end Go.Proofs.YtnnkibdjbodncaaDoor
