/- The statement's own code: the plans put into the map; from scene to scene. No condition. -/
import Derived.Test.YtnnkibdjbodncaaDoorWd
namespace Go.Proofs.YtnnkibdjbodncaaDoor
open Go.RowKit
theorem look_snoc (M : List Pl) (p : Pl) (y : Nat) : look (M ++ [p]) y = (look M y).or (if p.1 = y then some p else none) := by
  unfold look
  rw [List.find?_append]
  congr 1
  by_cases h : p.1 = y
  · have e : (p.1 == y) = true := by simpa using h
    simp [List.find?, h]
  · have e : (p.1 == y) = false := by simpa using h
    simp [List.find?, h, e]
/-- The loop that puts the plans into the map: w4: the world ahead of it. -/
structure L4 (w4 wr : World) (B : Nat) (M Q : List Pl) (j : Nat) (M' : List Pl) : Prop where
  mp : MapP wr B M'
  els : Else B none w4 wr
  done : ∀ (i : Nat) (p : Pl), i < j → Q[i]? = some p → look M' p.1 = some p
  fit : ∀ p ∈ Q, look M' p.1 = none ∨ look M' p.1 = some p
  rest : ∀ y, (∀ p ∈ Q, p.1 ≠ y) → look M' y = look M y
theorem Else.more {w4 w5 w6 : World} {B : Nat} (h : Else B none w4 w5) (hb : Below w5.heap.size w5 w6) : Else B none w4 w6 :=
  ⟨hb.os.trans h.os, hb.tape.trans h.tape, hb.output.trans h.output, Nat.le_trans h.size hb.size, fun k hk hB hr => by rw [hb.block k (Nat.lt_of_lt_of_le hk h.size)]; exact h.block k hk hB hr⟩
theorem Else.step {w4 w5 w6 : World} {B : Nat} {M : List Pl} (h : Else B none w4 w5) (hs : StepP w5 w6 B M) : Else B none w4 w6 :=
  ⟨hs.os.trans h.os, hs.tape.trans h.tape, hs.output.trans h.output, by rw [hs.size]; exact h.size, fun k hk hB hr => by rw [hs.block k hB]; exact h.block k hk hB hr⟩
theorem L4.new {w4 wr w5 w6 : World} {B : Nat} {M Q : List Pl} {j : Nat} {M' : List Pl} {p : Pl} (h : L4 w4 wr B M Q j M') (hp : Q[j]? = some p) (D : ∀ a ∈ Q, ∀ b ∈ Q, a.1 = b.1 → a = b) (hn : look M' p.1 = none) (he : Else B none w4 w5) (hs : StepP w5 w6 B (M' ++ [p])) :
    L4 w4 w6 B M Q (j + 1) (M' ++ [p]) := by
  have hpm := List.mem_of_getElem? hp
  have key : ∀ q ∈ Q, look M' q.1 = some q ∨ q = p → look (M' ++ [p]) q.1 = some q := fun q hq hc => by
    rw [look_snoc]
    rcases hc with hc | rfl
    · rw [hc]; rfl
    · rw [hn]; simp
  refine ⟨hs.is, he.step hs, fun i q hi hq => ?_, fun q hq => ?_, fun y hy => ?_⟩
  · by_cases hij : i < j
    · exact key q (List.mem_of_getElem? hq) (.inl (h.done i q hij hq))
    · obtain rfl : i = j := by omega
      rw [hp] at hq
      cases hq
      exact key p hpm (.inr rfl)
  · by_cases hqp : q = p
    · exact .inr (key q hq (.inr hqp))
    · rcases h.fit q hq with hf | hf
      · left
        rw [look_snoc, hf, if_neg (fun e => hqp (D q hq p hpm e.symm))]
        rfl
      · exact .inr (key q hq (.inl hf))
  · rw [look_snoc, if_neg (hy p hpm), h.rest y hy]
    cases look M y <;> rfl
theorem L4.same {w4 wr w5 w6 : World} {B : Nat} {M Q : List Pl} {j : Nat} {M' : List Pl} {p : Pl} (h : L4 w4 wr B M Q j M') (hp : Q[j]? = some p) (hn : look M' p.1 = some p) (he : Else B none w4 w5) (hs : StepP w5 w6 B M') :
    L4 w4 w6 B M Q (j + 1) M' := by
  refine ⟨hs.is, he.step hs, fun i q hi hq => ?_, h.fit, h.rest⟩
  by_cases hij : i < j
  · exact h.done i q hij hq
  · obtain rfl : i = j := by omega
    rw [hp] at hq
    cases hq
    exact hn
theorem wpList_put {w : World} {ops : Array Oper} {rest : List Oper} {o : Oper} {a : Act} {Q : Exit → Act → World → Prop}
    (hg : o.guard = none) (m k v : Operand) (hop : o.op = Op.mapUpdate 42 m k v) (B : Nat) (M N : List Pl) (p : Pl) (hm : a.eval m = .map (some B)) (hk : a.eval k = .int .i64 p.1) (hv : a.eval v = plVal p)
    (h : MapP w B M) (hrun : (Instr.mapUpdate 42 (.map (some B)) (.int .i64 p.1) (plVal p)).run Tryd.prog w = .ok () (ChangeMaps.setBlock w B (.map (entsP 0 N).toArray N.length))) (hK : ∀ w', StepP w w' B N → wpList Tryd.prog ops Q rest (a.put o.dst undef) w') :
    wpList Tryd.prog ops Q (o :: rest) a w := by
  refine wpList_plain hg fun K' hK' => ?_
  unfold Oper.wp
  simp [execOp, hop, hm, hk, hv, hrun, Result.andThen]
  exact hK' _ _ (hK _ (stepP_of h))
theorem Scene.right {w0 wr : World} {X B : Nat} {now : Int} {rs : List Ru} {ws : List Wi} {vr vp : Value} {M : List Pl} (h : Scene w0 wr X B now rs ws vr vp M 1000000) : RightSc 255 now rs ws :=
  ⟨h.sc, h.now0, by have := h.nowE; omega, by have := h.many; omega, fun r hr => by have := h.ends r hr; omega, by have := h.many; omega, h.ids, fun x hx => by
    obtain ⟨a, b, c, d, e, f, g⟩ := h.wish x hx
    exact ⟨a, b, c, d, e, by omega, g⟩⟩
theorem later_mem {now : Int} {ws : List Wi} {ps : List (Option (Int × Nat))} {j : Nat} {x : Wi} {t : Int} {S : Nat} (hx : ws[j]? = some x) (hp : ps[j]? = some (some (t, S))) (ht : t ≠ now) : (x.id, t, S) ∈ laterOf now ws ps := by
  induction ws generalizing ps j with
  | nil => simp at hx
  | cons y ws ih =>
    cases ps with
    | nil => simp at hp
    | cons o ps =>
      cases j with
      | zero =>
        simp at hx hp
        subst hx; subst hp
        simp [laterOf, ht]
      | succ j =>
        simp at hx hp
        have := ih hx hp
        cases o with
        | none => simpa [laterOf] using this
        | some q =>
          obtain ⟨t', S'⟩ := q
          simp only [laterOf]
          split
          · exact this
          · exact List.mem_cons_of_mem _ this
/-- The next scene. -/
theorem Scene.next {w0 w wr : World} {X B : Nat} {now T E : Int} {rs : List Ru} {ws : List Wi} {vr vp vr' vp' : Value} {M M' : List Pl} {ps : List (Option (Int × Nat))} (h : Scene w0 w X B now rs ws vr vp M E) (hp : Plans now (runF 255 rs) ws ps) (hs : Sure M' E ws ps)
    (h1 : now < T) (h2 : T ≤ E) (h3 : ∀ p ∈ laterOf now ws ps, T ≤ p.2.1) (hl : L2 w0 wr X T (nextR now T rs ws ps) (laterW now ws ps) vr' vp') (hm : MapP wr B M') : Scene w0 wr X B T (nextR now T rs ws ps) (laterW now ws ps) vr' vp' M' E := by
  have hok := h.okay ps hp
  have hw : ∀ w ∈ ws, 1 ≤ w.long := fun x hx => (h.wish x hx).2.2.2.2.1
  have hsub := @later_ids now ws ps
  have hat : ∀ t S, some (t, S) ∈ ps → t ≠ now → T ≤ t := fun t S hm ht => by
    obtain ⟨j, hj⟩ := List.mem_iff_getElem?.1 hm
    have hlen := hp.length
    have hjl := (List.getElem?_eq_some_iff.1 hj).1
    have hx : ws[j]? = some (ws[j]'(by omega)) := List.getElem?_eq_getElem (by omega)
    exact h3 _ (later_mem hx hj ht)
  refine ⟨hl, hm, next_sc (by omega) h.sc hw hp, by have := h.now0; omega, h2, fun r hr => ?_, ?_, fun x hx => h.wish x (hsub.subset hx), h.ids.sublist hsub, fun qs hq => ?_, h.Bge⟩
  · rcases List.mem_append.1 (List.mem_filter.1 hr).1 with hr | hr
    · exact h.ends r hr
    · exact hok.begun r hr
  · have a := @begun_later_len now ws ps
    have b : (nextR now T rs ws ps).length ≤ (rs ++ begun now ws ps).length := List.length_filter_le _ _
    rw [List.length_append] at b
    have := h.many
    omega
  · have := hq.unique (next_plans (by omega) h1 h.sc hw hp hat)
    rw [this]
    exact hs.later
theorem RowOf.els {α : Type} {e k : Nat} {c : α → List Value} {w4 wr : World} {N B : Nat} {v : Value} {l : List α} {M : List Pl} (h : RowOf e k c w4 N v l) (he : Else B none w4 wr) (hm : MapP w4 B M) : RowOf e k c wr N v l :=
  h.kept fun b hb => he.block b (h.lt hb).2 (fun e => hm.no h (e ▸ hb)) (by simp)
/-- What stands in memory when the next scene has been laid. -/
theorem gs_start {w0 w4 wr : World} {X B : Nat} {now : Int} {rs : List Ru} {ws : List Wi} {vr vp vl : Value} {ll M M' : List Pl} (h : L2 w0 w4 X now rs ws vr vp) (hl : RowOf 48 6 plC w4 w0.heap.size vl ll) (hm : MapP w4 B M) (he : Else B none w4 wr) (hm' : MapP wr B M') (hB : w0.heap.size ≤ B) :
    GS w0 (wr.alloc (.cells #[.int .i64 0, .int .u64 255, .int .u64 0, .int .u64 0, .int .u64 0, .slice none 0 0, .slice none 0 0] 32)) X wr.heap.size B now 0 vr vp (.slice none 0 0) (.slice none 0 0) vl rs ws [] [] ll M' := by
  have hX : ScB wr X now 255 vr vp := by unfold ScB; rw [he.block X h.sc.lt (fun e => hm.ne_sc h.sc e.symm) (by simp)]; exact h.sc
  have hb : Below w0.heap.size w0 wr := he.below h.below h.below.size hB (fun k hk => by cases hk)
  have hbn := below_alloc' wr (.cells #[.int .i64 0, .int .u64 255, .int .u64 0, .int .u64 0, .int .u64 0, .slice none 0 0, .slice none 0 0] 32)
  exact ⟨hX.below hbn, heap_alloc_new wr _, (h.runs.els he hm).below hbn, (h.row.els he hm).below hbn, RowOf.nil _ _, RowOf.nil _ _, (hl.els he hm).below hbn, by simp [Value.ownBlock], by simp [Value.ownBlock], hm'.below hbn, hb.alloc hb.size _, by have := hX.lt; omega, h.Xge, hb.size, hB⟩
theorem begun_take {now : Int} {ws : List Wi} {ps : List (Option (Int × Nat))} {j : Nat} {x : Wi} {p : Option (Int × Nat)} (hx : ws[j]? = some x) (hp : ps[j]? = some p) :
    begun now (ws.take (j + 1)) (ps.take (j + 1)) = begun now (ws.take j) (ps.take j) ++ (match (generalizing := false) p with | some (t, S) => if t = now then [(S, now + x.long)] else [] | none => []) ∧
    laterW now (ws.take (j + 1)) (ps.take (j + 1)) = laterW now (ws.take j) (ps.take j) ++ (match (generalizing := false) p with | some (t, _) => if t = now then [] else [x] | none => []) := by
  have hl : (ps.take j).length = (ws.take j).length := by
    rw [List.length_take, List.length_take]
    have := (List.getElem?_eq_some_iff.1 hx).1
    have := (List.getElem?_eq_some_iff.1 hp).1
    omega
  rw [take_at hx, take_at hp]
  exact ⟨begun_snoc now x p _ _ hl, laterW_snoc now x p _ _ hl⟩
theorem later_ge {now : Int} {p : Pl} : ∀ {ws : List Wi} {ps : List (Option (Int × Nat))} {F : Int → Nat}, Plans now F ws ps → p ∈ laterOf now ws ps → now < p.2.1
  | [], [], _, _, h => by simp [laterOf] at h
  | x :: ws, none :: ps, _, hp, h => by simp only [laterOf] at h; exact later_ge hp.2 h
  | x :: ws, some (t, S) :: ps, _, hp, h => by
    simp only [laterOf] at h
    split at h
    · exact later_ge hp.2 h
    · rename_i ht
      rcases List.mem_cons.1 h with rfl | h
      · have := hp.1.from_; simp only; omega
      · exact later_ge hp.2 h
  | [], _ :: _, _, hp, _ => by simp [Plans] at hp
  | _ :: _, [], _, hp, _ => by simp [Plans] at hp
theorem run_ends {now : Int} {rs : List Ru} {ws : List Wi} {ps : List (Option (Int × Nat))} (hs : Sc 255 now rs) (hw : ∀ w ∈ ws, 1 ≤ w.long) : ∀ r ∈ rs ++ begun now ws ps, now < r.2 := by
  intro r hr
  rcases List.mem_append.1 hr with h | h
  · exact hs.ends r h
  · exact begun_apart.begun_long hw r h
theorem pls_one (l : List Pl) : ∀ u ∈ l.flatMap plC, u.oneCell' = true := by
  intro u hu
  obtain ⟨p, _, hp⟩ := List.mem_flatMap.1 hu
  exact pl_one p u hp
theorem filter_take_snoc {α : Type} (p : α → Bool) {l : List α} {j : Nat} {x : α} (h : l[j]? = some x) : (l.take (j + 1)).filter p = (l.take j).filter p ++ (if p x = true then [x] else []) := by
  rw [take_at h, List.filter_append]
  congr 1
  by_cases hp : p x = true
  · simp [hp]
  · simp [hp]
end Go.Proofs.YtnnkibdjbodncaaDoor
