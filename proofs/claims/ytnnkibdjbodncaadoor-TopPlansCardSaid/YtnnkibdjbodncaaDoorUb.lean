/- A pass: a wish's plan, and what a mode says. Conditions: few steps, times below 2^40. -/
import Derived.Test.YtnnkibdjbodncaaDoorUa
import Derived.Deep.RegionHeld3
namespace Go.Proofs.YtnnkibdjbodncaaDoor
open Go.RowKit
theorem PassB.below {w w' : World} {q f : Nat} {now : Int} {vs vp : Value} (h : PassB w q f now vs vp) (hb : Below w.heap.size w w') : PassB w' q f now vs vp := by
  unfold PassB; rw [hb.block q h.lt]; exact h
theorem PassB.frozen {w : World} {q f : Nat} {now : Int} {vs vp : Value} (h : PassB w q f now vs vp) (o : Nat) : w.frozen? ⟨q, o, none⟩ = false := by
  unfold PassB at h
  simp [World.frozen?, h]
/-- A wish behind a pointer, a plan behind a pointer. -/
def WiB (w : World) (X : Nat) (x : Wi) : Prop := w.heap[X]? = some (.cells #[.int .i64 x.id, .int .i64 x.n, .int .i64 x.long, .int .u64 x.of, .int .u64 0, .int .u64 0, .int .u64 0] 41)
theorem WiB.cells {w : World} {X : Nat} {x : Wi} (h : WiB w X x) :
    w.cell? ⟨X, 0, none⟩ = some (.int .i64 x.id) ∧ w.cell? ⟨X, 1, none⟩ = some (.int .i64 x.n) ∧ w.cell? ⟨X, 2, none⟩ = some (.int .i64 x.long) ∧ w.cell? ⟨X, 3, none⟩ = some (.int .u64 x.of) ∧ w.cell? ⟨X, 4, none⟩ = some (.int .u64 0) ∧ w.cell? ⟨X, 5, none⟩ = some (.int .u64 0) ∧ w.cell? ⟨X, 6, none⟩ = some (.int .u64 0) := by
  unfold WiB at h
  simp [World.cell?, h]
theorem WiB.below {w w' : World} {X : Nat} {x : Wi} (h : WiB w X x) (hb : Below w.heap.size w w') : WiB w' X x := by
  unfold WiB at *
  rw [hb.block X (Array.getElem?_eq_some_iff.1 h).1]; exact h
def PlB (w : World) (X : Nat) (id t S : Int) : Prop := w.heap[X]? = some (.cells #[.int .i64 id, .int .i64 t, .int .u64 S, .int .u64 0, .int .u64 0, .int .u64 0] 48)
theorem PlB.cells {w : World} {X : Nat} {id t S : Int} (h : PlB w X id t S) :
    w.cell? ⟨X, 0, none⟩ = some (.int .i64 id) ∧ w.cell? ⟨X, 1, none⟩ = some (.int .i64 t) ∧ w.cell? ⟨X, 2, none⟩ = some (.int .u64 S) ∧ w.cell? ⟨X, 3, none⟩ = some (.int .u64 0) ∧ w.cell? ⟨X, 4, none⟩ = some (.int .u64 0) ∧ w.cell? ⟨X, 5, none⟩ = some (.int .u64 0) := by
  unfold PlB at h
  simp [World.cell?, h]
theorem PlB.frozen {w : World} {X : Nat} {id t S : Int} (h : PlB w X id t S) (o : Nat) : w.frozen? ⟨X, o, none⟩ = false := by
  unfold PlB at h
  simp [World.frozen?, h]
theorem PlB.below {w w' : World} {X : Nat} {id t S : Int} (h : PlB w X id t S) (hb : Below w.heap.size w w') : PlB w' X id t S := by
  unfold PlB at *
  rw [hb.block X (Array.getElem?_eq_some_iff.1 h).1]; exact h
theorem six_set {w : World} {X : Nat} {a0 a1 a2 b0 b1 b2 : Int} (h : PlB w X a0 a1 a2) : PlB ((((((w.setCell ⟨X, 0, none⟩ (.int .i64 b0)).setCell ⟨X, 1, none⟩ (.int .i64 b1)).setCell ⟨X, 2, none⟩ (.int .u64 b2)).setCell ⟨X, 3, none⟩ (.int .u64 0)).setCell ⟨X, 4, none⟩ (.int .u64 0)).setCell ⟨X, 5, none⟩ (.int .u64 0)) X b0 b1 b2 := by
  unfold PlB
  rw [heap_set4 _ _ _ _ _ _ (heap_set4 _ _ _ _ _ _ (heap_set4 _ _ _ _ _ _ (heap_set4 _ _ _ _ _ _ (heap_set4 _ _ _ _ _ _ (heap_set4 _ _ _ _ _ _ h)))))]
  rfl
theorem six_below {w0 w : World} {X : Nat} {b0 b1 b2 b3 b4 b5 : Value} (h : Below w0.heap.size w0 w) (hg : w0.heap.size ≤ X) :
    Below w0.heap.size w0 ((((((w.setCell ⟨X, 0, none⟩ b0).setCell ⟨X, 1, none⟩ b1).setCell ⟨X, 2, none⟩ b2).setCell ⟨X, 3, none⟩ b3).setCell ⟨X, 4, none⟩ b4).setCell ⟨X, 5, none⟩ b5) :=
  (((((h.setCell hg _).setCell hg _).setCell hg _).setCell hg _).setCell hg _).setCell hg _
def wiV (x : Wi) : Value := .agg #[.int .i64 x.id, .int .i64 x.n, .int .i64 x.long, .int .u64 x.of, .int .u64 0, .int .u64 0, .int .u64 0]
def plV (id t S : Int) : Value := .agg #[.int .i64 id, .int .i64 t, .int .u64 S, .int .u64 0, .int .u64 0, .int .u64 0]
theorem earl_one {w : World} {F : Int → Nat} {now : Int} {wi : Wi} {l : List St} {e : Ending} {w' : World} (h : EarlPost w F now wi l e w') :
    Below w.heap.size w w' ∧ ∃ (t : Int) (S : Nat) (er : Int), e = .returned (.tuple #[.int .i64 t, .agg #[.int .u64 S, .int .u64 0, .int .u64 0, .int .u64 0], .int .i64 er]) ∧ Hid (er = 0 ∧ Best F now wi t S ∧ (∃ s ∈ l, s.1 = t) ∨ er = 9 ∧ ∀ t, now ≤ t → t < 1099511627776 → popN (avail F wi t) < wi.n) := by
  obtain ⟨hb, ⟨t, S, rfl, h1, h2⟩ | ⟨rfl, h1⟩⟩ := h
  · exact ⟨hb, t, S, 0, rfl, Lib.hid (.inl ⟨rfl, h1, h2⟩)⟩
  · exact ⟨hb, 0, 0, 9, rfl, Lib.hid (.inr ⟨rfl, h1⟩)⟩
def PlanPost (w : World) (F : Int → Nat) (now : Int) (wi : Wi) (l : List St) (e : Ending) (w' : World) : Prop :=
  Below w.heap.size w w' ∧ ((∃ (t : Int) (S : Nat), e = .returned (.tuple #[plV wi.id t S, .bool true]) ∧ Best F now wi t S ∧ ∃ s ∈ l, s.1 = t) ∨
    (e = .returned (.tuple #[plV 0 0 0, .bool false]) ∧ ∀ t, now ≤ t → t < 1099511627776 → popN (avail F wi t) < wi.n))
set_option maxHeartbeats 8000000 in
theorem plan_any {w : World} {q f u : Nat} {l : List St} {g cap : Nat} {now : Int} {vs vp : Value} {F : Int → Nat} (wi : Wi) (hq : PassB w q f now vs vp) (h : IsProf w f u l g cap) (hu : u < 256) (hFu : ∀ t, now ≤ t → SubS (F t) u) (hl : Lay l now 2199023255552 F) (h0 : 0 ≤ now) (hm : l.length ≤ 4000)
    (hw1 : 1 ≤ wi.long) (hw2 : wi.long ≤ 1099511627776) (hn : wi.n ≤ 256) (hof : wi.of < 256) (hhi : ∀ s ∈ l, s.1 < 1099511627776) (hT : Tab w) :
    Calls Tryd.prog 13 #[.pointer (some ⟨q, 0, none⟩), wiV wi] w (PlanPost w F now wi l) := by
  have hB1 := below_alloc' w (.cells #[.int .i64 wi.id, .int .i64 wi.n, .int .i64 wi.long, .int .u64 wi.of, .int .u64 0, .int .u64 0, .int .u64 0] 41)
  have hB2 := hB1.alloc (by simp) (.cells #[.int .i64 0, .int .i64 0, .int .u64 0, .int .u64 0, .int .u64 0, .int .u64 0] 48)
  have H2 := two w (.cells #[.int .i64 wi.id, .int .i64 wi.n, .int .i64 wi.long, .int .u64 wi.of, .int .u64 0, .int .u64 0, .int .u64 0] 41) (.cells #[.int .i64 0, .int .i64 0, .int .u64 0, .int .u64 0, .int .u64 0, .int .u64 0] 48)
  have hw := show WiB _ w.heap.size wi from H2.1
  have hp := show PlB _ (w.heap.size + 1) 0 0 0 from H2.2
  have HB2 := Lib.hid hB2
  have HW := Lib.hid hw
  have HP := Lib.hid hp
  have HE := Lib.hid (fun w' (hb : Below w.heap.size w w') => earliest_any wi (h.below hb) hu hFu hl h0 hm hw1 hw2 hn hof hhi (hT.below hb))
  obtain ⟨c0, c1, c2, c3⟩ := (hq.below hB2).cells
  obtain ⟨x0, x1, x2, x3, x4, x5, x6⟩ := hw.cells
  unfold wiV
  have HQ := Lib.hid (hq.below hB2)
  clear hB1 hB2 H2 hw hp h hl hhi hT hq hFu
  go_enter Tryd.func13, Tryd.ntmps13
  go_wp2_with fail
  generalize hW2 : (w.alloc (.cells #[.int .i64 wi.id, .int .i64 wi.n, .int .i64 wi.long, .int .u64 wi.of, .int .u64 0, .int .u64 0, .int .u64 0] 41)).alloc (.cells #[.int .i64 0, .int .i64 0, .int .u64 0, .int .u64 0, .int .u64 0, .int .u64 0] 48) = W at *
  clear hW2
  have hkeep : ∀ w', Below W.heap.size W w' → (w'.cell? ⟨q, 0, none⟩ = some (.pointer (some ⟨f, 0, none⟩)) ∧ w'.cell? ⟨q, 1, none⟩ = some (.int .i64 now) ∧ w'.cell? ⟨w.heap.size, 1, none⟩ = some (.int .i64 wi.n) ∧ w'.cell? ⟨w.heap.size, 2, none⟩ = some (.int .i64 wi.long) ∧ w'.cell? ⟨w.heap.size, 3, none⟩ = some (.int .u64 wi.of) ∧ w'.cell? ⟨w.heap.size, 4, none⟩ = some (.int .u64 0) ∧ w'.cell? ⟨w.heap.size, 5, none⟩ = some (.int .u64 0) ∧ w'.cell? ⟨w.heap.size, 6, none⟩ = some (.int .u64 0) ∧ Below W.heap.size W w') := fun w' hb => by
    obtain ⟨c0, c1, -, -⟩ := (HQ.out.below hb).cells
    obtain ⟨x0, x1, x2, x3, x4, x5, x6⟩ := (HW.out.below hb).cells
    exact ⟨c0, c1, x1, x2, x3, x4, x5, x6, hb⟩
  have HKP := Lib.hid hkeep
  clear hkeep
  go_region_held3 (fun w' => w'.cell? ⟨q, 0, none⟩ = some (.pointer (some ⟨f, 0, none⟩)) ∧ w'.cell? ⟨q, 1, none⟩ = some (.int .i64 now) ∧ w'.cell? ⟨w.heap.size, 1, none⟩ = some (.int .i64 wi.n) ∧ w'.cell? ⟨w.heap.size, 2, none⟩ = some (.int .i64 wi.long) ∧ w'.cell? ⟨w.heap.size, 3, none⟩ = some (.int .u64 wi.of) ∧ w'.cell? ⟨w.heap.size, 4, none⟩ = some (.int .u64 0) ∧ w'.cell? ⟨w.heap.size, 5, none⟩ = some (.int .u64 0) ∧ w'.cell? ⟨w.heap.size, 6, none⟩ = some (.int .u64 0) ∧ Below W.heap.size W w')
    (first | assumption | (refine HKP.out _ ?_; repeat (first | exact Below.refl _ _ | exact Hid.out (by assumption) | refine Below.drew ?_ | refine Below.setCell ?_ (by first | assumption | simp) _ | refine Below.alloc ?_ (by first | assumption | simp) _)))
    (first | (go_at_call 19; refine (HE.out _ ?_).mono ?_; (first | with_reducible exact HB2.out.drew | with_reducible exact (HB2.out.alloc HB2.out.size _).drew); rintro e w3 hr3; obtain ⟨hb3, t, S, er, rfl, HR3⟩ := earl_one hr3; have hA := (by first | exact (Below.refl _ W).drew.trans (hb3.mono (Nat.le_refl _)) | exact ((Below.refl _ W).alloc (Nat.le_refl _) _).drew.trans (hb3.mono (by show _ ≤ (W.alloc _).heap.size; simp)) : Below W.heap.size W w3); have HA := Lib.hid hA; have hsz3 := hA.size; have hP3 := HP.out.below hA; have HP3 := Lib.hid hP3; obtain ⟨p0, p1, p2, p3, p4, p5⟩ := hP3.cells; have fP := hP3.frozen; (first | (have h7 := Blk4.below (show Blk4 (W.alloc (.cells #[.int .u64 0, .int .u64 0, .int .u64 0, .int .u64 0] 28)).drew W.heap.size 0 0 0 0 from heap_alloc_new W _) hb3; have HZ := Lib.hid h7; obtain ⟨z0, z1, z2, z3⟩ := h7.cells; have fz := h7.frozen; clear h7) | skip); clear hr3 hb3 hP3 hA))
  all_goals rename_i hH
  all_goals obtain ⟨-, -, -, -, -, -, -, -, hX⟩ := hH
  all_goals have hT7 := (by first | exact four_set (y0 := (S : Int)) (y1 := 0) (y2 := 0) (y3 := 0) HZ.out | exact four_set (y0 := (S : Int)) (y1 := 0) (y2 := 0) (y3 := 0) (show Blk4 (w3.alloc (.cells #[.int .u64 0, .int .u64 0, .int .u64 0, .int .u64 0] 28)) w3.heap.size 0 0 0 0 from heap_alloc_new w3 _) : Blk4 (World.setCell _ _ _) _ S 0 0 0)
  all_goals have hP := HP.out.below hX
  all_goals have hV := HW.out.below hX
  all_goals obtain ⟨t0, t1, t2, t3⟩ := hT7.cells
  all_goals obtain ⟨p0, p1, p2, p3, p4, p5⟩ := hP.cells
  all_goals have fp := hP.frozen
  all_goals obtain ⟨y0, y1, y2, y3, y4, y5, y6⟩ := hV.cells
  all_goals have HX := Lib.hid hX
  all_goals have HPX := Lib.hid hP
  all_goals clear hX hT7 hP hV fP HP3 hsz3
  all_goals rcases HR3.out with ⟨rfl, hbest, hm⟩ | ⟨rfl, hnone⟩
  all_goals go_wp2_with fail
  all_goals first
    | (have hZ := six_set (b0 := (wi.id : Int)) (b1 := t) (b2 := (S : Int)) HPX.out
       obtain ⟨z0, z1, z2, z3, z4, z5⟩ := hZ.cells
       refine bodyPost_ret (v := .tuple #[plV wi.id t S, .bool true]) ?_ rfl ⟨six_below (HB2.out.trans (HX.out.mono HB2.out.size)) (by omega), .inl ⟨t, S, rfl, hbest, hm⟩⟩
       clear hZ t0 t1 t2 t3 p0 p1 p2 p3 p4 p5 fp y0 y1 y2 y3 y4 y5 y6
       simp [results, Tryd.results13, go_sem, plV, z0, z1, z2, z3, z4, z5])
    | (have hZ := six_set (b0 := 0) (b1 := 0) (b2 := 0) HPX.out
       obtain ⟨z0, z1, z2, z3, z4, z5⟩ := hZ.cells
       refine bodyPost_ret (v := .tuple #[plV 0 0 0, .bool false]) ?_ rfl ⟨six_below (HB2.out.trans (HX.out.mono HB2.out.size)) (by omega), .inr ⟨rfl, hnone⟩⟩
       clear hZ t0 t1 t2 t3 p0 p1 p2 p3 p4 p5 fp y0 y1 y2 y3 y4 y5 y6
       simp [results, Tryd.results13, go_sem, plV, z0, z1, z2, z3, z4, z5])
theorem rule_full {w : World} (q : Nat) : Calls Tryd.prog 15 #[.pointer (some ⟨q, 0, none⟩), .int .i64 2] w (fun e w' => e = .returned (.tuple #[.bool true, .bool false]) ∧ w = w') := by
  go_enter Tryd.func15, Tryd.ntmps15
  go_wp2_with fail
  go_ret2
  exact ⟨rfl, rfl⟩
end Go.Proofs.YtnnkibdjbodncaaDoor
