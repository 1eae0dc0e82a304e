/- A pass: a plan is kept. Conditions: few steps; what the plan needs is free. -/
import Derived.Test.YtnnkibdjbodncaaDoorUb
import Derived.Maps.AppendAt
import Derived.Deep.RegionLaw
import Derived.Deep.RegionHeld3
namespace Go.Proofs.YtnnkibdjbodncaaDoor
open Go.RowKit
/-- append onto a slice of the call's own, as one step of a region that draws. -/
theorem step_append_own {P : Program} {ops : Array Oper} {o : Oper} {a : Act} {w : World} {K : Act → World → Prop} {Q : Exit → Act → World → Prop} {E : Prop}
    (hgd : o.guard = none) (s x : Operand) (t : TypeId) (ho : o.op = Op.call { callee := Callee.builtin Builtin.append, args := #[s, x], argTypes := #[t, t] })
    (base : Nat) (e : TypeId) (i : TypeInfo) (z : Value) (size bytes : Nat) (ht : P.underlying t = some (.slice e)) (hi : P.info? e = some i) (hz : i.zero = some z)
    (hsize : i.size = size) (hby : i.bytes = bytes) (hzs : z.cells.size = size) (hsz : 0 < size)
    (v : Value) (n : Nat) (xs : List Value) (hs : a.eval s = v) (hown : w.ownsRow base e size v n xs)
    (ad : Addr) (m c : Nat) (news : List Value) (hx : a.eval x = .slice (some ad) m c) (hl : news.length = m * size) (hnews : ∀ j u, news[j]? = some u → w.cell? (ad.add j) = some u) (h1 : ∀ u ∈ news, u.oneCell' = true)
    (h63 : n + m ≤ maxLen) (hbytes : (n + m) * bytes ≤ 140737488355328) (hbase : base ≤ w.heap.size)
    (hK : ∀ v' w', w'.ownsRow base e size v' (n + m) (xs ++ news) → w.grownBy w' v.ownBlock → (v'.ownBlock = v.ownBlock ∨ v'.ownBlock = some w.heap.size) → K (a.put o.dst v') w') :
    if Region.wanted o (yielded ops a.tmps) = true then Oper.wp P o a w K Q else E := by
  have hw : Region.wanted o (yielded ops a.tmps) = true := by simp [Region.wanted, hgd]
  rw [if_pos hw]
  obtain ⟨v', w', hr, h2, h3, h4, h5⟩ := run_append_own_at (P := P) w base t o.type e i z size bytes ht hi hz hsize hby hzs hsz v n xs hown ad m c news hl hnews h1 h63 hbytes hbase
  unfold Oper.wp execOp
  simp only [ho, resolve, invoke, builtin, Sem.run_bind, Sem.run_pure, Result.andThen_ok, List.map_toArray, List.map_cons, List.map_nil, hs, hx, hr]
  exact hK v' w' h2 h3 h5
theorem own_form {w : World} {B e k n : Nat} {v : Value} {xs : List Value} (h : w.ownsRow B e k v (n + 1) xs) : ∃ g cap, v = .slice (some ⟨g, 0, none⟩) (n + 1) cap := by
  rcases h.2 with ⟨_, h0⟩ | ⟨g, cap, cur, hv, _⟩
  · omega
  · exact ⟨g, cap, hv⟩
theorem Tryd.info48 : (Tryd.prog.info? 48).map (fun i => (i.zero, i.size, i.bytes)) = some (some (.agg #[.int .i64 0, .int .i64 0, .int .u64 0, .int .u64 0, .int .u64 0, .int .u64 0]), 6, 48) := by kernel_rfl
theorem plC_len (p : Pl) : (plC p).length = 6 := rfl
theorem pl_news {W : World} {b : Nat} {p : Pl} (h : W.heap[b]? = some (.cells #[.int .i64 p.1, .int .i64 p.2.1, .int .u64 p.2.2, .int .u64 0, .int .u64 0, .int .u64 0] 48)) : ∀ j u, (plC p)[j]? = some u → W.cell? ((⟨b, 0, none⟩ : Addr).add j) = some u := by
  intro j u hj
  match j, hj with
  | 0, hj => simp [plC] at hj; subst hj; simp [Addr.add, World.cell?, h]
  | 1, hj => simp [plC] at hj; subst hj; simp [Addr.add, World.cell?, h]
  | 2, hj => simp [plC] at hj; subst hj; simp [Addr.add, World.cell?, h]
  | 3, hj => simp [plC] at hj; subst hj; simp [Addr.add, World.cell?, h]
  | 4, hj => simp [plC] at hj; subst hj; simp [Addr.add, World.cell?, h]
  | 5, hj => simp [plC] at hj; subst hj; simp [Addr.add, World.cell?, h]
  | j + 6, hj => simp [plC] at hj
theorem pl_one (p : Pl) : ∀ u ∈ plC p, u.oneCell' = true := by
  intro u hu
  simp only [plC, List.mem_cons, List.not_mem_nil, or_false] at hu
  rcases hu with rfl | rfl | rfl | rfl | rfl | rfl <;> rfl
/-- A pass under way: w0: the world at the pass's call. -/
structure PS (w0 w : World) (q f u : Nat) (now : Int) (vs vp : Value) (ss pp : List Pl) (F : Int → Nat) (len : Nat) (H : Int) : Prop where
  pass : PassB w q f now vs vp
  prof : ∃ l g cap, IsProf w f u l g cap ∧ Lay l now 2199023255552 F ∧ l.length ≤ len ∧ ∀ s ∈ l, s.1 ≤ H
  starts : RowOf 48 6 plC w w0.heap.size vs ss
  plans : RowOf 48 6 plC w w0.heap.size vp pp
  apart : ∀ b, vs.ownBlock = some b → vp.ownBlock ≠ some b
  below : Below w0.heap.size w0 w
  qge : w0.heap.size ≤ q
  fge : w0.heap.size ≤ f
theorem PS.later {w0 w w' : World} {q f u : Nat} {now : Int} {vs vp : Value} {ss pp : List Pl} {F : Int → Nat} {len : Nat} {H : Int} (h : PS w0 w q f u now vs vp ss pp F len H) (hb : Below w.heap.size w w') : PS w0 w' q f u now vs vp ss pp F len H := by
  obtain ⟨l, g, cap, h1, h2, h3, h4⟩ := h.prof
  exact ⟨h.pass.below hb, ⟨l, g, cap, h1.below hb, h2, h3, h4⟩, h.starts.below hb, h.plans.below hb, h.apart, h.below.trans (hb.mono h.below.size), h.qge, h.fge⟩
/-- The profile has been turned. -/
theorem PS.taken {w0 w w' : World} {q f u : Nat} {now b : Int} {vs vp : Value} {ss pp : List Pl} {F G : Int → Nat} {len : Nat} {H : Int} (h : PS w0 w q f u now vs vp ss pp F len H)
    {l : List St} (hlen : l.length ≤ len) (hH : ∀ s ∈ l, s.1 ≤ H) {e : Ending} {g cap : Nat} (hip : IsProf w f u l g cap) (ht : TakePost w f u l now b G e w') :
    e = .returned (.int .i64 0) ∧ PS w0 w' q f u now vs vp ss pp G (len + 2) (max H b) := by
  obtain ⟨rfl, ⟨l', g', cap', h1, h2, h3, h4⟩, he⟩ := ht
  have hf : w.heap[f]? = _ := hip.blk
  have hqf : q ≠ f := by
    intro e
    have hp := h.pass
    unfold PassB at hp
    rw [e, hf] at hp
    simp at hp
  have hsf := h.starts.other hf (by intro cur; simp)
  have hpf := h.plans.other hf (by intro cur; simp)
  refine ⟨rfl, ⟨?_, ⟨l', g', cap', h1, h2, by omega, h4 _ (fun s hs => by have := hH s hs; omega) (by omega)⟩, ?_, ?_, h.apart, ?_, h.qge, h.fge⟩⟩
  · unfold PassB
    rw [he.block q h.pass.lt hqf (by simp)]
    exact h.pass
  · exact h.starts.kept fun b hb => he.block b (h.starts.lt hb).2 (fun e => hsf (e ▸ hb)) (by simp)
  · exact h.plans.kept fun b hb => he.block b (h.plans.lt hb).2 (fun e => hpf (e ▸ hb)) (by simp)
  · exact he.below h.below h.below.size h.fge (fun k hk => by cases hk)
theorem PS.put_start {w0 W w3 : World} {q f u : Nat} {now : Int} {vs vp v' : Value} {ss pp : List Pl} {F : Int → Nat} {len : Nat} {H : Int} {p : Pl} (h : PS w0 W q f u now vs vp ss pp F len H)
    (hown : w3.ownsRow w0.heap.size 48 6 v' (ss.length + 1) (ss.flatMap plC ++ plC p)) (hg : W.grownBy w3 vs.ownBlock) (hloc : v'.ownBlock = vs.ownBlock ∨ v'.ownBlock = some W.heap.size) :
    PassB w3 q f now vs vp ∧ PS w0 (w3.setCell ⟨q, 2, none⟩ v') q f u now v' vp (ss ++ [p]) pp F len H := by
  have hq : W.heap[q]? = _ := h.pass
  have hsq := h.starts.other hq (by intro cur; simp)
  have hoq := h.plans.other hq (by intro cur; simp)
  have hpass : PassB w3 q f now vs vp := by
    unfold PassB
    rw [hg.block q h.pass.lt (fun e => hsq e.symm)]
    exact h.pass
  have hO : RowOf 48 6 plC w3 w0.heap.size v' (ss ++ [p]) := RowOf.snoc rfl hown
  have hrow : RowOf 48 6 plC w3 w0.heap.size vp pp := h.plans.kept fun b hb => hg.block b (h.plans.lt hb).2 (fun e => h.apart b e.symm hb)
  have hq3 : w3.heap[q]? = _ := hpass
  obtain ⟨l, g, cap, h1, h2, h3, h4⟩ := h.prof
  have hfB : Prof w3 f u (.slice (some ⟨g, 0, none⟩) l.length cap) := by
    unfold Prof
    rw [hg.block f h1.blk.lt (fun e => h.starts.other h1.blk (by intro cur; simp) e.symm)]
    exact h1.blk
  have hqf : f ≠ q := by
    intro e
    have hp := h1.blk
    unfold Prof at hp
    rw [e, hq] at hp
    simp at hp
  have hrowl : StRow w3 0 (.slice (some ⟨g, 0, none⟩) l.length cap) l := by
    refine RowOf.kept (c := stC) (k := 5) (e := 71) h1.row fun b hb => ?_
    refine hg.block b (h1.row.lt b hb).2 fun e => ?_
    rcases h1.row.2 with ⟨hx, _⟩ | ⟨g', c', cur, hx, _, hgg, _⟩
    · cases hx
    · rw [hx] at hb
      simp only [Value.ownBlock, Option.some.injEq] at hb
      subst hb
      exact h.starts.other hgg (by intro cur'; simp) e.symm
  refine ⟨hpass, ⟨?_, ⟨l, g, cap, ⟨?_, ?_, h1.some⟩, h2, h3, h4⟩, ?_, ?_, ?_, ?_, h.qge, h.fge⟩⟩
  · unfold PassB
    rw [heap_set4 _ _ _ _ _ _ hq3]
    rfl
  · unfold Prof
    rw [Below.heap_setCell _ _ _ _ hqf]
    exact hfB
  · exact ownsRow_setCell_other hrowl (by
      intro e
      rcases hrowl.2 with ⟨hx, _⟩ | ⟨g', c', cur, hx, _, hgg, _⟩
      · cases hx
      · rw [hx] at e
        simp only [Value.ownBlock, Option.some.injEq] at e
        subst e
        rw [hq3] at hgg
        simp at hgg) _
  · exact ownsRow_setCell_other hO (hO.other hq3 (by intro cur; simp)) _
  · exact ownsRow_setCell_other hrow (hrow.other hq3 (by intro cur; simp)) _
  · intro b hb hb'
    rcases hloc with hl | hl
    · exact h.apart b (hl ▸ hb) hb'
    · have := (h.plans.lt hb').2; rw [hl] at hb; cases hb; omega
  · exact (h.below.grown hg h.below.size (fun k hk => (h.starts.lt hk).1)).setCell h.qge _
theorem PS.put_later {w0 W w3 : World} {q f u : Nat} {now : Int} {vs vp v' : Value} {ss pp : List Pl} {F : Int → Nat} {len : Nat} {H : Int} {p : Pl} (h : PS w0 W q f u now vs vp ss pp F len H)
    (hown : w3.ownsRow w0.heap.size 48 6 v' (pp.length + 1) (pp.flatMap plC ++ plC p)) (hg : W.grownBy w3 vp.ownBlock) (hloc : v'.ownBlock = vp.ownBlock ∨ v'.ownBlock = some W.heap.size) :
    PassB w3 q f now vs vp ∧ PS w0 (w3.setCell ⟨q, 3, none⟩ v') q f u now vs v' ss (pp ++ [p]) F len H := by
  have hq : W.heap[q]? = _ := h.pass
  have hsq := h.plans.other hq (by intro cur; simp)
  have hoq := h.starts.other hq (by intro cur; simp)
  have hpass : PassB w3 q f now vs vp := by
    unfold PassB
    rw [hg.block q h.pass.lt (fun e => hsq e.symm)]
    exact h.pass
  have hO : RowOf 48 6 plC w3 w0.heap.size v' (pp ++ [p]) := RowOf.snoc rfl hown
  have hrow : RowOf 48 6 plC w3 w0.heap.size vs ss := h.starts.kept fun b hb => hg.block b (h.starts.lt hb).2 (fun e => h.apart b hb e.symm)
  have hq3 : w3.heap[q]? = _ := hpass
  obtain ⟨l, g, cap, h1, h2, h3, h4⟩ := h.prof
  have hfB : Prof w3 f u (.slice (some ⟨g, 0, none⟩) l.length cap) := by
    unfold Prof
    rw [hg.block f h1.blk.lt (fun e => h.plans.other h1.blk (by intro cur; simp) e.symm)]
    exact h1.blk
  have hqf : f ≠ q := by
    intro e
    have hp := h1.blk
    unfold Prof at hp
    rw [e, hq] at hp
    simp at hp
  have hrowl : StRow w3 0 (.slice (some ⟨g, 0, none⟩) l.length cap) l := by
    refine RowOf.kept (c := stC) (k := 5) (e := 71) h1.row fun b hb => ?_
    refine hg.block b (h1.row.lt b hb).2 fun e => ?_
    rcases h1.row.2 with ⟨hx, _⟩ | ⟨g', c', cur, hx, _, hgg, _⟩
    · cases hx
    · rw [hx] at hb
      simp only [Value.ownBlock, Option.some.injEq] at hb
      subst hb
      exact h.plans.other hgg (by intro cur'; simp) e.symm
  refine ⟨hpass, ⟨?_, ⟨l, g, cap, ⟨?_, ?_, h1.some⟩, h2, h3, h4⟩, ?_, ?_, ?_, ?_, h.qge, h.fge⟩⟩
  · unfold PassB
    rw [heap_set4 _ _ _ _ _ _ hq3]
    rfl
  · unfold Prof
    rw [Below.heap_setCell _ _ _ _ hqf]
    exact hfB
  · exact ownsRow_setCell_other hrowl (by
      intro e
      rcases hrowl.2 with ⟨hx, _⟩ | ⟨g', c', cur, hx, _, hgg, _⟩
      · cases hx
      · rw [hx] at e
        simp only [Value.ownBlock, Option.some.injEq] at e
        subst e
        rw [hq3] at hgg
        simp at hgg) _
  · exact ownsRow_setCell_other hrow (hrow.other hq3 (by intro cur; simp)) _
  · exact ownsRow_setCell_other hO (hO.other hq3 (by intro cur; simp)) _
  · intro b hb hb'
    rcases hloc with hl | hl
    · exact h.apart b hb (hl ▸ hb')
    · have := (h.starts.lt hb).2; rw [hl] at hb'; cases hb'; omega
  · exact (h.below.grown hg h.below.size (fun k hk => (h.plans.lt hk).1)).setCell h.qge _
def KeepPost_start (w0 : World) (q f u : Nat) (now : Int) (vp : Value) (ss pp : List Pl) (F : Int → Nat) (len : Nat) (H : Int) (e : Ending) (w' : World) : Prop :=
  e = .returned (.tuple #[]) ∧ ∃ v', PS w0 w' q f u now v' vp ss pp F len H
set_option maxHeartbeats 8000000 in
theorem keep_start {w0 w : World} {q f u : Nat} {now : Int} {vs vp : Value} {ss pp : List Pl} {F : Int → Nat} {len : Nat} {H : Int} (h : PS w0 w q f u now vs vp ss pp F len H) (hu : u < 256) (hFu : ∀ t, now ≤ t → SubS (F t) u) (h0 : 0 ≤ now) (hlen : len ≤ 2000) (hn : ss.length ≤ 20000)
    (wi : Wi) {t : Int} {S : Nat} (hS : S < 256) (ht0 : now ≤ t) (ht : t = now) (hw1 : 1 ≤ wi.long) (hb : t + wi.long ≤ 1099511627776) (hfree : SubS S (inter F t wi.long)) :
    Calls Tryd.prog 14 #[.pointer (some ⟨q, 0, none⟩), plV wi.id t S, wiV wi] w (KeepPost_start w0 q f u now vp (ss ++ [(wi.id, t, S)]) pp (taken F S t wi.long) (len + 2) (max H (t + wi.long))) := by
  subst ht
  have hB1 := below_alloc' w (.cells #[.int .i64 wi.id, .int .i64 t, .int .u64 S, .int .u64 0, .int .u64 0, .int .u64 0] 48)
  have hB2 := hB1.alloc (by simp) (.cells #[.int .i64 wi.id, .int .i64 wi.n, .int .i64 wi.long, .int .u64 wi.of, .int .u64 0, .int .u64 0, .int .u64 0] 41)
  have H2 := two w (.cells #[.int .i64 wi.id, .int .i64 t, .int .u64 S, .int .u64 0, .int .u64 0, .int .u64 0] 48) (.cells #[.int .i64 wi.id, .int .i64 wi.n, .int .i64 wi.long, .int .u64 wi.of, .int .u64 0, .int .u64 0, .int .u64 0] 41)
  have hp := show PlB _ w.heap.size wi.id t S from H2.1
  have hw := show WiB _ (w.heap.size + 1) wi from H2.2
  have h2 := h.later hB2
  obtain ⟨l, g, cap, hip, hlay, hll, hlH⟩ := h2.prof
  have htk := fun w' (hb' : Below _ _ w') => take_any (hip.below hb') hu hFu hlay h0 (by omega) hS ht0 hw1 (show t + (wi.long : Int) ≤ 2199023255552 by omega) hfree
  have HTK := Lib.hid htk
  have HPS := Lib.hid h2
  have HIP := Lib.hid hip
  have HLH := Lib.hid hlH
  obtain ⟨c0, c1, c2, c3⟩ := h2.pass.cells
  obtain ⟨x0, x1, x2, x3, x4, x5⟩ := hp.cells
  obtain ⟨y0, y1, y2, y3, y4, y5, y6⟩ := hw.cells
  have HP := Lib.hid hp
  have HXL := Lib.hid (show w.heap.size < _ from (Array.getElem?_eq_some_iff.1 hp).1)
  have HWI := Lib.hid hw
  have HYL := Lib.hid (show w.heap.size + 1 < _ from (Array.getElem?_eq_some_iff.1 hw).1)
  have hfx := hip.blk
  have hxf : f ≠ w.heap.size := by
    intro e
    unfold Prof at hfx
    unfold PlB at hp
    rw [e, hp] at hfx
    simp at hfx
  have hyf : f ≠ w.heap.size + 1 := by
    intro e
    unfold Prof at hfx
    unfold WiB at hw
    rw [e, hw] at hfx
    simp at hfx
  have ew : IntKind.i64.wrap (t + (wi.long : Int)) = t + (wi.long : Int) := IntWalk.i64_in _ (by omega)
  unfold wiV plV
  clear hB1 hB2 H2 hw hp h h2 htk hip hlay hlH hFu hfx
  go_enter Tryd.func14, Tryd.ntmps14
  go_wp2_with fail
  generalize hW2 : (w.alloc (.cells #[.int .i64 wi.id, .int .i64 t, .int .u64 S, .int .u64 0, .int .u64 0, .int .u64 0] 48)).alloc (.cells #[.int .i64 wi.id, .int .i64 wi.n, .int .i64 wi.long, .int .u64 wi.of, .int .u64 0, .int .u64 0, .int .u64 0] 41) = W at *
  clear hW2
  go_region_held3 (fun w' => w'.cell? ⟨q, 0, none⟩ = some (.pointer (some ⟨f, 0, none⟩)) ∧ w'.cell? ⟨q, 1, none⟩ = some (.int .i64 t) ∧ w'.cell? ⟨w.heap.size, 1, none⟩ = some (.int .i64 t) ∧ w'.cell? ⟨w.heap.size, 2, none⟩ = some (.int .u64 S) ∧ w'.cell? ⟨w.heap.size, 3, none⟩ = some (.int .u64 0) ∧ w'.cell? ⟨w.heap.size, 4, none⟩ = some (.int .u64 0) ∧ w'.cell? ⟨w.heap.size, 5, none⟩ = some (.int .u64 0) ∧ w'.cell? ⟨w.heap.size + 1, 2, none⟩ = some (.int .i64 wi.long))
    (first | exact ⟨c0, c1, x1, x2, x3, x4, x5, y2⟩ | assumption)
    (first | (go_at_call 18; refine (HTK.out _ (Below.refl _ _).drew).mono ?_; rintro e w3 htp; obtain ⟨rfl, hps3⟩ := (HPS.out.later (Below.refl _ _).drew).taken (by exact hll) HLH.out (HIP.out.below (Below.refl _ _).drew) htp; have hp3 : PlB w3 w.heap.size wi.id t S := (by unfold PlB; rw [htp.2.2.block _ HXL.out (fun e => hxf e.symm) (by simp)]; exact HP.out); have hw3 : WiB w3 (w.heap.size + 1) wi := (by unfold WiB; rw [htp.2.2.block _ HYL.out (fun e => hyf e.symm) (by simp)]; exact HWI.out); have HPS3 := Lib.hid hps3; have HP3 := Lib.hid hp3; obtain ⟨c0, c1, c2, c3⟩ := hps3.pass.cells; obtain ⟨x0, x1, x2, x3, x4, x5⟩ := hp3.cells; obtain ⟨y0, y1, y2, y3, y4, y5, y6⟩ := hw3.cells; clear htp hps3 hp3 hw3))
  rename_i hHeld
  clear hHeld y0 y1 y2 y3 y4 y5 y6
  obtain ⟨i0, hi, hz0, hz1, hz2⟩ := info_parts Tryd.info48
  go_wp2_with fail
  go_region_held3 (fun w' => w'.cell? ⟨q, 1, none⟩ = some (.int .i64 t) ∧ w'.cell? ⟨w.heap.size, 1, none⟩ = some (.int .i64 t))
    (first | exact ⟨c1, x1⟩ | assumption) (fail)
  rename_i hHeld
  clear hHeld
  go_wp2_with fail
  have hps4 : PS w0 w3.drew q f u t vs vp ss pp (taken F S t wi.long) (len + 2) (max H (t + (wi.long : Int))) := HPS3.out.later (Below.refl _ _).drew
  have hp4 : PlB w3.drew w.heap.size wi.id t S := HP3.out
  generalize w3.drew = W3 at *
  obtain ⟨c0, c1, c2, c3⟩ := hps4.pass.cells
  obtain ⟨x0, x1, x2, x3, x4, x5⟩ := hp4.cells
  have hpA : PS w0 (W3.alloc (.cells #[.int .i64 wi.id, .int .i64 t, .int .u64 S, .int .u64 0, .int .u64 0, .int .u64 0] 48)).drew q f u t vs vp ss pp (taken F S t wi.long) (len + 2) (max H (t + (wi.long : Int))) := hps4.later ((Below.refl _ _).alloc (Nat.le_refl _) _).drew
  have HPA := Lib.hid hpA
  have HO := Lib.hid (show ((W3.alloc (.cells #[.int .i64 wi.id, .int .i64 t, .int .u64 S, .int .u64 0, .int .u64 0, .int .u64 0] 48)).drew).ownsRow w0.heap.size 48 6 vs ss.length (ss.flatMap plC) from hpA.starts)
  have HNW := Lib.hid (pl_news (p := (wi.id, t, S)) (show ((W3.alloc (.cells #[.int .i64 wi.id, .int .i64 t, .int .u64 S, .int .u64 0, .int .u64 0, .int .u64 0] 48)).drew).heap[W3.heap.size]? = _ from heap_alloc_new W3 _))
  have HBS := Lib.hid hpA.below.size
  obtain ⟨d0, d1, d2, d3⟩ := (show PassB (W3.alloc (.cells #[.int .i64 wi.id, .int .i64 t, .int .u64 S, .int .u64 0, .int .u64 0, .int .u64 0] 48)) q f t vs vp from hpA.pass).cells
  obtain ⟨n, hnn⟩ : ∃ n, ss.length = n := ⟨_, rfl⟩
  have HNN := Lib.hid hnn
  rw [hnn] at HO hn
  clear hpA hps4 hp4 hnn
  go_region_law (refine step_append_own rfl (.tmp 31) (.tmp 33) 43 rfl w0.heap.size 48 i0 (.agg #[.int .i64 0, .int .i64 0, .int .u64 0, .int .u64 0, .int .u64 0, .int .u64 0]) 6 48 Tryd.underlying43 hi hz0 hz1 hz2 rfl (by decide) vs n (ss.flatMap plC) (by simp [Act.eval]) HO.out ⟨W3.heap.size, 0, none⟩ 1 1 (plC (wi.id, t, S)) (by simp [Act.eval]) rfl HNW.out (pl_one _) (by unfold maxLen; omega) (by omega) HBS.out ?_; intro v' w5 hown hgrow hloc; obtain ⟨g5, cap5, rfl⟩ := own_form hown; obtain ⟨hq5, hps5⟩ := PS.put_start HPA.out (by rw [HNN.out]; exact hown) hgrow hloc; have HPS5 := Lib.hid hps5; obtain ⟨e0, e1, e2, e3⟩ := hq5.cells; have fq := hq5.frozen; clear hown hgrow hloc hq5 hps5)
  all_goals go_wp2_with fail
  all_goals exact bodyPost_end (v := .tuple #[]) (by simp [results, Tryd.results14, go_sem]) rfl ⟨rfl, _, HPS5.out⟩
def KeepPost_later (w0 : World) (q f u : Nat) (now : Int) (vs : Value) (ss pp : List Pl) (F : Int → Nat) (len : Nat) (H : Int) (e : Ending) (w' : World) : Prop :=
  e = .returned (.tuple #[]) ∧ ∃ v', PS w0 w' q f u now vs v' ss pp F len H
set_option maxHeartbeats 8000000 in
theorem keep_later {w0 w : World} {q f u : Nat} {now : Int} {vs vp : Value} {ss pp : List Pl} {F : Int → Nat} {len : Nat} {H : Int} (h : PS w0 w q f u now vs vp ss pp F len H) (hu : u < 256) (hFu : ∀ t, now ≤ t → SubS (F t) u) (h0 : 0 ≤ now) (hlen : len ≤ 2000) (hn : pp.length ≤ 20000)
    (wi : Wi) {t : Int} {S : Nat} (hS : S < 256) (ht0 : now ≤ t) (ht : ¬ t = now) (hw1 : 1 ≤ wi.long) (hb : t + wi.long ≤ 1099511627776) (hfree : SubS S (inter F t wi.long)) :
    Calls Tryd.prog 14 #[.pointer (some ⟨q, 0, none⟩), plV wi.id t S, wiV wi] w (KeepPost_later w0 q f u now vs ss (pp ++ [(wi.id, t, S)]) (taken F S t wi.long) (len + 2) (max H (t + wi.long))) := by
  have ht1 : (t == now) = false := by simpa using ht
  have hB1 := below_alloc' w (.cells #[.int .i64 wi.id, .int .i64 t, .int .u64 S, .int .u64 0, .int .u64 0, .int .u64 0] 48)
  have hB2 := hB1.alloc (by simp) (.cells #[.int .i64 wi.id, .int .i64 wi.n, .int .i64 wi.long, .int .u64 wi.of, .int .u64 0, .int .u64 0, .int .u64 0] 41)
  have H2 := two w (.cells #[.int .i64 wi.id, .int .i64 t, .int .u64 S, .int .u64 0, .int .u64 0, .int .u64 0] 48) (.cells #[.int .i64 wi.id, .int .i64 wi.n, .int .i64 wi.long, .int .u64 wi.of, .int .u64 0, .int .u64 0, .int .u64 0] 41)
  have hp := show PlB _ w.heap.size wi.id t S from H2.1
  have hw := show WiB _ (w.heap.size + 1) wi from H2.2
  have h2 := h.later hB2
  obtain ⟨l, g, cap, hip, hlay, hll, hlH⟩ := h2.prof
  have htk := fun w' (hb' : Below _ _ w') => take_any (hip.below hb') hu hFu hlay h0 (by omega) hS ht0 hw1 (show t + (wi.long : Int) ≤ 2199023255552 by omega) hfree
  have HTK := Lib.hid htk
  have HPS := Lib.hid h2
  have HIP := Lib.hid hip
  have HLH := Lib.hid hlH
  obtain ⟨c0, c1, c2, c3⟩ := h2.pass.cells
  obtain ⟨x0, x1, x2, x3, x4, x5⟩ := hp.cells
  obtain ⟨y0, y1, y2, y3, y4, y5, y6⟩ := hw.cells
  have HP := Lib.hid hp
  have HXL := Lib.hid (show w.heap.size < _ from (Array.getElem?_eq_some_iff.1 hp).1)
  have HWI := Lib.hid hw
  have HYL := Lib.hid (show w.heap.size + 1 < _ from (Array.getElem?_eq_some_iff.1 hw).1)
  have hfx := hip.blk
  have hxf : f ≠ w.heap.size := by
    intro e
    unfold Prof at hfx
    unfold PlB at hp
    rw [e, hp] at hfx
    simp at hfx
  have hyf : f ≠ w.heap.size + 1 := by
    intro e
    unfold Prof at hfx
    unfold WiB at hw
    rw [e, hw] at hfx
    simp at hfx
  have ew : IntKind.i64.wrap (t + (wi.long : Int)) = t + (wi.long : Int) := IntWalk.i64_in _ (by omega)
  unfold wiV plV
  clear hB1 hB2 H2 hw hp h h2 htk hip hlay hlH hFu hfx
  go_enter Tryd.func14, Tryd.ntmps14
  go_wp2_with fail
  generalize hW2 : (w.alloc (.cells #[.int .i64 wi.id, .int .i64 t, .int .u64 S, .int .u64 0, .int .u64 0, .int .u64 0] 48)).alloc (.cells #[.int .i64 wi.id, .int .i64 wi.n, .int .i64 wi.long, .int .u64 wi.of, .int .u64 0, .int .u64 0, .int .u64 0] 41) = W at *
  clear hW2
  go_region_held3 (fun w' => w'.cell? ⟨q, 0, none⟩ = some (.pointer (some ⟨f, 0, none⟩)) ∧ w'.cell? ⟨q, 1, none⟩ = some (.int .i64 now) ∧ w'.cell? ⟨w.heap.size, 1, none⟩ = some (.int .i64 t) ∧ w'.cell? ⟨w.heap.size, 2, none⟩ = some (.int .u64 S) ∧ w'.cell? ⟨w.heap.size, 3, none⟩ = some (.int .u64 0) ∧ w'.cell? ⟨w.heap.size, 4, none⟩ = some (.int .u64 0) ∧ w'.cell? ⟨w.heap.size, 5, none⟩ = some (.int .u64 0) ∧ w'.cell? ⟨w.heap.size + 1, 2, none⟩ = some (.int .i64 wi.long))
    (first | exact ⟨c0, c1, x1, x2, x3, x4, x5, y2⟩ | assumption)
    (first | (go_at_call 18; refine (HTK.out _ (Below.refl _ _).drew).mono ?_; rintro e w3 htp; obtain ⟨rfl, hps3⟩ := (HPS.out.later (Below.refl _ _).drew).taken (by exact hll) HLH.out (HIP.out.below (Below.refl _ _).drew) htp; have hp3 : PlB w3 w.heap.size wi.id t S := (by unfold PlB; rw [htp.2.2.block _ HXL.out (fun e => hxf e.symm) (by simp)]; exact HP.out); have hw3 : WiB w3 (w.heap.size + 1) wi := (by unfold WiB; rw [htp.2.2.block _ HYL.out (fun e => hyf e.symm) (by simp)]; exact HWI.out); have HPS3 := Lib.hid hps3; have HP3 := Lib.hid hp3; obtain ⟨c0, c1, c2, c3⟩ := hps3.pass.cells; obtain ⟨x0, x1, x2, x3, x4, x5⟩ := hp3.cells; obtain ⟨y0, y1, y2, y3, y4, y5, y6⟩ := hw3.cells; clear htp hps3 hp3 hw3))
  rename_i hHeld
  clear hHeld y0 y1 y2 y3 y4 y5 y6
  obtain ⟨i0, hi, hz0, hz1, hz2⟩ := info_parts Tryd.info48
  go_wp2_with fail
  go_region_held3 (fun w' => w'.cell? ⟨q, 1, none⟩ = some (.int .i64 now) ∧ w'.cell? ⟨w.heap.size, 1, none⟩ = some (.int .i64 t))
    (first | exact ⟨c1, x1⟩ | assumption) (fail)
  rename_i hHeld
  clear hHeld
  go_wp2_with fail
  have hps4 : PS w0 w3.drew q f u now vs vp ss pp (taken F S t wi.long) (len + 2) (max H (t + (wi.long : Int))) := HPS3.out.later (Below.refl _ _).drew
  have hp4 : PlB w3.drew w.heap.size wi.id t S := HP3.out
  generalize w3.drew = W3 at *
  obtain ⟨c0, c1, c2, c3⟩ := hps4.pass.cells
  obtain ⟨x0, x1, x2, x3, x4, x5⟩ := hp4.cells
  have hpA : PS w0 (W3.alloc (.cells #[.int .i64 wi.id, .int .i64 t, .int .u64 S, .int .u64 0, .int .u64 0, .int .u64 0] 48)).drew q f u now vs vp ss pp (taken F S t wi.long) (len + 2) (max H (t + (wi.long : Int))) := hps4.later ((Below.refl _ _).alloc (Nat.le_refl _) _).drew
  have HPA := Lib.hid hpA
  have HO := Lib.hid (show ((W3.alloc (.cells #[.int .i64 wi.id, .int .i64 t, .int .u64 S, .int .u64 0, .int .u64 0, .int .u64 0] 48)).drew).ownsRow w0.heap.size 48 6 vp pp.length (pp.flatMap plC) from hpA.plans)
  have HNW := Lib.hid (pl_news (p := (wi.id, t, S)) (show ((W3.alloc (.cells #[.int .i64 wi.id, .int .i64 t, .int .u64 S, .int .u64 0, .int .u64 0, .int .u64 0] 48)).drew).heap[W3.heap.size]? = _ from heap_alloc_new W3 _))
  have HBS := Lib.hid hpA.below.size
  obtain ⟨d0, d1, d2, d3⟩ := (show PassB (W3.alloc (.cells #[.int .i64 wi.id, .int .i64 t, .int .u64 S, .int .u64 0, .int .u64 0, .int .u64 0] 48)) q f now vs vp from hpA.pass).cells
  obtain ⟨n, hnn⟩ : ∃ n, pp.length = n := ⟨_, rfl⟩
  have HNN := Lib.hid hnn
  rw [hnn] at HO hn
  clear hpA hps4 hp4 hnn
  go_region_law (refine step_append_own rfl (.tmp 41) (.tmp 43) 43 rfl w0.heap.size 48 i0 (.agg #[.int .i64 0, .int .i64 0, .int .u64 0, .int .u64 0, .int .u64 0, .int .u64 0]) 6 48 Tryd.underlying43 hi hz0 hz1 hz2 rfl (by decide) vp n (pp.flatMap plC) (by simp [Act.eval]) HO.out ⟨W3.heap.size, 0, none⟩ 1 1 (plC (wi.id, t, S)) (by simp [Act.eval]) rfl HNW.out (pl_one _) (by unfold maxLen; omega) (by omega) HBS.out ?_; intro v' w5 hown hgrow hloc; obtain ⟨g5, cap5, rfl⟩ := own_form hown; obtain ⟨hq5, hps5⟩ := PS.put_later HPA.out (by rw [HNN.out]; exact hown) hgrow hloc; have HPS5 := Lib.hid hps5; obtain ⟨e0, e1, e2, e3⟩ := hq5.cells; have fq := hq5.frozen; clear hown hgrow hloc hq5 hps5)
  all_goals go_wp2_with fail
  all_goals exact bodyPost_end (v := .tuple #[]) (by simp [results, Tryd.results14, go_sem]) rfl ⟨rfl, _, HPS5.out⟩
end Go.Proofs.YtnnkibdjbodncaaDoor
