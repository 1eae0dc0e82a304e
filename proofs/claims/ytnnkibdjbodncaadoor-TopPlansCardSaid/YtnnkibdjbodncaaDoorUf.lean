/- A full pass: the walk. Conditions: a scene that is right; few runs and wishes; times below 2^32. -/
import Derived.Test.YtnnkibdjbodncaaDoorUe
import Derived.WalkMore
namespace Go.Proofs.YtnnkibdjbodncaaDoor
open Go.RowKit
set_option maxHeartbeats 16000000 in
theorem pass_any {w : World} {u : Nat} {now : Int} {rs : List Ru} {ws : List Wi} {vr vp : Value} (hu : u < 256) (hR : RightSc u now rs ws) (hr : Reads 5 ruC w vr rs) (hw : Reads 7 wiC w vp ws) (hT : Tab w) (hnow : now ≤ 4294967296) (hend : ∀ r ∈ rs, r.2 ≤ 4294967296) (hfew : ws.length ≤ 500) :
    Calls Tryd.prog 7 #[.agg #[.int .i64 now, .int .u64 u, .int .u64 0, .int .u64 0, .int .u64 0, vr, vp], .int .i64 2] w (PassPost w u now rs ws) := by
  have hn := hR.few
  have h0 := hR.now0
  obtain ⟨n, hnn⟩ : ∃ n, rs.length = n := ⟨_, rfl⟩
  obtain ⟨m, hmm⟩ : ∃ m, ws.length = m := ⟨_, rfl⟩
  have HNN := Lib.hid hnn
  have HMM := Lib.hid hmm
  rw [hnn] at hn
  rw [hmm] at hfew
  obtain ⟨ao, cap, rfl, hcap, _⟩ := id hr
  obtain ⟨ao2, cap2, rfl, hcap2, _⟩ := id hw
  rw [hnn] at hcap hr ⊢
  rw [hmm] at hcap2 hw ⊢
  have hX : ScB (w.alloc (.cells #[.int .i64 now, .int .u64 u, .int .u64 0, .int .u64 0, .int .u64 0, .slice ao n cap, .slice ao2 m cap2] 32)) w.heap.size now u (.slice ao n cap) (.slice ao2 m cap2) := heap_alloc_new w _
  have hB1 := below_alloc' w (.cells #[.int .i64 now, .int .u64 u, .int .u64 0, .int .u64 0, .int .u64 0, .slice ao n cap, .slice ao2 m cap2] 32)
  have HRT := Lib.hid (right_any hu hR (hr.below hB1) (hw.below hB1))
  have hr1 := hr.below hB1
  have hw1 := hw.below hB1
  have hT1 := hT.below hB1
  have HX := Lib.hid hX
  have HB1 := Lib.hid hB1
  have HR := Lib.hid hR
  obtain ⟨x0, x1, x2, x3, x4, x5, x6⟩ := hX.cells
  have hsz : (w.alloc (.cells #[.int .i64 now, .int .u64 u, .int .u64 0, .int .u64 0, .int .u64 0, .slice ao n cap, .slice ao2 m cap2] 32)).heap.size = w.heap.size + 1 := by simp
  have HR1 := Lib.hid hr1
  have HW1 := Lib.hid hw1
  have HT1 := Lib.hid hT1
  have HE := Lib.hid hend
  clear hX hB1 hnn hmm hR hr1 hw1 hT1 hT hr hend
  go_enter Tryd.func7, Tryd.ntmps7
  go_wp2_with fail
  go_step3
  go_wp2_with (first
    | (go_at_call 11; refine HRT.out.mono ?_; rintro e w2 ⟨rfl, hb2⟩; have hX2 := HX.out.below hb2; have HX2 := Lib.hid hX2; obtain ⟨x0, x1, x2, x3, x4, x5, x6⟩ := hX2.cells; have HR2 := Lib.hid (HR1.out.below hb2); have HW2 := Lib.hid (HW1.out.below hb2); have HT2 := Lib.hid (HT1.out.below hb2); have HB2 := Lib.hid (HB1.out.trans (hb2.mono HB1.out.size)); have HX2L := Lib.hid (hX2.lt); clear hb2 hX2)
    | (go_at_call 12; refine (begin_any hu HR.out.sc h0 HR.out.nowH HR2.out (by rw [HNN.out]; omega) (fun r hr => by have := HE.out r hr; omega)).mono ?_; rintro e w3 hbeg; obtain ⟨q, f, l, g, cap, rfl, hp, hip, hlay, hll, hti, hb3, hq, hf⟩ := hbeg; have hX3 := HX2.out.below hb3; obtain ⟨x0, x1, x2, x3, x4, x5, x6⟩ := hX3.cells; have HW3 := Lib.hid (HW2.out.below hb3); have HT3 := Lib.hid (HT2.out.below hb3); have HPL := Lib.hid (show PL w2 w3 q f u now (runF u rs) ws n 0 (.slice none 0 0) (.slice none 0 0) [] (runF u rs) from ⟨⟨hp, ⟨l, g, cap, hip, hlay, by rw [HNN.out] at hll; omega, fun s hs => by have := hti 4294967296 hnow HE.out s hs; omega⟩, RowOf.nil _ _, RowOf.nil _ _, by simp [Value.ownBlock], hb3, hq, hf⟩, Made.start _ _ _, fun t => runF_sub hu HR.out.sc.small t⟩); clear hX3 hp hip hlay hll hti hb3 hq hf))
  go_step3
  go_wp2_with fail
  clear x0 x1 x2 x3 x4 x5 x6 HRT HR1 HW1 HT1 HX HB1 hsz hw HW3 HT3
  go_loopw [30] (fun i wr => ∃ (j : Nat) (vs vp : Value) (ps : List (Option (Int × Nat))) (F : Int → Nat), i = .int .i64 j ∧ j ≤ m ∧ PL w2 wr q f u now (runF u rs) ws n j vs vp ps F) (fun i _ => m - (intOf i).toNat)
  case atStart => exact ⟨0, _, _, _, _, rfl, Nat.zero_le _, HPL.out⟩
  case round =>
    obtain ⟨j, vs, vp, ps, F, rfl, hj, hpl⟩ := hrel
    have HPJ := Lib.hid hpl
    clear hpl
    by_cases hjm : j < m
    · obtain ⟨x, hx⟩ : ∃ x, ws[j]? = some x := ⟨ws[j]'(by have := HMM.out; omega), List.getElem?_eq_getElem (by have := HMM.out; omega)⟩
      obtain ⟨ao', cap', he, _, hc⟩ := HW2.out
      simp only [Value.slice.injEq] at he
      obtain ⟨rfl, -, rfl⟩ := he
      obtain ⟨gr, rfl, hgr, hcr⟩ := hc j x hx
      obtain ⟨c0, c1, c2, c3, c4, c5, c6⟩ := wi_cells (w := wr) (g := gr) (i := j) (r := x) (fun i v hi => by
        rw [HPJ.out.st.below.cell (p := ⟨gr, _, none⟩) hgr]; exact hcr i v hi)
      obtain ⟨i1, i2, n1, n2, l1, l2, o1⟩ := HR.out.wish x (List.mem_of_getElem? hx)
      have hst := HPJ.out.st.later (below_alloc' wr (.cells #[.int .i64 x.id, .int .i64 x.n, .int .i64 x.long, .int .u64 x.of, .int .u64 0, .int .u64 0, .int .u64 0] 41))
      obtain ⟨lj, gj, cj, hip, hlay, hll, hlH⟩ := hst.prof
      have hplan := plan_any x hst.pass hip hu (fun t _ => HPJ.out.up t) hlay h0 (by omega) l1 (by omega) n2 o1 (fun s hs => by have := hlH s hs; omega) ((HT2.out.below HPJ.out.st.below).below (below_alloc' wr _))
      unfold wiV at hplan
      have HPN := Lib.hid hplan
      have HST := Lib.hid hst
      have HX := Lib.hid hx
      have HLH := Lib.hid hlH
      have HXB := Lib.hid (show WiB (wr.alloc (.cells #[.int .i64 x.id, .int .i64 x.n, .int .i64 x.long, .int .u64 x.of, .int .u64 0, .int .u64 0, .int .u64 0] 41)) wr.heap.size x from heap_alloc_new wr _)
      clear hplan hst hip hlay hx hcr hc hlH
      go_wp2_with (go_at_call 13; refine HPN.out.mono ?_; rintro e w4 hpo; obtain ⟨hb4, id, t, S, b, rfl, HP4⟩ := plan_one hpo; have HST4 := Lib.hid (HST.out.later hb4); have hX4 := HXB.out.below hb4; have HX4 := Lib.hid hX4; clear hpo hb4 hX4)
      have hst5 := HST4.out.later (below_alloc' w4 (.cells #[.int .i64 id, .int .i64 t, .int .u64 S, .int .u64 0, .int .u64 0, .int .u64 0] 48))
      have hp5 : PlB (w4.alloc (.cells #[.int .i64 id, .int .i64 t, .int .u64 S, .int .u64 0, .int .u64 0, .int .u64 0] 48)) w4.heap.size id t S := heap_alloc_new w4 _
      have hx5 := HX4.out.below (below_alloc' w4 (.cells #[.int .i64 id, .int .i64 t, .int .u64 S, .int .u64 0, .int .u64 0, .int .u64 0] 48))
      generalize w4.alloc (.cells #[.int .i64 id, .int .i64 t, .int .u64 S, .int .u64 0, .int .u64 0, .int .u64 0] 48) = W5 at *
      have hsl := starts_len now (ws.take j) ps
      have hll := laterOf_len now (ws.take j) ps
      rw [List.length_take] at hsl hll
      obtain ⟨k0, k1, k2, k3⟩ := hst5.pass.cells
      obtain ⟨p0, p1, p2, p3, p4, p5⟩ := hp5.cells
      obtain ⟨y0, y1, y2, y3, y4, y5, y6⟩ := hx5.cells
      have HS5 := Lib.hid hst5
      clear hst5 hp5 hx5
      rcases HP4.out with ⟨rfl, rfl, hbest, s, hsm, hst'⟩ | ⟨rfl, hnone⟩
      · have htH := HLH.out s hsm
        rw [hst'] at htH
        have hfree := best_free hbest
        have hSs := hbest.low.small
        have htn := hbest.from_
        have HBT := Lib.hid hbest
        clear hbest hst' hsm
        by_cases ht : t = now
        · subst ht
          have hk := keep_start (HS5.out.later (Below.refl _ _).drew) hu (fun t _ => HPJ.out.up t) h0 (by omega) (by omega) x hSs (Int.le_refl _) rfl l1 (by omega) hfree
          unfold plV wiV at hk
          have HK := Lib.hid hk
          clear hk hfree hsl hll
          go_region_held3 (fun w' => w'.cell? ⟨q, 1, none⟩ = some (.int .i64 t) ∧ w'.cell? ⟨w4.heap.size, 1, none⟩ = some (.int .i64 t)) (first | exact ⟨k1, p1⟩ | assumption) (fail)
          rename_i hHeld
          clear hHeld
          go_wp2_with (go_at_call 14; refine HK.out.mono ?_; rintro e w6 ⟨rfl, v', hps6⟩)
          exact ⟨⟨j + 1, v', vp, ps ++ [some (t, S)], _, by go_num, by omega, HPJ.out.put_start HX.out HBT.out (by omega) (by omega) hps6⟩, by simp only [intOf]; omega⟩
        · have ht1 : (t == now) = false := by simpa using ht
          have hk := keep_later (HS5.out.later (Below.refl _ _).drew) hu (fun t _ => HPJ.out.up t) h0 (by omega) (by omega) x hSs htn ht l1 (by omega) hfree
          unfold plV wiV at hk
          have HK := Lib.hid hk
          have HNT := Lib.hid ht
          clear hk hfree hsl hll ht
          go_region_held3 (fun w' => w'.cell? ⟨q, 1, none⟩ = some (.int .i64 now) ∧ w'.cell? ⟨w4.heap.size, 1, none⟩ = some (.int .i64 t)) (first | exact ⟨k1, p1⟩ | assumption) (fail)
          rename_i hHeld
          clear hHeld
          go_wp2_with (first
            | (go_at_call 15; refine (rule_full q).mono ?_; rintro e w6 ⟨rfl, rfl⟩)
            | (go_at_call 14; refine HK.out.mono ?_; rintro e w7 ⟨rfl, v', hps7⟩))
          exact ⟨⟨j + 1, vs, v', ps ++ [some (t, S)], _, by go_num, by omega, HPJ.out.put_later HX.out HNT.out HBT.out (by omega) (by omega) hps7⟩, by simp only [intOf]; omega⟩
      · have HNO := Lib.hid hnone
        clear hnone hsl hll
        go_region
        all_goals go_wp2_with (go_at_call 15; refine (rule_full q).mono ?_; rintro e w6 ⟨rfl, rfl⟩)
        all_goals exact ⟨⟨j + 1, vs, vp, ps ++ [none], F, by go_num, by omega, HPJ.out.put_none HX.out (HS5.out.later (Below.refl _ _).drew) HNO.out⟩, by simp only [intOf]; omega⟩
    · obtain rfl : j = m := by omega
      have hst := HPJ.out.st
      have hmade := HPJ.out.made
      obtain ⟨k0, k1, k2, k3⟩ := hst.pass.cells
      have HST := Lib.hid hst
      have HMD := Lib.hid hmade
      clear hst hmade
      go_wp2_with fail
      go_region_held3 (fun w' => w'.cell? ⟨q, 2, none⟩ = some vs ∧ w'.cell? ⟨q, 3, none⟩ = some vp) (first | exact ⟨k2, k3⟩ | assumption) (fail)
      rename_i hHeld
      clear hHeld
      go_wp2_with fail
      have htk : ws.take j = ws := List.take_of_length_le (by have := HMM.out; omega)
      have hst := HST.out.later (Below.refl _ _).drew
      have hmade := HMD.out
      rw [htk] at hst
      rw [← HMM.out] at hmade
      have hs1 := hst.starts.mono HB2.out.size
      have hs2 := hst.plans.mono HB2.out.size
      refine bodyPost_ret (v := .tuple #[vs, vp, .int .i64 0]) (by simp [results, Tryd.results7, go_sem]) rfl ⟨vs, vp, ps, rfl, hmade.done, hs1, hs2, hst.apart, HB2.out.trans (hst.below.mono HB2.out.size)⟩
end Go.Proofs.YtnnkibdjbodncaaDoor
