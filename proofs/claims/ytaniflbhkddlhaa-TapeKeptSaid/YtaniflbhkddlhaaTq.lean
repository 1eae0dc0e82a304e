/- The law TapeKept, walked. No condition. -/
import Derived.Test.YtaniflbhkddlhaaTp
import Derived.Laws.BitsAllLaws
namespace Go.Proofs.Ytaniflbhkddlhaa
open Go.RowKit
set_option maxHeartbeats 16000000 in
set_option maxRecDepth 100000 in
theorem kept_any (ao : Option Addr) (ca n q : Nat) (ls : List Loss) (w : World) (h : Losses w ao ca ls) (hn : ls.length = n) (hmn : (if (100 : Int) < (n : Int) then (100 : Int) else (n : Int)) = (q : Int)) :
    Calls Try.prog 10 #[.slice ao n ca] w (TruePost w) := by
  have L := Lib.hid h
  have HN := Lib.hid hn
  have hqn : q ≤ n := by split at hmn <;> omega
  have hq1 : q ≤ 100 := by split at hmn <;> omega
  have hcl := h.cap_le
  have hcm := h.max
  have hqc : q ≤ ca := by omega
  have hqi : (q : Int) ≤ (ca : Int) := by omega
  clear h hn hcl
  go_enter Try.func10, Try.ntmps10
  go_wp2_with (first | (go_at_call 27; refine (tnew_any w).mono ?_; rintro e w1 ⟨g, rfl, hT1, hb1, hg⟩; have T1 := Lib.hid hT1; have B1 := Lib.hid hb1; have G := Lib.hid hg; clear hT1 hb1 hg) | (go_at_call 28; refine (talive_any _).mono ?_; rintro e w8 ⟨rfl, hb8⟩; have T8 := Lib.hid (T1.out.below hb8); have B8 := Lib.hid (st_below B1.out hb8); clear hb8 T1 B1))
  go_loopw [4, 26] (fun v i wr => ∃ (k : Nat) (W : List (List Int)), k ≤ q ∧ i = .int .i64 k ∧ OwnS wr w.heap.size v W ∧ W.length ≤ k ∧ Short W ∧ TapeZ wr g false (-1) (layL W) (layL W).length (fun q => v.ownBlock = some q) ∧ Below w.heap.size w wr) (fun _ i _ => q - (intOf i).toNat)
  case atStart => exact ⟨0, [], by omega, rfl, OwnS.nil _ _, by simp, (fun r hr => by cases hr), T8.out.z (fun q hq => by simp [Value.ownBlock] at hq), B8.out⟩
  case round =>
    obtain ⟨k, W, hk, rfl, hown, hWk, hW, hT, hbel⟩ := hrel
    have hk1 : (0 : Int) ≤ (k : Int) := by omega
    have HB := Lib.hid hbel
    clear T8 B8
    by_cases hlt : k < q
    · obtain ⟨b0, o0, rfl, hL⟩ := L.out.cells k (by rw [HN.out]; omega)
      obtain ⟨x, hx⟩ : ∃ x, ls.getD k noLoss = x := ⟨_, rfl⟩
      rw [hx] at hL
      clear hx
      obtain ⟨Bl, fu, ke⟩ := x
      obtain ⟨bo, bc, q0, q1, q2, hBs, hfu9⟩ := hL
      simp only at q0 q1 q2 hBs hfu9
      rw [Addr.add_lit] at q1 q2
      have c0 := (hbel.cell (block_lt_of_cell q0)).trans q0
      have c1 := (hbel.cell (block_lt_of_cell q1)).trans q1
      have c2 := (hbel.cell (block_lt_of_cell q2)).trans q2
      have hbn9 := hBs.len_le
      obtain ⟨bn, hbn⟩ : ∃ bn, Bl.length = bn := ⟨_, rfl⟩
      rw [hbn] at c0 hbn9
      have HBN := Lib.hid hbn
      have HX := Lib.hid hBs
      have hk0 : (k : Int) < (q : Int) := by omega
      by_cases hbig : (300 : Int) < (bn : Int)
      · clear hown hT hbel hW hBs hbn
        go_wp2_with fail
        go_ret
        exact ⟨rfl, st_below HB.out (below_alloc _ _)⟩
      · have hb3 : bn ≤ 300 := by omega
        have K0 := Lib.hid (keptW_new (n := bn) (fu := fu) (ke := ke) hbel hown hBs)
        have T0 := Lib.hid (hT.below (below_alloc wr (.cells #[.slice bo bn bc, .int .i64 fu, .int .i64 ke] 50)))
        have HVB := Lib.hid (fun q hq => (hown.lt q hq).2)
        have hgx := Nat.ne_of_gt hT.at.lt
        have HGX := Lib.hid hgx
        have HW := Lib.hid hW
        have hlay := short_lay W hW
        obtain ⟨vo, vc, rfl, -⟩ := hown.shape
        obtain ⟨wn, hwn⟩ : ∃ wn, W.length = wn := ⟨_, rfl⟩
        have HWN := Lib.hid hwn
        rw [hwn] at K0 T0 HVB hWk hlay ⊢
        obtain ⟨bW, hbW⟩ : ∃ b, layL W = b := ⟨_, rfl⟩
        have HBW := Lib.hid hbW
        rw [hbW] at T0 hlay
        have hel := encL_len Bl
        rw [hbn] at hel
        have HFIT := Lib.hid (show bW.length + (encL Bl).length ≤ 1048576 by omega)
        have HZ : Hid (∀ q, (Value.slice vo wn vc).ownBlock = some q → q < wr.heap.size) := HVB
        obtain ⟨m1, hm1⟩ : ∃ m1, wn + 1 = m1 := ⟨_, rfl⟩
        have HM1 := Lib.hid hm1
        clear hown hT hbel hW hBs hbn hwn hbW hgx q0 q1 q2
        by_cases hneg : fu < 0
        · have hfn : ¬ 0 ≤ fu := by omega
          go_wp2_with fail
          have hrs := rs_one K0.out.bytes HBN.out
          rw [World.size_alloc] at hrs
          have K1 := K0
          have T1 := T0
          clear K0 T0 c0 c1 c2
          have hlog := log_z _ g (-1) bW bW.length _ (T1.out.below (below_alloc _ (.cells #[.slice bo bn bc] 22))) (fun q hq => Nat.lt_of_lt_of_le (K1.out.own.lt q hq).2 (below_alloc _ _).size) _ _ 1 [Bl] hrs rfl (one_few HBN.out hb3)
          rw [kept_ok (-1) bW Bl HFIT.out (.inl rfl)] at hlog
          refine hlog.mono ?_
          rintro e w3 ⟨rfl, hT3, hbut3⟩
          have T3 := Lib.hid hT3
          have K3 := Lib.hid ((K1.out.on (below_alloc _ (.cells #[.slice bo bn bc] 22))).but (T1.out.at.below (below_alloc _ _)) G.out HGX.out hbut3)
          clear hrs hlog hT3 hbut3 K1 T1
          have d0 := K3.out.c0
          go_wp2_with (first
            | (at_builtin; refine wpList_apps _ rfl (.tmp 48) (.tmp 51) rfl w.heap.size _ W rfl (K3.out.own.kept (below_alloc w3 (.cells #[.slice bo bn bc] 22))) w3.heap.size 1 bn bo bc Bl rfl (by simp) HBN.out (K3.out.on (below_alloc w3 _)).bytes (bytes_apart K3.out.own HX.out (Nat.le_refl _)) (by rw [HWN.out]; omega) (Nat.le_trans K3.out.below.size (below_alloc w3 _).size) ?_; intro v' w4 q1 q2; have Q1 := Lib.hid q1; have K4 := Lib.hid ((K3.out.on (below_alloc w3 _)).app HZ.out HX.out q2 q1); have T4 := Lib.hid (tapeZ_apps (K3.out.own.kept (below_alloc w3 _)) (T3.out.below (below_alloc w3 _)) q2); obtain ⟨wo, wc, hv4, -⟩ := q1.shape; rw [List.length_append, HWN.out, List.length_singleton, HM1.out] at hv4; subst hv4; clear q1 q2 Q1 K3 T3)
            | (go_at_call 31; refine (ton_any _ _ _ _ _ _ T4.out).mono ?_; rintro e w' ⟨rfl, rfl⟩; simp only [Bool.not_false]))
          obtain ⟨W2, hW2⟩ : ∃ W2, W ++ [Bl] = W2 := ⟨_, rfl⟩
          have HALL := Lib.hid (show (allL (bW ++ encL Bl)).1 = W2 by rw [← HBW.out, ← layL_snoc, all_lay _ (HW.out.snoc (by rw [HBN.out]; exact hb3)).few, hW2])
          have HW2 := Lib.hid (show Short W2 from hW2 ▸ HW.out.snoc (by rw [HBN.out]; exact hb3))
          have HW2N := Lib.hid (show W2.length = m1 by rw [← hW2, List.length_append, HWN.out, List.length_singleton, HM1.out])
          rw [hW2] at K4
          clear hW2
          refine (tarm_any w4 g false _ (-1) _ _ T4.out (by omega)).mono ?_
          rintro e w5 ⟨rfl, hT5, hbut5⟩
          rw [show max (-1 : Int) (-1) = -1 from rfl] at hT5
          have T5 := Lib.hid hT5
          have K5 := Lib.hid (K4.out.but T4.out G.out HGX.out hbut5)
          clear hT5 hbut5 K4 T4
          go_wp2_with fail
          have hre := records_on w5 g (-1) _ _ T5.out
          rw [HALL.out] at hre
          refine hre.mono ?_
          rintro e w6 ⟨vl, rfl, hl6, hb6⟩
          have T6 := Lib.hid (T5.out.below hb6)
          have K6 := Lib.hid (K5.out.on hb6)
          have L6 := Lib.hid (hl6.s.mono K5.out.below.size)
          have LZ := Lib.hid (fun q hq => (hl6.s.lt q hq).1)
          clear hre hl6 hb6 K5 T5
          have hsl := L6.out.shape
          rw [HW2N.out] at hsl
          obtain ⟨lo, lc, rfl, hR6⟩ := hsl
          have hlc := hR6.cap_le
          rw [HW2N.out] at hlc
          have hlm := hR6.max
          have hls := lists_any lo wo lc wc m1 m1 (W2.take m1) W2 w6 (hR6.pre m1) K6.out.own.rs.1 (by rw [List.length_take, HW2N.out]; have := HM1.out; omega) K6.out.own.rs.2
          rw [decide_eq_true (show W2.take m1 = W2 from (List.take_of_length_le (by rw [HW2N.out]; exact Nat.le_refl _)))] at hls
          have HLS := Lib.hid hls
          have hm1 := HM1.out
          have t1 : ¬ (m1 : Int) < (m1 : Int) := by omega
          have t2 : ¬ (m1 : Int) + 1 < (m1 : Int) := by omega
          have t4 : (m1 : Int) ≤ (lc : Int) := by omega
          have t5 : (m1 : Int) ≤ 1000 := by omega

          have t6 : (0 : Int) ≤ (m1 : Int) := by omega

          clear hm1
          clear hls hR6
          go_wp2_with (go_at_call 25; refine HLS.out.mono ?_; rintro e w7 ⟨rfl, hb7⟩; have K7 := Lib.hid (K6.out.on hb7); have T7 := Lib.hid (T6.out.below hb7); have L7 := Lib.hid (L6.out.kept hb7); clear hb7 K6 T6 L6 HLS)
          go_loopw [10, 118] (fun v i wr2 => ∃ j : Nat, j ≤ m1 ∧ i = .int .i64 j ∧ OwnB wr2 w.heap.size v (layL (W2.take j)) ∧ Below w7.heap.size w7 wr2) (fun _ i _ => m1 - (intOf i).toNat)
          case atStart => exact ⟨0, by omega, rfl, OwnB.nil _ _, by first | exact Below.refl _ _ | exact below_dn' _ _⟩
          case round =>
            obtain ⟨j, hj, rfl, hv, hb8⟩ := hrel
            have hj1 : (0 : Int) ≤ (j : Int) := by omega
            have HB8 := Lib.hid hb8
            have hsz := Nat.le_trans K7.out.below.size hb8.size
            by_cases hjl : j < m1
            · obtain ⟨yb, yq, ya, yc', e1, hc1, hB1⟩ := (L7.out.rs.1.below hb8).cells j (by rw [HW2N.out]; exact hjl)
              cases e1
              have hji : (j : Int) < (m1 : Int) := by omega
              obtain ⟨qo, qc, rfl, hQ⟩ := hv.shape
              have HTK := Lib.hid (layL_take W2 j (by rw [HW2N.out]; exact hjl))
              have hle := lay_take_short HW2.out j (by rw [HW2N.out]; have := HM1.out; omega)
              have hfew := few_take HW2.out j (by rw [HW2N.out]; exact hjl)
              have HP := Lib.hid (put_any qo ya qc yc' _ _ (layL (W2.take j)) (W2.getD j []) _ hQ hB1 rfl rfl hfew (by omega))
              rw [← HTK.out] at HP
              clear hB1 hv hQ hle hb8 HTK
              obtain ⟨q', hq'⟩ : ∃ q', layL (W2.take (j + 1)) = q' := ⟨_, rfl⟩
              have HQ' := Lib.hid hq'
              rw [hq'] at HP
              clear hq'
              generalize (layL (W2.take j)).length = qn at *
              generalize (W2.getD j []).length = xn at *
              go_wp2_with fail
              refine HP.out.mono ?_
              rintro e w8 ⟨v, rfl, hv8, hb9⟩
              have HV := Lib.hid (hv8.mono hsz)
              have HB9 := Lib.hid (HB8.out.trans (hb9.mono HB8.out.size))
              clear hv8 hb9 HB8 HP
              go_wp2_with fail
              exact ⟨⟨j + 1, by omega, by go_num, by rw [HQ'.out]; exact HV.out, HB9.out⟩, by simp [intOf]; omega⟩
            · obtain rfl : j = m1 := by omega
              rw [List.take_of_length_le (by rw [HW2N.out]; exact Nat.le_refl _)] at hv
              obtain ⟨qo, qc, rfl, hQ⟩ := hv.shape
              have hlw := short_lay W2 HW2.out
              rw [HW2N.out] at hlw
              have HSW := Lib.hid (swap_z _ g _ _ (fun q => (Value.slice _ _ lc).ownBlock = some q) (T7.out.below hb8) (fun q hq => Nat.lt_of_lt_of_le (L7.out.lt q hq).2 hb8.size) qo qc _ (layL W2) hQ rfl (by have := HM1.out; omega))
              have L8 := Lib.hid (L7.out.kept hb8)
              have T8 := Lib.hid (T7.out.below hb8)
              have B8 := Lib.hid (st_below K7.out.below hb8)
              clear hv hQ hb8 L7 T7 K7
              obtain ⟨yn, hyn⟩ : ∃ yn, (layL W2).length = yn := ⟨_, rfl⟩
              have HYN := Lib.hid hyn
              rw [hyn] at HSW ⊢
              clear hyn
              go_wp2_with fail
              refine HSW.out.mono ?_
              rintro e w9 ⟨rfl, hT9, hbut9⟩
              have T9 := Lib.hid hT9
              have L9 := Lib.hid (ownS_but L8.out T8.out hbut9)
              have B9 := Lib.hid (st_but B8.out G.out hbut9)
              clear hT9 hbut9 L8 T8 B8 HSW
              go_wp2_with fail
              exact ⟨⟨k + 1, W2, by omega, by go_num, L9.out, by rw [HW2N.out]; have := HM1.out; omega, HW2.out, by rw [HYN.out]; exact T9.out, B9.out⟩, by simp [intOf]; omega⟩
        · by_cases hz0 : fu = 0
          · subst hz0
            go_wp2_with fail
            refine (arm_z _ g false (-1) 0 _ _ _ T0.out hfu9).mono ?_
            rintro e wa ⟨rfl, hT1, hbut1⟩
            rw [show max (0 : Int) (-1) = 0 from rfl] at hT1
            have K1 := Lib.hid (K0.out.but T0.out.at G.out HGX.out hbut1)
            have T1 := Lib.hid hT1
            have e0 := K1.out.c0
            clear hT1 hbut1 K0 T0 c0 c1 c2
            go_wp2_with fail
            have hrs := rs_one K1.out.bytes HBN.out
            have hlog := log_z _ g 0 bW bW.length _ (T1.out.below (below_alloc _ (.cells #[.slice bo bn bc] 22))) (fun q hq => Nat.lt_of_lt_of_le (K1.out.own.lt q hq).2 (below_alloc _ _).size) _ _ 1 [Bl] hrs rfl (one_few HBN.out hb3)
            rw [kept_zero bW Bl _ HFIT.out] at hlog
            refine hlog.mono ?_
            rintro e w3 ⟨rfl, hT3, hbut3⟩
            have T3 := Lib.hid hT3
            have K3 := Lib.hid ((K1.out.on (below_alloc _ (.cells #[.slice bo bn bc] 22))).but (T1.out.at.below (below_alloc _ _)) G.out HGX.out hbut3)
            clear hrs hlog hT3 hbut3 K1 T1
            have d2 := K3.out.c2
            go_wp2_with (go_at_call 31; refine (ton_any _ _ _ _ _ _ T3.out.at).mono ?_; rintro e w' ⟨rfl, rfl⟩; simp only [Bool.not_true])
            have hst := start_off w3 g 0 _ bW.length _ ke T3.out.at rfl
            refine hst.mono ?_
            rintro e w4 ⟨rfl, hT4, hbut4⟩
            have T4 := Lib.hid hT4
            have K4 := Lib.hid (K3.out.but T3.out.at G.out HGX.out hbut4)
            clear hst hT4 hbut4 K3 T3 d2
            go_wp2_with fail
            have HALL := Lib.hid (show (allL (bW.take (bW.length + addK ke (bW.length - bW.length)))).1 = W by rw [List.take_of_length_le (by omega), ← HBW.out, all_lay _ HW.out.few])
            refine (tarm_any w4 g false _ (-1) _ _ T4.out (by omega)).mono ?_
            rintro e w5 ⟨rfl, hT5, hbut5⟩
            rw [show max (-1 : Int) (-1) = -1 from rfl] at hT5
            have T5 := Lib.hid hT5
            have K5 := Lib.hid (K4.out.but T4.out G.out HGX.out hbut5)
            clear hT5 hbut5 K4 T4
            go_wp2_with fail
            have hre := records_on w5 g (-1) _ _ T5.out
            rw [HALL.out] at hre
            refine hre.mono ?_
            rintro e w6 ⟨vl, rfl, hl6, hb6⟩
            have T6 := Lib.hid (T5.out.below hb6)
            have K6 := Lib.hid (K5.out.on hb6)
            have L6 := Lib.hid (hl6.s.mono K5.out.below.size)
            have LZ := Lib.hid (fun q hq => (hl6.s.lt q hq).1)
            clear hre hl6 hb6 K5 T5
            have hsl := L6.out.shape
            rw [HWN.out] at hsl
            obtain ⟨lo, lc, rfl, hR6⟩ := hsl
            have hlc := hR6.cap_le
            rw [HWN.out] at hlc
            have hlm := hR6.max
            have hls := lists_any lo vo lc vc wn wn (W.take wn) W w6 (hR6.pre wn) K6.out.own.rs.1 (by rw [List.length_take, HWN.out]; have := HM1.out; omega) K6.out.own.rs.2
            rw [decide_eq_true (show W.take wn = W from (List.take_of_length_le (by rw [HWN.out]; exact Nat.le_refl _)))] at hls
            have HLS := Lib.hid hls
            have hm1 := HM1.out
            have t1 : ¬ (wn : Int) < (wn : Int) := by omega
            have t2 : ¬ (wn : Int) + 1 < (wn : Int) := by omega
            have t4 : (wn : Int) ≤ (lc : Int) := by omega
            have t5 : (wn : Int) ≤ 1000 := by omega

            have t6 : (0 : Int) ≤ (wn : Int) := by omega

            clear hm1
            clear hls hR6
            go_wp2_with (go_at_call 25; refine HLS.out.mono ?_; rintro e w7 ⟨rfl, hb7⟩; have K7 := Lib.hid (K6.out.on hb7); have T7 := Lib.hid (T6.out.below hb7); have L7 := Lib.hid (L6.out.kept hb7); clear hb7 K6 T6 L6 HLS)
            go_loopw [10, 118] (fun v i wr2 => ∃ j : Nat, j ≤ wn ∧ i = .int .i64 j ∧ OwnB wr2 w.heap.size v (layL (W.take j)) ∧ Below w7.heap.size w7 wr2) (fun _ i _ => wn - (intOf i).toNat)
            case atStart => exact ⟨0, by omega, rfl, OwnB.nil _ _, by first | exact Below.refl _ _ | exact below_dn' _ _⟩
            case round =>
              obtain ⟨j, hj, rfl, hv, hb8⟩ := hrel
              have hj1 : (0 : Int) ≤ (j : Int) := by omega
              have HB8 := Lib.hid hb8
              have hsz := Nat.le_trans K7.out.below.size hb8.size
              by_cases hjl : j < wn
              · obtain ⟨yb, yq, ya, yc', e1, hc1, hB1⟩ := (L7.out.rs.1.below hb8).cells j (by rw [HWN.out]; exact hjl)
                cases e1
                have hji : (j : Int) < (wn : Int) := by omega
                obtain ⟨qo, qc, rfl, hQ⟩ := hv.shape
                have HTK := Lib.hid (layL_take W j (by rw [HWN.out]; exact hjl))
                have hle := lay_take_short HW.out j (by rw [HWN.out]; have := HM1.out; omega)
                have hfew := few_take HW.out j (by rw [HWN.out]; exact hjl)
                have HP := Lib.hid (put_any qo ya qc yc' _ _ (layL (W.take j)) (W.getD j []) _ hQ hB1 rfl rfl hfew (by omega))
                rw [← HTK.out] at HP
                clear hB1 hv hQ hle hb8 HTK
                obtain ⟨q', hq'⟩ : ∃ q', layL (W.take (j + 1)) = q' := ⟨_, rfl⟩
                have HQ' := Lib.hid hq'
                rw [hq'] at HP
                clear hq'
                generalize (layL (W.take j)).length = qn at *
                generalize (W.getD j []).length = xn at *
                go_wp2_with fail
                refine HP.out.mono ?_
                rintro e w8 ⟨v, rfl, hv8, hb9⟩
                have HV := Lib.hid (hv8.mono hsz)
                have HB9 := Lib.hid (HB8.out.trans (hb9.mono HB8.out.size))
                clear hv8 hb9 HB8 HP
                go_wp2_with fail
                exact ⟨⟨j + 1, by omega, by go_num, by rw [HQ'.out]; exact HV.out, HB9.out⟩, by simp [intOf]; omega⟩
              · obtain rfl : j = wn := by omega
                rw [List.take_of_length_le (by rw [HWN.out]; exact Nat.le_refl _)] at hv
                obtain ⟨qo, qc, rfl, hQ⟩ := hv.shape
                have hlw := short_lay W HW.out
                rw [HWN.out] at hlw
                have HSW := Lib.hid (swap_z _ g _ _ (fun q => (Value.slice _ _ lc).ownBlock = some q) (T7.out.below hb8) (fun q hq => Nat.lt_of_lt_of_le (L7.out.lt q hq).2 hb8.size) qo qc _ (layL W) hQ rfl (by have := HM1.out; omega))
                have L8 := Lib.hid (L7.out.kept hb8)
                have T8 := Lib.hid (T7.out.below hb8)
                have B8 := Lib.hid (st_below K7.out.below hb8)
                clear hv hQ hb8 L7 T7 K7
                obtain ⟨yn, hyn⟩ : ∃ yn, (layL W).length = yn := ⟨_, rfl⟩
                have HYN := Lib.hid hyn
                rw [hyn] at HSW ⊢
                clear hyn
                go_wp2_with fail
                refine HSW.out.mono ?_
                rintro e w9 ⟨rfl, hT9, hbut9⟩
                have T9 := Lib.hid hT9
                have L9 := Lib.hid (ownS_but L8.out T8.out hbut9)
                have B9 := Lib.hid (st_but B8.out G.out hbut9)
                clear hT9 hbut9 L8 T8 B8 HSW
                go_wp2_with fail
                exact ⟨⟨k + 1, W, by omega, by go_num, L9.out, by rw [HWN.out]; have := HM1.out; omega, HW.out, by rw [HYN.out]; exact T9.out, B9.out⟩, by simp [intOf]; omega⟩
          · by_cases hz1 : fu = 1
            · subst hz1
              rcases torn W Bl (addK ke ((bW ++ encL Bl).length - bW.length)) HW.out (by rw [HBN.out]; exact hb3) with ht | ht
              · have HALL := Lib.hid (HBW.out ▸ ht)
                clear ht
                go_wp2_with fail
                refine (arm_z _ g false (-1) 1 _ _ _ T0.out hfu9).mono ?_
                rintro e wa ⟨rfl, hT1, hbut1⟩
                rw [show max (1 : Int) (-1) = 1 from rfl] at hT1
                have K1 := Lib.hid (K0.out.but T0.out.at G.out HGX.out hbut1)
                have T1 := Lib.hid hT1
                have e0 := K1.out.c0
                clear hT1 hbut1 K0 T0 c0 c1 c2
                go_wp2_with fail
                have hrs := rs_one K1.out.bytes HBN.out
                have hlog := log_z _ g 1 bW bW.length _ (T1.out.below (below_alloc _ (.cells #[.slice bo bn bc] 22))) (fun q hq => Nat.lt_of_lt_of_le (K1.out.own.lt q hq).2 (below_alloc _ _).size) _ _ 1 [Bl] hrs rfl (one_few HBN.out hb3)
                rw [kept_one bW Bl _ HFIT.out] at hlog
                refine hlog.mono ?_
                rintro e w3 ⟨rfl, hT3, hbut3⟩
                have T3 := Lib.hid hT3
                have K3 := Lib.hid ((K1.out.on (below_alloc _ (.cells #[.slice bo bn bc] 22))).but (T1.out.at.below (below_alloc _ _)) G.out HGX.out hbut3)
                clear hrs hlog hT3 hbut3 K1 T1
                have d2 := K3.out.c2
                go_wp2_with (go_at_call 31; refine (ton_any _ _ _ _ _ _ T3.out.at).mono ?_; rintro e w' ⟨rfl, rfl⟩; simp only [Bool.not_true])
                have hst := start_off w3 g 0 _ bW.length _ ke T3.out.at rfl
                refine hst.mono ?_
                rintro e w4 ⟨rfl, hT4, hbut4⟩
                have T4 := Lib.hid hT4
                have K4 := Lib.hid (K3.out.but T3.out.at G.out HGX.out hbut4)
                clear hst hT4 hbut4 K3 T3 d2
                go_wp2_with fail
                refine (tarm_any w4 g false _ (-1) _ _ T4.out (by omega)).mono ?_
                rintro e w5 ⟨rfl, hT5, hbut5⟩
                rw [show max (-1 : Int) (-1) = -1 from rfl] at hT5
                have T5 := Lib.hid hT5
                have K5 := Lib.hid (K4.out.but T4.out G.out HGX.out hbut5)
                clear hT5 hbut5 K4 T4
                go_wp2_with fail
                have hre := records_on w5 g (-1) _ _ T5.out
                rw [HALL.out] at hre
                refine hre.mono ?_
                rintro e w6 ⟨vl, rfl, hl6, hb6⟩
                have T6 := Lib.hid (T5.out.below hb6)
                have K6 := Lib.hid (K5.out.on hb6)
                have L6 := Lib.hid (hl6.s.mono K5.out.below.size)
                have LZ := Lib.hid (fun q hq => (hl6.s.lt q hq).1)
                clear hre hl6 hb6 K5 T5
                have hsl := L6.out.shape
                rw [HWN.out] at hsl
                obtain ⟨lo, lc, rfl, hR6⟩ := hsl
                have hlc := hR6.cap_le
                rw [HWN.out] at hlc
                have hlm := hR6.max
                have hls := lists_any lo vo lc vc wn wn (W.take wn) W w6 (hR6.pre wn) K6.out.own.rs.1 (by rw [List.length_take, HWN.out]; have := HM1.out; omega) K6.out.own.rs.2
                rw [decide_eq_true (show W.take wn = W from (List.take_of_length_le (by rw [HWN.out]; exact Nat.le_refl _)))] at hls
                have HLS := Lib.hid hls
                have hm1 := HM1.out
                have t1 : ¬ (wn : Int) < (wn : Int) := by omega
                have t2 : ¬ (wn : Int) + 1 < (wn : Int) := by omega
                have t4 : (wn : Int) ≤ (lc : Int) := by omega
                have t5 : (wn : Int) ≤ 1000 := by omega

                have t6 : (0 : Int) ≤ (wn : Int) := by omega

                clear hm1
                clear hls hR6
                go_wp2_with (go_at_call 25; refine HLS.out.mono ?_; rintro e w7 ⟨rfl, hb7⟩; have K7 := Lib.hid (K6.out.on hb7); have T7 := Lib.hid (T6.out.below hb7); have L7 := Lib.hid (L6.out.kept hb7); clear hb7 K6 T6 L6 HLS)
                go_loopw [10, 118] (fun v i wr2 => ∃ j : Nat, j ≤ wn ∧ i = .int .i64 j ∧ OwnB wr2 w.heap.size v (layL (W.take j)) ∧ Below w7.heap.size w7 wr2) (fun _ i _ => wn - (intOf i).toNat)
                case atStart => exact ⟨0, by omega, rfl, OwnB.nil _ _, by first | exact Below.refl _ _ | exact below_dn' _ _⟩
                case round =>
                  obtain ⟨j, hj, rfl, hv, hb8⟩ := hrel
                  have hj1 : (0 : Int) ≤ (j : Int) := by omega
                  have HB8 := Lib.hid hb8
                  have hsz := Nat.le_trans K7.out.below.size hb8.size
                  by_cases hjl : j < wn
                  · obtain ⟨yb, yq, ya, yc', e1, hc1, hB1⟩ := (L7.out.rs.1.below hb8).cells j (by rw [HWN.out]; exact hjl)
                    cases e1
                    have hji : (j : Int) < (wn : Int) := by omega
                    obtain ⟨qo, qc, rfl, hQ⟩ := hv.shape
                    have HTK := Lib.hid (layL_take W j (by rw [HWN.out]; exact hjl))
                    have hle := lay_take_short HW.out j (by rw [HWN.out]; have := HM1.out; omega)
                    have hfew := few_take HW.out j (by rw [HWN.out]; exact hjl)
                    have HP := Lib.hid (put_any qo ya qc yc' _ _ (layL (W.take j)) (W.getD j []) _ hQ hB1 rfl rfl hfew (by omega))
                    rw [← HTK.out] at HP
                    clear hB1 hv hQ hle hb8 HTK
                    obtain ⟨q', hq'⟩ : ∃ q', layL (W.take (j + 1)) = q' := ⟨_, rfl⟩
                    have HQ' := Lib.hid hq'
                    rw [hq'] at HP
                    clear hq'
                    generalize (layL (W.take j)).length = qn at *
                    generalize (W.getD j []).length = xn at *
                    go_wp2_with fail
                    refine HP.out.mono ?_
                    rintro e w8 ⟨v, rfl, hv8, hb9⟩
                    have HV := Lib.hid (hv8.mono hsz)
                    have HB9 := Lib.hid (HB8.out.trans (hb9.mono HB8.out.size))
                    clear hv8 hb9 HB8 HP
                    go_wp2_with fail
                    exact ⟨⟨j + 1, by omega, by go_num, by rw [HQ'.out]; exact HV.out, HB9.out⟩, by simp [intOf]; omega⟩
                  · obtain rfl : j = wn := by omega
                    rw [List.take_of_length_le (by rw [HWN.out]; exact Nat.le_refl _)] at hv
                    obtain ⟨qo, qc, rfl, hQ⟩ := hv.shape
                    have hlw := short_lay W HW.out
                    rw [HWN.out] at hlw
                    have HSW := Lib.hid (swap_z _ g _ _ (fun q => (Value.slice _ _ lc).ownBlock = some q) (T7.out.below hb8) (fun q hq => Nat.lt_of_lt_of_le (L7.out.lt q hq).2 hb8.size) qo qc _ (layL W) hQ rfl (by have := HM1.out; omega))
                    have L8 := Lib.hid (L7.out.kept hb8)
                    have T8 := Lib.hid (T7.out.below hb8)
                    have B8 := Lib.hid (st_below K7.out.below hb8)
                    clear hv hQ hb8 L7 T7 K7
                    obtain ⟨yn, hyn⟩ : ∃ yn, (layL W).length = yn := ⟨_, rfl⟩
                    have HYN := Lib.hid hyn
                    rw [hyn] at HSW ⊢
                    clear hyn
                    go_wp2_with fail
                    refine HSW.out.mono ?_
                    rintro e w9 ⟨rfl, hT9, hbut9⟩
                    have T9 := Lib.hid hT9
                    have L9 := Lib.hid (ownS_but L8.out T8.out hbut9)
                    have B9 := Lib.hid (st_but B8.out G.out hbut9)
                    clear hT9 hbut9 L8 T8 B8 HSW
                    go_wp2_with fail
                    exact ⟨⟨k + 1, W, by omega, by go_num, L9.out, by rw [HWN.out]; have := HM1.out; omega, HW.out, by rw [HYN.out]; exact T9.out, B9.out⟩, by simp [intOf]; omega⟩
              · obtain ⟨W2, hW2⟩ : ∃ W2, W ++ [Bl] = W2 := ⟨_, rfl⟩
                have HALL := Lib.hid (hW2 ▸ HBW.out ▸ ht)
                have HW2 := Lib.hid (show Short W2 from hW2 ▸ HW.out.snoc (by rw [HBN.out]; exact hb3))
                have HW2N := Lib.hid (show W2.length = m1 by rw [← hW2, List.length_append, HWN.out, List.length_singleton, HM1.out])
                have HW2E := Lib.hid hW2
                clear hW2
                clear ht
                go_wp2_with fail
                refine (arm_z _ g false (-1) 1 _ _ _ T0.out hfu9).mono ?_
                rintro e wa ⟨rfl, hT1, hbut1⟩
                rw [show max (1 : Int) (-1) = 1 from rfl] at hT1
                have K1 := Lib.hid (K0.out.but T0.out.at G.out HGX.out hbut1)
                have T1 := Lib.hid hT1
                have e0 := K1.out.c0
                clear hT1 hbut1 K0 T0 c0 c1 c2
                go_wp2_with fail
                have hrs := rs_one K1.out.bytes HBN.out
                have hlog := log_z _ g 1 bW bW.length _ (T1.out.below (below_alloc _ (.cells #[.slice bo bn bc] 22))) (fun q hq => Nat.lt_of_lt_of_le (K1.out.own.lt q hq).2 (below_alloc _ _).size) _ _ 1 [Bl] hrs rfl (one_few HBN.out hb3)
                rw [kept_one bW Bl _ HFIT.out] at hlog
                refine hlog.mono ?_
                rintro e w3 ⟨rfl, hT3, hbut3⟩
                have T3 := Lib.hid hT3
                have K3 := Lib.hid ((K1.out.on (below_alloc _ (.cells #[.slice bo bn bc] 22))).but (T1.out.at.below (below_alloc _ _)) G.out HGX.out hbut3)
                clear hrs hlog hT3 hbut3 K1 T1
                have d2 := K3.out.c2
                go_wp2_with (go_at_call 31; refine (ton_any _ _ _ _ _ _ T3.out.at).mono ?_; rintro e w' ⟨rfl, rfl⟩; simp only [Bool.not_true])
                have hst := start_off w3 g 0 _ bW.length _ ke T3.out.at rfl
                refine hst.mono ?_
                rintro e w4 ⟨rfl, hT4, hbut4⟩
                have T4 := Lib.hid hT4
                have K4 := Lib.hid (K3.out.but T3.out.at G.out HGX.out hbut4)
                clear hst hT4 hbut4 K3 T3 d2
                go_wp2_with fail
                refine (tarm_any w4 g false _ (-1) _ _ T4.out (by omega)).mono ?_
                rintro e w5 ⟨rfl, hT5, hbut5⟩
                rw [show max (-1 : Int) (-1) = -1 from rfl] at hT5
                have T5 := Lib.hid hT5
                have K5 := Lib.hid (K4.out.but T4.out G.out HGX.out hbut5)
                clear hT5 hbut5 K4 T4
                go_wp2_with fail
                have hre := records_on w5 g (-1) _ _ T5.out
                rw [HALL.out] at hre
                refine hre.mono ?_
                rintro e w6 ⟨vl, rfl, hl6, hb6⟩
                have T6 := Lib.hid (T5.out.below hb6)
                have K6 := Lib.hid (K5.out.on hb6)
                have L6 := Lib.hid (hl6.s.mono K5.out.below.size)
                have LZ := Lib.hid (fun q hq => (hl6.s.lt q hq).1)
                clear hre hl6 hb6 K5 T5
                have hsl := L6.out.shape
                rw [HW2N.out] at hsl
                obtain ⟨lo, lc, rfl, hR6⟩ := hsl
                have hlc := hR6.cap_le
                rw [HW2N.out] at hlc
                have hlm := hR6.max
                have hls := lists_any lo vo lc vc wn wn (W2.take wn) W w6 (hR6.pre wn) K6.out.own.rs.1 (by rw [List.length_take, HW2N.out]; have := HM1.out; omega) K6.out.own.rs.2
                rw [decide_eq_true (show W2.take wn = W from (by rw [← HW2E.out, ← HWN.out]; simp))] at hls
                have HLS := Lib.hid hls
                have hm1 := HM1.out
                have t1 : ¬ (m1 : Int) < (wn : Int) := by omega
                have t2 : ¬ (wn : Int) + 1 < (m1 : Int) := by omega
                have t4 : (wn : Int) ≤ (lc : Int) := by omega
                have t5 : (wn : Int) ≤ 1000 := by omega
                have t3 : (wn : Int) < (m1 : Int) := by omega
                have t6 : (0 : Int) ≤ (wn : Int) := by omega
                have d1 : decide (m1 < wn) = false := decide_eq_false (by omega)
                have d2 : decide ((m1 : Int) < (wn : Int)) = false := decide_eq_false (by omega)
                have d3 : decide ((wn : Int) + 1 < (m1 : Int)) = false := decide_eq_false (by omega)
                clear hm1
                clear hls hR6
                go_wp2_with (go_at_call 25; refine HLS.out.mono ?_; rintro e w7 ⟨rfl, hb7⟩; have K7 := Lib.hid (K6.out.on hb7); have T7 := Lib.hid (T6.out.below hb7); have L7 := Lib.hid (L6.out.kept hb7); clear hb7 K6 T6 L6 HLS)
                obtain ⟨lb, lq, yo, yc, rfl, hyc, hY⟩ := L7.out.rs.1.cells wn (by rw [HW2N.out]; have := HM1.out; omega)
                rw [show W2.getD wn [] = Bl by rw [← HW2E.out, ← HWN.out]; simp [List.getD]] at hyc hY
                rw [HBN.out] at hyc
                have d0 := K7.out.c0
                have HT : Hid (∀ q, Calls Try.prog 20 #[.slice yo bn yc, .slice bo bn bc] (w7.drewN q) fun e w' => e = .returned (.bool true) ∧ w' = w7.drewN q) := fun q => by
                  have := same_any yo bo yc bc bn bn Bl Bl (w7.drewN q) (hY.below (below_dn' w7 q)) (K7.out.bytes.below (below_dn' w7 q)) HBN.out HBN.out
                  rw [decide_eq_true rfl] at this
                  exact this.mono fun e w' ⟨h1, h2⟩ => ⟨h1, h2.symm⟩
                clear hY
                go_quiet (first | (go_at_call 20; refine Calls.quiet_of_same (HT.out _)))
                go_wp2_with fail
                clear hyc d0
                go_loopw [10, 118] (fun v i wr2 => ∃ j : Nat, j ≤ m1 ∧ i = .int .i64 j ∧ OwnB wr2 w.heap.size v (layL (W2.take j)) ∧ Below w7.heap.size w7 wr2) (fun _ i _ => m1 - (intOf i).toNat)
                case atStart => exact ⟨0, by omega, rfl, OwnB.nil _ _, by first | exact Below.refl _ _ | exact below_dn' _ _⟩
                case round =>
                  obtain ⟨j, hj, rfl, hv, hb8⟩ := hrel
                  have hj1 : (0 : Int) ≤ (j : Int) := by omega
                  have HB8 := Lib.hid hb8
                  have hsz := Nat.le_trans K7.out.below.size hb8.size
                  by_cases hjl : j < m1
                  · obtain ⟨yb, yq, ya, yc', e1, hc1, hB1⟩ := (L7.out.rs.1.below hb8).cells j (by rw [HW2N.out]; exact hjl)
                    cases e1
                    have hji : (j : Int) < (m1 : Int) := by omega
                    obtain ⟨qo, qc, rfl, hQ⟩ := hv.shape
                    have HTK := Lib.hid (layL_take W2 j (by rw [HW2N.out]; exact hjl))
                    have hle := lay_take_short HW2.out j (by rw [HW2N.out]; have := HM1.out; omega)
                    have hfew := few_take HW2.out j (by rw [HW2N.out]; exact hjl)
                    have HP := Lib.hid (put_any qo ya qc yc' _ _ (layL (W2.take j)) (W2.getD j []) _ hQ hB1 rfl rfl hfew (by omega))
                    rw [← HTK.out] at HP
                    clear hB1 hv hQ hle hb8 HTK
                    obtain ⟨q', hq'⟩ : ∃ q', layL (W2.take (j + 1)) = q' := ⟨_, rfl⟩
                    have HQ' := Lib.hid hq'
                    rw [hq'] at HP
                    clear hq'
                    generalize (layL (W2.take j)).length = qn at *
                    generalize (W2.getD j []).length = xn at *
                    go_wp2_with fail
                    refine HP.out.mono ?_
                    rintro e w8 ⟨v, rfl, hv8, hb9⟩
                    have HV := Lib.hid (hv8.mono hsz)
                    have HB9 := Lib.hid (HB8.out.trans (hb9.mono HB8.out.size))
                    clear hv8 hb9 HB8 HP
                    go_wp2_with fail
                    exact ⟨⟨j + 1, by omega, by go_num, by rw [HQ'.out]; exact HV.out, HB9.out⟩, by simp [intOf]; omega⟩
                  · obtain rfl : j = m1 := by omega
                    rw [List.take_of_length_le (by rw [HW2N.out]; exact Nat.le_refl _)] at hv
                    obtain ⟨qo, qc, rfl, hQ⟩ := hv.shape
                    have hlw := short_lay W2 HW2.out
                    rw [HW2N.out] at hlw
                    have HSW := Lib.hid (swap_z _ g _ _ (fun q => (Value.slice _ _ lc).ownBlock = some q) (T7.out.below hb8) (fun q hq => Nat.lt_of_lt_of_le (L7.out.lt q hq).2 hb8.size) qo qc _ (layL W2) hQ rfl (by have := HM1.out; omega))
                    have L8 := Lib.hid (L7.out.kept hb8)
                    have T8 := Lib.hid (T7.out.below hb8)
                    have B8 := Lib.hid (st_below K7.out.below hb8)
                    clear hv hQ hb8 L7 T7 K7
                    obtain ⟨yn, hyn⟩ : ∃ yn, (layL W2).length = yn := ⟨_, rfl⟩
                    have HYN := Lib.hid hyn
                    rw [hyn] at HSW ⊢
                    clear hyn
                    go_wp2_with fail
                    refine HSW.out.mono ?_
                    rintro e w9 ⟨rfl, hT9, hbut9⟩
                    have T9 := Lib.hid hT9
                    have L9 := Lib.hid (ownS_but L8.out T8.out hbut9)
                    have B9 := Lib.hid (st_but B8.out G.out hbut9)
                    clear hT9 hbut9 L8 T8 B8 HSW
                    go_wp2_with fail
                    exact ⟨⟨k + 1, W2, by omega, by go_num, L9.out, by rw [HW2N.out]; have := HM1.out; omega, HW2.out, by rw [HYN.out]; exact T9.out, B9.out⟩, by simp [intOf]; omega⟩
            · have hf2 : 2 ≤ fu := by omega
              clear hneg hz0 hz1
              have hfa : 0 ≤ fu := by omega
              go_wp2_with fail
              refine (arm_z _ g false (-1) fu _ _ _ T0.out hfu9).mono ?_
              rintro e wa ⟨rfl, hT1, hbut1⟩
              rw [show max fu (-1) = fu by omega] at hT1
              have K1 := Lib.hid (K0.out.but T0.out.at G.out HGX.out hbut1)
              have T1 := Lib.hid hT1
              have e0 := K1.out.c0
              clear hT1 hbut1 K0 T0 c0 c1 c2
              go_wp2_with fail
              have hrs := rs_one K1.out.bytes HBN.out
              have hlog := log_z _ g fu bW bW.length _ (T1.out.below (below_alloc _ (.cells #[.slice bo bn bc] 22))) (fun q hq => Nat.lt_of_lt_of_le (K1.out.own.lt q hq).2 (below_alloc _ _).size) _ _ 1 [Bl] hrs rfl (one_few HBN.out hb3)
              rw [kept_ok fu bW Bl HFIT.out (.inr hf2)] at hlog
              refine hlog.mono ?_
              rintro e w3 ⟨rfl, hT3, hbut3⟩
              have T3 := Lib.hid hT3
              have K3 := Lib.hid ((K1.out.on (below_alloc _ (.cells #[.slice bo bn bc] 22))).but (T1.out.at.below (below_alloc _ _)) G.out HGX.out hbut3)
              clear hrs hlog hT3 hbut3 K1 T1
              generalize hfx : (if fu = -1 then -1 else fu - 2) = fx at *
              clear hfx
              have d0 := K3.out.c0
              go_wp2_with (first
                | (at_builtin; refine wpList_apps _ rfl (.tmp 48) (.tmp 51) rfl w.heap.size _ W rfl (K3.out.own.kept (below_alloc w3 (.cells #[.slice bo bn bc] 22))) w3.heap.size 1 bn bo bc Bl rfl (by simp) HBN.out (K3.out.on (below_alloc w3 _)).bytes (bytes_apart K3.out.own HX.out (Nat.le_refl _)) (by rw [HWN.out]; omega) (Nat.le_trans K3.out.below.size (below_alloc w3 _).size) ?_; intro v' w4 q1 q2; have Q1 := Lib.hid q1; have K4 := Lib.hid ((K3.out.on (below_alloc w3 _)).app HZ.out HX.out q2 q1); have T4 := Lib.hid (tapeZ_apps (K3.out.own.kept (below_alloc w3 _)) (T3.out.below (below_alloc w3 _)) q2); obtain ⟨wo, wc, hv4, -⟩ := q1.shape; rw [List.length_append, HWN.out, List.length_singleton, HM1.out] at hv4; subst hv4; clear q1 q2 Q1 K3 T3)
                | (go_at_call 31; refine (ton_any _ _ _ _ _ _ T4.out).mono ?_; rintro e w' ⟨rfl, rfl⟩; simp only [Bool.not_false]))
              obtain ⟨W2, hW2⟩ : ∃ W2, W ++ [Bl] = W2 := ⟨_, rfl⟩
              have HALL := Lib.hid (show (allL (bW ++ encL Bl)).1 = W2 by rw [← HBW.out, ← layL_snoc, all_lay _ (HW.out.snoc (by rw [HBN.out]; exact hb3)).few, hW2])
              have HW2 := Lib.hid (show Short W2 from hW2 ▸ HW.out.snoc (by rw [HBN.out]; exact hb3))
              have HW2N := Lib.hid (show W2.length = m1 by rw [← hW2, List.length_append, HWN.out, List.length_singleton, HM1.out])
              rw [hW2] at K4
              clear hW2
              refine (tarm_any w4 g false _ (-1) _ _ T4.out (by omega)).mono ?_
              rintro e w5 ⟨rfl, hT5, hbut5⟩
              rw [show max (-1 : Int) (-1) = -1 from rfl] at hT5
              have T5 := Lib.hid hT5
              have K5 := Lib.hid (K4.out.but T4.out G.out HGX.out hbut5)
              clear hT5 hbut5 K4 T4
              go_wp2_with fail
              have hre := records_on w5 g (-1) _ _ T5.out
              rw [HALL.out] at hre
              refine hre.mono ?_
              rintro e w6 ⟨vl, rfl, hl6, hb6⟩
              have T6 := Lib.hid (T5.out.below hb6)
              have K6 := Lib.hid (K5.out.on hb6)
              have L6 := Lib.hid (hl6.s.mono K5.out.below.size)
              have LZ := Lib.hid (fun q hq => (hl6.s.lt q hq).1)
              clear hre hl6 hb6 K5 T5
              have hsl := L6.out.shape
              rw [HW2N.out] at hsl
              obtain ⟨lo, lc, rfl, hR6⟩ := hsl
              have hlc := hR6.cap_le
              rw [HW2N.out] at hlc
              have hlm := hR6.max
              have hls := lists_any lo wo lc wc m1 m1 (W2.take m1) W2 w6 (hR6.pre m1) K6.out.own.rs.1 (by rw [List.length_take, HW2N.out]; have := HM1.out; omega) K6.out.own.rs.2
              rw [decide_eq_true (show W2.take m1 = W2 from (List.take_of_length_le (by rw [HW2N.out]; exact Nat.le_refl _)))] at hls
              have HLS := Lib.hid hls
              have hm1 := HM1.out
              have t1 : ¬ (m1 : Int) < (m1 : Int) := by omega
              have t2 : ¬ (m1 : Int) + 1 < (m1 : Int) := by omega
              have t4 : (m1 : Int) ≤ (lc : Int) := by omega
              have t5 : (m1 : Int) ≤ 1000 := by omega

              have t6 : (0 : Int) ≤ (m1 : Int) := by omega

              clear hm1
              clear hls hR6
              go_wp2_with (go_at_call 25; refine HLS.out.mono ?_; rintro e w7 ⟨rfl, hb7⟩; have K7 := Lib.hid (K6.out.on hb7); have T7 := Lib.hid (T6.out.below hb7); have L7 := Lib.hid (L6.out.kept hb7); clear hb7 K6 T6 L6 HLS)
              go_loopw [10, 118] (fun v i wr2 => ∃ j : Nat, j ≤ m1 ∧ i = .int .i64 j ∧ OwnB wr2 w.heap.size v (layL (W2.take j)) ∧ Below w7.heap.size w7 wr2) (fun _ i _ => m1 - (intOf i).toNat)
              case atStart => exact ⟨0, by omega, rfl, OwnB.nil _ _, by first | exact Below.refl _ _ | exact below_dn' _ _⟩
              case round =>
                obtain ⟨j, hj, rfl, hv, hb8⟩ := hrel
                have hj1 : (0 : Int) ≤ (j : Int) := by omega
                have HB8 := Lib.hid hb8
                have hsz := Nat.le_trans K7.out.below.size hb8.size
                by_cases hjl : j < m1
                · obtain ⟨yb, yq, ya, yc', e1, hc1, hB1⟩ := (L7.out.rs.1.below hb8).cells j (by rw [HW2N.out]; exact hjl)
                  cases e1
                  have hji : (j : Int) < (m1 : Int) := by omega
                  obtain ⟨qo, qc, rfl, hQ⟩ := hv.shape
                  have HTK := Lib.hid (layL_take W2 j (by rw [HW2N.out]; exact hjl))
                  have hle := lay_take_short HW2.out j (by rw [HW2N.out]; have := HM1.out; omega)
                  have hfew := few_take HW2.out j (by rw [HW2N.out]; exact hjl)
                  have HP := Lib.hid (put_any qo ya qc yc' _ _ (layL (W2.take j)) (W2.getD j []) _ hQ hB1 rfl rfl hfew (by omega))
                  rw [← HTK.out] at HP
                  clear hB1 hv hQ hle hb8 HTK
                  obtain ⟨q', hq'⟩ : ∃ q', layL (W2.take (j + 1)) = q' := ⟨_, rfl⟩
                  have HQ' := Lib.hid hq'
                  rw [hq'] at HP
                  clear hq'
                  generalize (layL (W2.take j)).length = qn at *
                  generalize (W2.getD j []).length = xn at *
                  go_wp2_with fail
                  refine HP.out.mono ?_
                  rintro e w8 ⟨v, rfl, hv8, hb9⟩
                  have HV := Lib.hid (hv8.mono hsz)
                  have HB9 := Lib.hid (HB8.out.trans (hb9.mono HB8.out.size))
                  clear hv8 hb9 HB8 HP
                  go_wp2_with fail
                  exact ⟨⟨j + 1, by omega, by go_num, by rw [HQ'.out]; exact HV.out, HB9.out⟩, by simp [intOf]; omega⟩
                · obtain rfl : j = m1 := by omega
                  rw [List.take_of_length_le (by rw [HW2N.out]; exact Nat.le_refl _)] at hv
                  obtain ⟨qo, qc, rfl, hQ⟩ := hv.shape
                  have hlw := short_lay W2 HW2.out
                  rw [HW2N.out] at hlw
                  have HSW := Lib.hid (swap_z _ g _ _ (fun q => (Value.slice _ _ lc).ownBlock = some q) (T7.out.below hb8) (fun q hq => Nat.lt_of_lt_of_le (L7.out.lt q hq).2 hb8.size) qo qc _ (layL W2) hQ rfl (by have := HM1.out; omega))
                  have L8 := Lib.hid (L7.out.kept hb8)
                  have T8 := Lib.hid (T7.out.below hb8)
                  have B8 := Lib.hid (st_below K7.out.below hb8)
                  clear hv hQ hb8 L7 T7 K7
                  obtain ⟨yn, hyn⟩ : ∃ yn, (layL W2).length = yn := ⟨_, rfl⟩
                  have HYN := Lib.hid hyn
                  rw [hyn] at HSW ⊢
                  clear hyn
                  go_wp2_with fail
                  refine HSW.out.mono ?_
                  rintro e w9 ⟨rfl, hT9, hbut9⟩
                  have T9 := Lib.hid hT9
                  have L9 := Lib.hid (ownS_but L8.out T8.out hbut9)
                  have B9 := Lib.hid (st_but B8.out G.out hbut9)
                  clear hT9 hbut9 L8 T8 B8 HSW
                  go_wp2_with fail
                  exact ⟨⟨k + 1, W2, by omega, by go_num, L9.out, by rw [HW2N.out]; have := HM1.out; omega, HW2.out, by rw [HYN.out]; exact T9.out, B9.out⟩, by simp [intOf]; omega⟩
    · obtain rfl : k = q := by omega
      clear hown hT hbel hW
      go_wp2_with fail
      go_ret
      exact ⟨rfl, HB.out⟩
theorem keptAll_any (ao : Option Addr) (ca n : Nat) (ls : List Loss) (w : World) (h : Losses w ao ca ls) (hn : ls.length = n) : Calls Try.prog 10 #[.slice ao n ca] w (TruePost w) := by
  by_cases h1 : (100 : Int) < (n : Int)
  · exact kept_any ao ca n 100 ls w h hn (if_pos h1)
  · exact kept_any ao ca n n ls w h hn (if_neg h1)
end Go.Proofs.Ytaniflbhkddlhaa
