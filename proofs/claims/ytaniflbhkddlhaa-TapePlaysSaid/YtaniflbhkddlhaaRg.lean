/- The law TapePlays, walked. No condition. -/
import Derived.Test.YtaniflbhkddlhaaRe
import Derived.Test.YtaniflbhkddlhaaRf
import Derived.Deep.RegionHeld3
namespace Go.Proofs.Ytaniflbhkddlhaa
open Go.RowKit
theorem keepX {g bx : Nat} {w w' : World} {v0 v1 v2 v3 : Value} (h : w.cell? ⟨bx, 0, none⟩ = some v0 ∧ w.cell? ⟨bx, 1, none⟩ = some v1 ∧ w.cell? ⟨bx, 2, none⟩ = some v2 ∧ w.cell? ⟨bx, 3, none⟩ = some v3) (hb : But g w w') (hx : bx ≠ g) :
    w'.cell? ⟨bx, 0, none⟩ = some v0 ∧ w'.cell? ⟨bx, 1, none⟩ = some v1 ∧ w'.cell? ⟨bx, 2, none⟩ = some v2 ∧ w'.cell? ⟨bx, 3, none⟩ = some v3 := ⟨hb.cell h.1 hx, hb.cell h.2.1 hx, hb.cell h.2.2.1 hx, hb.cell h.2.2.2 hx⟩
set_option maxHeartbeats 8000000 in
set_option maxRecDepth 100000 in
theorem plays_any (ao : Option Addr) (ca n q : Nat) (ls : List ActD) (w : World) (h : Acts w ao ca ls) (hn : ls.length = n) (hq : (if (300 : Int) < (n : Int) then (300 : Int) else (n : Int)) = (q : Int)) :
    Calls Try.prog 11 #[.slice ao n ca] w (TruePost w) := by
  have L := Lib.hid h
  have HN := Lib.hid hn
  have HL := Lib.hid (long_any ao ca n q ls w h hn hq)
  have hqn : q ≤ n := by split at hq <;> omega
  have hq3 : q ≤ 300 := by split at hq <;> omega
  have hcl := h.cap_le
  have S := Lib.hid (fun w => short_any ao ca n q w hq (by omega))
  clear h hn hq hcl
  go_enter Try.func11, Try.ntmps11
  go_wp2_with fail
  refine HL.out.mono ?_
  rintro e w1 ⟨lb, rfl, hb1, hall⟩
  have B1 := Lib.hid hb1
  have HALL := Lib.hid hall
  clear hb1 hall HL
  cases lb with
  | true =>
    go_wp2_with (go_at_call 28; refine (talive_any _).mono ?_; rintro e w6 ⟨rfl, hb6⟩)
    go_ret
    exact ⟨rfl, st_below B1.out hb6⟩
  | false =>
    have HA := Lib.hid (HALL.out rfl)
    clear HALL
    go_wp2_with fail
    refine (tnew_any w1).mono ?_
    rintro e w2 ⟨g, rfl, hT2, hb2, hg⟩
    have T2 := Lib.hid hT2
    have B2 := Lib.hid (st_below B1.out hb2)
    have G := Lib.hid (Nat.le_trans B1.out.size hg)
    clear hT2 hb2 hg B1
    go_wp2_with fail
    refine (rnew_any w2).mono ?_
    rintro e w3 ⟨rfl, hb3⟩
    have T3 := Lib.hid (T2.out.below hb3)
    have B3 := Lib.hid (st_below B2.out hb3)
    clear hb3 T2 B2
    go_wp2_with fail
    have R4 := Lib.hid (show RefAt (w3.alloc (.cells #[.string (strOfNums []), .string (strOfNums []), .int .i64 (-1), .bool false] 61)) w3.heap.size false (-1) [] 0 from ⟨heap_alloc_new w3 _, (fun x hx => by cases hx), by omega, by omega, by simp, by simp⟩)
    have hgh : g ≠ w3.heap.size := Nat.ne_of_lt T3.out.lt
    have H0 := Lib.hid (Nat.le_trans B3.out.size (Nat.le_refl w3.heap.size))
    have T4 := Lib.hid (T3.out.below (below_alloc w3 (.cells #[.string (strOfNums []), .string (strOfNums []), .int .i64 (-1), .bool false] 61)))
    have B4 := Lib.hid (st_below B3.out (below_alloc w3 (.cells #[.string (strOfNums []), .string (strOfNums []), .int .i64 (-1), .bool false] 61)))
    obtain ⟨h, hh⟩ : ∃ h, w3.heap.size = h := ⟨_, rfl⟩
    rw [hh] at R4 hgh H0 ⊢
    have HGH := Lib.hid hgh
    clear hh hgh T3 B3
    refine (talive_any _).mono ?_
    rintro e w5 ⟨rfl, hb5⟩
    have T5 := Lib.hid (T4.out.below hb5)
    have R5 := Lib.hid (R4.out.below hb5)
    have B5 := Lib.hid (st_below B4.out hb5)
    clear hb5 T4 R4 B4
    go_wp2_with (go_at_call 37; refine (S.out _).mono ?_; rintro e w6 ⟨rfl, rfl⟩)
    go_loopw [29] (fun i wr => ∃ (k : Nat) (off : Bool) (fuse : Int) (b : List Int) (kk : Nat), k ≤ q ∧ i = .int .i64 k ∧ TapeAt wr g off fuse b kk ∧ RefAt wr h off fuse b kk ∧ Below w.heap.size w wr) (fun i _ => q - (intOf i).toNat)
    case atStart => exact ⟨0, false, -1, [], 0, by omega, rfl, T5.out, R5.out, B5.out⟩
    case round =>
      obtain ⟨k, off, fuse, b, kk, hk, rfl, hT, hR, hbel⟩ := hrel
      have hk1 : (0 : Int) ≤ (k : Int) := by omega
      have HB := Lib.hid hbel
      clear T5 R5 B5
      by_cases hlt : k < q
      · obtain ⟨b0, o0, rfl, hL⟩ := L.out.cells k (by rw [HN.out]; omega)
        have hms := HA.out k hlt
        obtain ⟨x, hx⟩ : ∃ x, ls.getD k noAct = x := ⟨_, rfl⟩
        rw [hx] at hL hms
        clear hx
        obtain ⟨kd, A, ms, N⟩ := x
        obtain ⟨bo, bc, mo, mc, q0, q1, q2, q3, hA, hM, hkd, hN9⟩ := hL
        simp only at q0 q1 q2 q3 hA hM hms hkd hN9
        rw [Addr.add_lit] at q1 q2 q3
        have c0 := (hbel.cell (block_lt_of_cell q0)).trans q0
        have c1 := (hbel.cell (block_lt_of_cell q1)).trans q1
        have c2 := (hbel.cell (block_lt_of_cell q2)).trans q2
        have c3 := (hbel.cell (block_lt_of_cell q3)).trans q3
        obtain ⟨r, hsame⟩ := act_any off fuse b kk kd N A ms hN9 hms hkd
        obtain ⟨bn, hbn⟩ : ∃ bn, A.length = bn := ⟨_, rfl⟩
        obtain ⟨mn, hmn⟩ : ∃ mn, ms.length = mn := ⟨_, rfl⟩
        rw [hbn] at c1
        rw [hmn] at c2
        have HA0 := Lib.hid hA
        have HM0 := Lib.hid hM
        have HAN := Lib.hid hbn
        have HMN := Lib.hid hmn
        have HS := Lib.hid hsame
        have T1 := Lib.hid (hT.below (below_alloc wr (.cells #[.int .u8 kd, .slice bo bn bc, .slice mo mn mc, .int .i64 N] 65)))
        have R1 := Lib.hid (hR.below (below_alloc wr (.cells #[.int .u8 kd, .slice bo bn bc, .slice mo mn mc, .int .i64 N] 65)))
        have BB := Lib.hid (st_below hbel (below_alloc wr (.cells #[.int .u8 kd, .slice bo bn bc, .slice mo mn mc, .int .i64 N] 65)))
        have hxg := Nat.ne_of_gt hT.lt
        have hxh := Nat.ne_of_gt hR.blk.lt
        have hk0 : (k : Int) < (q : Int) := by omega
        obtain ⟨c, o', f', b', k'⟩ := r
        have hax : (wr.alloc (.cells #[.int .u8 kd, .slice bo bn bc, .slice mo mn mc, .int .i64 N] 65)).cell? ⟨wr.heap.size, 0, none⟩ = some (.int .u8 kd) ∧ (wr.alloc (.cells #[.int .u8 kd, .slice bo bn bc, .slice mo mn mc, .int .i64 N] 65)).cell? ⟨wr.heap.size, 1, none⟩ = some (.slice bo bn bc) ∧
            (wr.alloc (.cells #[.int .u8 kd, .slice bo bn bc, .slice mo mn mc, .int .i64 N] 65)).cell? ⟨wr.heap.size, 2, none⟩ = some (.slice mo mn mc) ∧ (wr.alloc (.cells #[.int .u8 kd, .slice bo bn bc, .slice mo mn mc, .int .i64 N] 65)).cell? ⟨wr.heap.size, 3, none⟩ = some (.int .i64 N) := by simp
        have HAX := Lib.hid hax
        clear hT hR hbel hA hM hbn hmn hsame q0 q1 q2 q3 hax HB
        go_wp2_with fail
        obtain ⟨wa, hwa⟩ : ∃ wa, wr.alloc (.cells #[.int .u8 kd, .slice bo bn bc, .slice mo mn mc, .int .i64 N] 65) = wa := ⟨_, rfl⟩
        rw [hwa] at T1 R1 BB HAX ⊢
        obtain ⟨x0, x1, x2, x3⟩ := HAX.out
        generalize wr.heap.size = bx at *
        clear hwa c0 c1 c2 c3 HAX
        have HD := Lib.hid ((HS.out wa.drew bo mo bn bc mn mc (HA0.out.below BB.out.drew) HAN.out (HM0.out.below BB.out.drew) HMN.out).1 g (T1.out.below (below_drew wa)))
        cases o'
        · go_region_with (first | (go_at_call 38; refine HD.out.mono ?_; rintro e wb ⟨rfl, hT2, hbut2⟩; obtain ⟨y0, y1, y2, y3⟩ := keepX (w := wa.drew) ⟨x0, x1, x2, x3⟩ hbut2 hxg) | (go_at_call 39; refine ((HS.out wb bo mo bn bc mn mc (HA0.out.below (st_but BB.out.drew G.out hbut2)) HAN.out (HM0.out.below (st_but BB.out.drew G.out hbut2)) HMN.out).2 h ((R1.out.below (below_drew wa)).but hbut2 (Ne.symm HGH.out))).mono ?_; rintro e wc ⟨rfl, hR3, hbut3⟩; obtain ⟨-, -, -, z3⟩ := hR3.blk.cells) | (go_at_call 31; refine (ton_any _ _ _ _ _ _ (hT2.but ((R1.out.below (below_drew wa)).but hbut2 (Ne.symm HGH.out)).blk.noBytes hbut3 HGH.out)).mono ?_; rintro e wd ⟨rfl, rfl⟩))
          all_goals
            have T3 := Lib.hid (hT2.but ((R1.out.below (below_drew wa)).but hbut2 (Ne.symm HGH.out)).blk.noBytes hbut3 HGH.out)
            have R3 := Lib.hid (show RefAt _ h false f' b' k' from hR3)
            have B3 := Lib.hid (st_but (st_but BB.out.drew G.out hbut2) H0.out hbut3)
            clear hT2 hR3 hbut2 hbut3 x0 x1 x2 x3 y0 y1 y2 y3 HD T1 R1 BB z3
            obtain ⟨nb, hnb⟩ : ∃ nb, b'.length = nb := ⟨_, rfl⟩
            have HNB := Lib.hid hnb
            clear hnb
            go_wp2_with fail
            refine (bytes_on _ g f' b' k' nb T3.out HNB.out).mono ?_
            rintro e we ⟨ao8, cap8, rfl, hB8, hb8⟩
            have B8 := Lib.hid hB8
            have b8 := Lib.hid hb8
            go_wp2_with fail
            refine (rbytes_on _ h f' b' k' nb (R3.out.below hb8) HNB.out).mono ?_
            rintro e wf ⟨ao9, cap9, rfl, hB9, hb9⟩
            have hsm := same_any ao8 ao9 cap8 cap9 nb nb b' b' wf (B8.out.below hb9) hB9 HNB.out HNB.out
            rw [decide_eq_true rfl] at hsm
            have HT := Lib.hid hsm
            have T9 := Lib.hid ((T3.out.below hb8).below hb9)
            have R9 := Lib.hid ((R3.out.below hb8).below hb9)
            have B9 := Lib.hid (st_below (st_below B3.out hb8) hb9)
            clear hB8 hb8 hB9 hb9 B8 b8 T3 R3 B3 hsm
            go_wp2_with fail
            refine HT.out.mono ?_
            rintro e wz ⟨rfl, rfl⟩
            go_wp2_with fail
            exact ⟨⟨k + 1, false, f', b', k', by omega, by go_num, T9.out, R9.out, B9.out⟩, by simp [intOf]; omega⟩
        · go_region_with (first | (go_at_call 38; refine HD.out.mono ?_; rintro e wb ⟨rfl, hT2, hbut2⟩; obtain ⟨y0, y1, y2, y3⟩ := keepX (w := wa.drew) ⟨x0, x1, x2, x3⟩ hbut2 hxg) | (go_at_call 39; refine ((HS.out wb bo mo bn bc mn mc (HA0.out.below (st_but BB.out.drew G.out hbut2)) HAN.out (HM0.out.below (st_but BB.out.drew G.out hbut2)) HMN.out).2 h ((R1.out.below (below_drew wa)).but hbut2 (Ne.symm HGH.out))).mono ?_; rintro e wc ⟨rfl, hR3, hbut3⟩; obtain ⟨-, -, -, z3⟩ := hR3.blk.cells) | (go_at_call 31; refine (ton_any _ _ _ _ _ _ (hT2.but ((R1.out.below (below_drew wa)).but hbut2 (Ne.symm HGH.out)).blk.noBytes hbut3 HGH.out)).mono ?_; rintro e wd ⟨rfl, rfl⟩))
          all_goals
            have T3 := Lib.hid (hT2.but ((R1.out.below (below_drew wa)).but hbut2 (Ne.symm HGH.out)).blk.noBytes hbut3 HGH.out)
            have R3 := Lib.hid (show RefAt _ h true f' b' k' from hR3)
            have B3 := Lib.hid (st_but (st_but BB.out.drew G.out hbut2) H0.out hbut3)
            clear hT2 hR3 hbut2 hbut3 x0 x1 x2 x3 y0 y1 y2 y3 HD T1 R1 BB z3
            go_wp2_with fail
            refine (bytes_off _ g f' b' k' T3.out).mono ?_
            rintro e we ⟨ao8, cap8, rfl, hB8, hb8⟩
            have B8 := Lib.hid hB8
            have b8 := Lib.hid hb8
            go_wp2_with fail
            refine (rbytes_off _ h f' b' k' (R3.out.below hb8)).mono ?_
            rintro e wf ⟨ao9, cap9, rfl, hB9, hb9⟩
            have hsm := same_any ao8 ao9 cap8 cap9 0 0 [] [] wf (B8.out.below hb9) hB9 rfl rfl
            rw [decide_eq_true rfl] at hsm
            have HT := Lib.hid hsm
            have T9 := Lib.hid ((T3.out.below hb8).below hb9)
            have R9 := Lib.hid ((R3.out.below hb8).below hb9)
            have B9 := Lib.hid (st_below (st_below B3.out hb8) hb9)
            clear hB8 hb8 hB9 hb9 B8 b8 T3 R3 B3 hsm
            go_wp2_with fail
            refine HT.out.mono ?_
            rintro e wz ⟨rfl, rfl⟩
            go_wp2_with fail
            exact ⟨⟨k + 1, true, f', b', k', by omega, by go_num, T9.out, R9.out, B9.out⟩, by simp [intOf]; omega⟩
      · obtain rfl : k = q := by omega
        cases off
        · have hre := records_on wr g fuse b kk hT
          obtain ⟨rl, hrl⟩ : ∃ rl, (allL b).1 = rl := ⟨_, rfl⟩
          rw [hrl] at hre
          have HRE := Lib.hid hre
          have HRL := Lib.hid hrl
          have R9 := Lib.hid hR
          clear hre hT hR hbel hrl
          go_wp2_with fail
          refine HRE.out.mono ?_
          rintro e w2 ⟨v, rfl, hv, hb⟩
          obtain ⟨lo, lc, rfl, hl⟩ := hv.shape
          obtain ⟨ln, hln⟩ : ∃ ln, rl.length = ln := ⟨_, rfl⟩
          have HLN := Lib.hid hln
          have hrr := rrecords_on w2 h fuse b kk (R9.out.below hb)
          rw [HRL.out] at hrr
          have HRR := Lib.hid hrr
          have L2 := Lib.hid hl
          have B2 := Lib.hid (st_below HB.out hb)
          rw [hln]
          clear hv hb hl hrr HRE hln
          go_wp2_with fail
          refine HRR.out.mono ?_
          rintro e w3 ⟨v, rfl, hv, hb⟩
          obtain ⟨ko, kc, rfl, hl⟩ := hv.shape
          rw [HLN.out]
          have hls := lists_any lo ko lc kc ln ln rl rl w3 (L2.out.below hb) hl HLN.out HLN.out
          rw [decide_eq_true rfl] at hls
          have HLS := Lib.hid hls
          have B3 := Lib.hid (st_below B2.out hb)
          clear hv hb hl hls HRR L2
          go_wp2_with fail
          refine HLS.out.mono ?_
          rintro e w4 ⟨rfl, hb4⟩
          have B4 := Lib.hid (st_below B3.out hb4)
          clear hb4 HLS
          go_wp2_with fail
          go_ret
          exact ⟨rfl, B4.out⟩
        · have hre := records_off wr g fuse b kk hT
          obtain ⟨rl, hrl⟩ : ∃ rl : List (List Int), [] = rl := ⟨_, rfl⟩
          rw [hrl] at hre
          have HRE := Lib.hid hre
          have HRL := Lib.hid hrl
          have R9 := Lib.hid hR
          clear hre hT hR hbel hrl
          go_wp2_with fail
          refine HRE.out.mono ?_
          rintro e w2 ⟨v, rfl, hv, hb⟩
          obtain ⟨lo, lc, rfl, hl⟩ := hv.shape
          obtain ⟨ln, hln⟩ : ∃ ln, rl.length = ln := ⟨_, rfl⟩
          have HLN := Lib.hid hln
          have hrr := rrecords_off w2 h fuse b kk (R9.out.below hb)
          rw [HRL.out] at hrr
          have HRR := Lib.hid hrr
          have L2 := Lib.hid hl
          have B2 := Lib.hid (st_below HB.out hb)
          rw [hln]
          clear hv hb hl hrr HRE hln
          go_wp2_with fail
          refine HRR.out.mono ?_
          rintro e w3 ⟨v, rfl, hv, hb⟩
          obtain ⟨ko, kc, rfl, hl⟩ := hv.shape
          rw [HLN.out]
          have hls := lists_any lo ko lc kc ln ln rl rl w3 (L2.out.below hb) hl HLN.out HLN.out
          rw [decide_eq_true rfl] at hls
          have HLS := Lib.hid hls
          have B3 := Lib.hid (st_below B2.out hb)
          clear hv hb hl hls HRR L2
          go_wp2_with fail
          refine HLS.out.mono ?_
          rintro e w4 ⟨rfl, hb4⟩
          have B4 := Lib.hid (st_below B3.out hb4)
          clear hb4 HLS
          go_wp2_with fail
          go_ret
          exact ⟨rfl, B4.out⟩
theorem playsAll_any (ao : Option Addr) (ca n : Nat) (ls : List ActD) (w : World) (h : Acts w ao ca ls) (hn : ls.length = n) : Calls Try.prog 11 #[.slice ao n ca] w (TruePost w) := by
  by_cases h1 : (300 : Int) < (n : Int)
  · exact plays_any ao ca n 300 ls w h hn (if_pos h1)
  · exact plays_any ao ca n n ls w h hn (if_neg h1)
end Go.Proofs.Ytaniflbhkddlhaa
