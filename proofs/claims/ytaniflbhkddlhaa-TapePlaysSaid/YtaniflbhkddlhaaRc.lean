/- Contract of the document's Log. No condition. -/
import Derived.Test.YtaniflbhkddlhaaRb
namespace Go.Proofs.Ytaniflbhkddlhaa
open Go.RowKit
set_option maxHeartbeats 1000000 in
set_option maxRecDepth 100000 in
theorem rlog_core (w : World) (g : Nat) (off : Bool) (fuse : Int) (b : List Int) (k : Nat) (h : RefAt w g off fuse b k) (ro : Option Addr) (rc n : Nat) (rs : List (List Int)) (hr : Rs w ro rc rs) (hn : rs.length = n)
    (j : Nat) (hj : j ≤ n) (hf : Few (rs.take j)) (hbig : j < n → 65536 < (rs.getD j []).length) (Post : Ending → World → Prop) (hno : j < n → ∀ w', Below w.heap.size w w' → Post (.returned (.int .i64 (if off then 10 else 1))) w')
    (hyes : j = n → ∀ wr xo xc, Below w.heap.size w wr → Bs wr xo xc (logB rs) → Calls Try.prog 53 #[.pointer (some ⟨g, 0, none⟩), .slice xo (logB rs).length xc] wr fun e w1 =>
      ∃ c, e = .returned (.int .i64 c) ∧ ((c ≠ 0 ∧ Post (.returned (.int .i64 c)) w1) ∨ (c = 0 ∧ Calls Try.prog 54 #[.pointer (some ⟨g, 0, none⟩)] w1 fun e w2 => ∃ d, e = .returned (.int .i64 d) ∧ Post (.returned (.int .i64 d)) w2))) :
    Calls Try.prog 58 #[.pointer (some ⟨g, 0, none⟩), .slice ro n rc] w Post := by
  have HBK := Lib.hid h.blk
  have H := Lib.hid hr
  have HN := Lib.hid hn
  have HF := Lib.hid hf
  have hl := hr.len_le
  rw [hn] at hl
  have HBIG := Lib.hid hbig
  have HNO := Lib.hid hno
  have HYES := Lib.hid hyes
  clear h hr hn hf hbig hno hyes
  go_enter Try.func58, Try.ntmps58
  go_wp2_with fail
  go_loopw [5, 6] (fun v i wr => ∃ k : Nat, k ≤ j ∧ i = .int .i64 k ∧ OwnB wr w.heap.size v (logB (rs.take k)) ∧ Below w.heap.size w wr) (fun _ i _ => n - (intOf i).toNat)
  case atStart => exact ⟨0, by omega, rfl, OwnB.nil _ _, Below.refl _ _⟩
  case round =>
    obtain ⟨i, hi, rfl, hv, hbel⟩ := hrel
    have hk1 : (0 : Int) ≤ (i : Int) := by omega
    obtain ⟨qo, qc, rfl, hQ⟩ := hv.shape
    have HL := Lib.hid hbel
    by_cases hlt : i < j
    · obtain ⟨b1, o1, ao1, ca1, rfl, hc1, hB1⟩ := (H.out.below hbel).cells i (by rw [HN.out]; omega)
      have hk0 : (i : Int) < (n : Int) := by omega
      have HS := Lib.hid (logB_take rs i (by rw [HN.out]; omega))
      have hfew := getD_few HF.out hlt (by rw [HN.out]; omega)
      have hql := logB_len (rs.take i) (take_few HF.out hi)
      have HP := Lib.hid (refPut_any none ao1 0 ca1 0 _ [] (rs.getD i []) wr (bs_nil _) hB1 rfl rfl hfew (by omega))
      rw [List.nil_append] at HP
      have hel := encL_len (rs.getD i [])
      have HV := Lib.hid hv
      clear hB1 hv hQ hbel
      obtain ⟨q, hq⟩ : ∃ q, logB (rs.take i) = q := ⟨_, rfl⟩
      obtain ⟨x, hx⟩ : ∃ x, encL (rs.getD i []) = x := ⟨_, rfl⟩
      have HQ := Lib.hid hq
      have HX := Lib.hid hx
      rw [hq] at HV hql ⊢
      rw [hx] at HP hel
      have hlen : x.length ≤ 65548 := by omega
      clear hq hx hel
      obtain ⟨qn, hqn⟩ : ∃ qn, q.length = qn := ⟨_, rfl⟩
      have HQN := Lib.hid hqn
      rw [hqn] at HV hql ⊢
      clear hqn
      generalize (rs.getD i []).length = xn at *
      by_cases hfull : qn ≤ 1048576
      · have hfull' : (qn : Int) ≤ 1048576 := by omega
        go_wp2_with fail
        refine HP.out.mono ?_
        rintro e w2 ⟨v, rfl, hv2, hb2⟩
        obtain ⟨vo, vc, rfl, hV2⟩ := hv2.shape
        have HV2 := Lib.hid hV2
        have HO := Lib.hid (own_kept HV.out hb2)
        have HL2 := Lib.hid (HL.out.trans (hb2.mono HL.out.size))
        have hsz := Nat.le_trans HL.out.size hb2.size
        clear hv2 hb2 HL HP HV hV2
        obtain ⟨xm, hxm⟩ : ∃ xm, x.length = xm := ⟨_, rfl⟩
        have HXM := Lib.hid hxm
        rw [hxm] at hlen ⊢
        clear hxm
        go_wp2_with (at_builtin; refine wpList_app _ rfl (.tmp 33) (.tmp 34) rfl w.heap.size _ q rfl HO.out vo xm vc x rfl HV2.out HXM.out (by rw [HQN.out, HXM.out]; omega) hsz ?_; intro v' w3 h1 h2 _; have H3 := Lib.hid h1; have HB := Lib.hid (below_grown HL2.out h2 hsz HO.out (Nat.le_refl _)); clear h1 h2)
        exact ⟨⟨i + 1, by omega, by go_num, by rw [HS.out, HQ.out, show logStep q (rs.getD i []) = q ++ x by unfold logStep; rw [if_pos (by rw [HQN.out]; exact hfull), HX.out]]; exact H3.out, HB.out⟩, by simp [intOf]; omega⟩
      · have hfull' : ¬ (qn : Int) ≤ 1048576 := by omega
        go_wp2_with fail
        refine HP.out.mono ?_
        rintro e w2 ⟨v, rfl, hv2, hb2⟩
        have HO := Lib.hid (own_kept HV.out hb2)
        have HL2 := Lib.hid (HL.out.trans (hb2.mono HL.out.size))
        clear hv2 hb2 HL HP HV
        go_wp2_with fail
        exact ⟨⟨i + 1, by omega, by go_num, by rw [HS.out, HQ.out, show logStep q (rs.getD i []) = q by unfold logStep; rw [if_neg (by rw [HQN.out]; exact hfull)]]; exact HO.out, HL2.out⟩, by simp [intOf]; omega⟩
    · obtain rfl : i = j := by omega
      by_cases hnj : i < n
      · obtain ⟨b1, o1, ao1, ca1, rfl, hc1, hB1⟩ := (H.out.below hbel).cells i (by rw [HN.out]; omega)
        have hk0 : (i : Int) < (n : Int) := by omega
        have hlen := hB1.len_le
        have HP := Lib.hid (refPut_many none ao1 0 ca1 0 _ wr (HBIG.out hnj) hlen)
        obtain ⟨c0, c1, c2, c3⟩ := (HBK.out.below hbel).cells
        clear hB1 hv hQ hbel c0 c1 c2
        generalize (rs.getD i []).length = xn at *
        generalize (logB (rs.take i)).length = qn at *
        go_wp2_with fail
        refine HP.out.mono ?_
        rintro e w2 ⟨rfl, rfl⟩
        have HP2 := Lib.hid (HNO.out hnj _ HL.out)
        cases off
        · simp only [Bool.false_eq_true, if_false] at HP2
          go_wp2_with fail
          exact HP2.out
        · simp only [if_true] at HP2
          go_wp2_with fail
          exact HP2.out
      · obtain rfl : i = n := by omega
        rw [List.take_of_length_le (by rw [HN.out]; exact Nat.le_refl _)] at hQ ⊢
        have HW := Lib.hid (HYES.out rfl wr qo qc hbel hQ)
        clear hv hQ hbel
        generalize (logB rs).length = qn at *
        go_wp2_with fail
        refine HW.out.mono ?_
        rintro e w2 ⟨c, rfl, hc⟩
        rcases hc with ⟨hc, hp⟩ | ⟨rfl, hp⟩
        · have hc' : (c != 0) = true := by simp [hc]
          have HPP := Lib.hid hp
          clear hp hc
          go_wp2_with fail
          exact HPP.out
        · have HPP := Lib.hid hp
          clear hp
          go_wp2_with fail
          refine HPP.out.mono ?_
          rintro e w3 ⟨d, rfl, hd⟩
          have HD := Lib.hid hd
          clear hd
          go_wp2_with fail
          exact HD.out
def RCallR (w : World) (h : Nat) (r : Int × Bool × Int × List Int × Nat) : Ending → World → Prop := RCall w h r.1 r.2.1 r.2.2.1 r.2.2.2.1 r.2.2.2.2
theorem RefAt.below {w w' : World} {h : Nat} {off : Bool} {fuse : Int} {b : List Int} {k : Nat} (H : RefAt w h off fuse b k) (hb : Below w.heap.size w w') : RefAt w' h off fuse b k := ⟨H.blk.below hb, H.byte, H.low, H.high, H.len, H.kept⟩
theorem RefAt.but {w w' : World} {g h : Nat} {off : Bool} {fuse : Int} {b : List Int} {k : Nat} (H : RefAt w h off fuse b k) (hb : But g w w') (hg : h ≠ g) : RefAt w' h off fuse b k := ⟨H.blk.but hb hg, H.byte, H.low, H.high, H.len, H.kept⟩
theorem TapeAt.but {w w' : World} {g h : Nat} {off : Bool} {fuse : Int} {b : List Int} {k : Nat} (H : TapeAt w g off fuse b k) (hn : NoBytes w h) (hb : But h w w') (hg : g ≠ h) : TapeAt w' g off fuse b k := by
  obtain ⟨⟨ao, cap, h1, h2⟩, h3, h4, h5, h6⟩ := H
  exact ⟨⟨ao, cap, h1.but hb hg, h2.but hn hb⟩, h3, h4, h5, h6⟩
theorem rlog_few (w : World) (h : Nat) (fuse : Int) (b : List Int) (k : Nat) (H0 : RefAt w h false fuse b k) (ro : Option Addr) (rc n : Nat) (rs : List (List Int)) (hr : Rs w ro rc rs) (hn : rs.length = n) (hf : Few rs) :
    Calls Try.prog 58 #[.pointer (some ⟨h, 0, none⟩), .slice ro n rc] w (RCallR w h (logR fuse b k (logB rs))) := by
  refine rlog_core w h false fuse b k H0 ro rc n rs hr hn n (Nat.le_refl _) (by rw [List.take_of_length_le (by omega)]; exact hf) (fun h => by omega) _ (fun h => by omega) ?_
  intro _ wr xo xc hb hx
  refine (rwrite_any wr h false fuse b k (H0.below hb) xo xc _ (logB rs) hx rfl).mono ?_
  rintro e w1 ⟨rfl, ht, hbut⟩
  refine ⟨_, rfl, ?_⟩
  by_cases hc : (logC fuse b (logB rs)).1 = 0
  · right
    refine ⟨hc, ?_⟩
    rw [show (fitsR false fuse b.length (logB rs).length).1 = 0 from hc, if_pos rfl] at ht
    refine (rsync_any w1 h _ _ _ _ ht).mono ?_
    rintro e w2 ⟨rfl, ht2, hbut2⟩
    refine ⟨_, rfl, ?_⟩
    unfold RCallR logR
    rw [if_pos hc]
    exact ⟨rfl, ht2, ((but_of hb).trans hbut).trans hbut2⟩
  · left
    refine ⟨hc, ?_⟩
    rw [if_neg (show ¬ (fitsR false fuse b.length (logB rs).length).1 = 0 from hc)] at ht
    unfold RCallR logR
    rw [if_neg hc]
    exact ⟨rfl, ht, (but_of hb).trans hbut⟩
theorem rlog_off (w : World) (h : Nat) (fuse : Int) (b : List Int) (k : Nat) (H0 : RefAt w h true fuse b k) (ro : Option Addr) (rc n : Nat) (rs : List (List Int)) (hr : Rs w ro rc rs) (hn : rs.length = n) :
    Calls Try.prog 58 #[.pointer (some ⟨h, 0, none⟩), .slice ro n rc] w (RCall w h 10 true fuse b k) := by
  have fin : ∀ w', Below w.heap.size w w' → RCall w h 10 true fuse b k (.returned (.int .i64 (if true then 10 else 1))) w' := fun w' hb => ⟨rfl, H0.below hb, but_of hb⟩
  rcases few_or rs with h0 | ⟨j, h1, h2, h3⟩
  · refine rlog_core w h true fuse b k H0 ro rc n rs hr hn n (Nat.le_refl _) (by rw [List.take_of_length_le (by omega)]; exact h0) (fun h => by omega) _ (fun h => by omega) ?_
    intro _ wr xo xc hb hx
    refine (rwrite_any wr h true fuse b k (H0.below hb) xo xc _ (logB rs) hx rfl).mono ?_
    rintro e w1 ⟨rfl, ht, hbut⟩
    exact ⟨_, rfl, .inl ⟨by simp [fitsR], rfl, by simpa [fitsR] using ht, (but_of hb).trans hbut⟩⟩
  · exact rlog_core w h true fuse b k H0 ro rc n rs hr hn j (by omega) h2 (fun _ => h3) _ (fun _ => fin) (fun h => by omega)
theorem rlog_many (w : World) (h : Nat) (fuse : Int) (b : List Int) (k : Nat) (H0 : RefAt w h false fuse b k) (ro : Option Addr) (rc n : Nat) (rs : List (List Int)) (hr : Rs w ro rc rs) (hn : rs.length = n) (hf : ¬ Few rs) :
    Calls Try.prog 58 #[.pointer (some ⟨h, 0, none⟩), .slice ro n rc] w (RCall w h 1 false fuse b k) := by
  rcases few_or rs with h0 | ⟨j, h1, h2, h3⟩
  · exact absurd h0 hf
  · exact rlog_core w h false fuse b k H0 ro rc n rs hr hn j (by omega) h2 (fun _ => h3) _ (fun _ w' hb => ⟨rfl, H0.below hb, but_of hb⟩) (fun h => by omega)
end Go.Proofs.Ytaniflbhkddlhaa
