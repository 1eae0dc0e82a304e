/- The walk of FrameTurned; no condition but the sizes. -/
import Derived.Test.YtaniflbhkddlhaaWx
import Derived.Deep.RegionHeld3
import Derived.Laws.BitsAllLaws
namespace Go.Proofs.Ytaniflbhkddlhaa
open Go.RowKit
/-- Some draws on. -/
def DrewOf (w w' : World) : Prop := ∃ q, w' = w.drewN q
theorem DrewOf.below {w w' : World} (h : DrewOf w w') : Below w.heap.size w w' := by obtain ⟨q, rfl⟩ := h; exact below_dn' w q
theorem DrewOf.more {w w' : World} (h : DrewOf w w') (q : Nat) : DrewOf w (w'.drewN q) := by obtain ⟨q0, rfl⟩ := h; exact ⟨q0 + q, World.drewN_drewN ..⟩
def QuietPost (w : World) (b : Bool) (e : Ending) (w' : World) : Prop := e = .returned (.bool b) ∧ DrewOf w w'
set_option maxHeartbeats 4000000 in
set_option maxRecDepth 100000 in
theorem lists_quiet (ao bo : Option Addr) (ca cb n m : Nat) (ls ks : List (List Int)) (w : World) (hl : Rs w ao ca ls) (hk : Rs w bo cb ks) (hn : ls.length = n) (hm : ks.length = m) :
    Calls Try.prog 25 #[.slice ao n ca, .slice bo m cb] w (QuietPost w (decide (ls = ks))) := by
  have hln := hl.len_le
  have hlm := hk.len_le
  by_cases hnm : n = m
  · subst hnm
    have H := Lib.hid hl
    have K := Lib.hid hk
    have HN := Lib.hid hn
    have HM := Lib.hid hm
    rw [hn] at hln
    clear hl hk hn hm hlm
    go_enter Try.func25, Try.ntmps25
    go_wp2_with fail
    go_loopw [5] (fun i wr => ∃ k : Nat, k ≤ n ∧ i = .int .i64 k ∧ (∀ j, j < k → ls.getD j [] = ks.getD j []) ∧ DrewOf w wr) (fun i _ => n - (intOf i).toNat)
    case atStart => exact ⟨0, by omega, rfl, fun j hj => by omega, 0, rfl⟩
    case round =>
      obtain ⟨k, hk, rfl, hsame, hdw⟩ := hrel
      have HDW := Lib.hid hdw
      have hbel := hdw.below
      clear hdw
      by_cases hlt : k < n
      · obtain ⟨b1, o1, ao1, ca1, rfl, hc1, hB1⟩ := (H.out.below hbel).cells k (by rw [HN.out]; exact hlt)
        obtain ⟨b2, o2, ao2, ca2, rfl, hc2, hB2⟩ := (K.out.below hbel).cells k (by rw [HM.out]; exact hlt)
        have HS := Lib.hid (fun q => same_any ao1 ao2 ca1 ca2 _ _ _ _ (wr.drewN q) (hB1.below (below_dn' wr q)) (hB2.below (below_dn' wr q)) rfl rfl)
        have HSA := Lib.hid hsame
        have HL := Lib.hid hbel
        have hk0 : (k : Int) < (n : Int) := by omega
        obtain ⟨x, hx⟩ : ∃ x, ls.getD k [] = x := ⟨_, rfl⟩
        obtain ⟨y, hy⟩ : ∃ y, ks.getD k [] = y := ⟨_, rfl⟩
        have HX := Lib.hid hx
        have HY := Lib.hid hy
        rw [hx] at hc1 HS
        rw [hy] at hc2 HS
        clear hsame hB1 hB2 hbel hx hy
        clear HL
        by_cases hxy : x = y
        · rw [decide_eq_true hxy] at HS
          have HT : Hid (∀ q, Calls Try.prog 20 #[.slice ao1 x.length ca1, .slice ao2 y.length ca2] (wr.drewN q) fun e w' => e = .returned (.bool true) ∧ w' = wr.drewN q) := fun q => (HS.out q).mono fun e w' ⟨h1, h2⟩ => ⟨h1, h2.symm⟩
          have HXY := Lib.hid hxy
          clear HS hxy
          go_wp2_with fail
          go_quiet (first | (go_at_call 20; refine Calls.quiet_of_same (HT.out _)))
          go_wp2_with fail
          exact ⟨⟨k + 1, by omega, by go_num, (fun j hj => by
            by_cases e : j = k
            · rw [e, HX.out, HY.out, HXY.out]
            · exact HSA.out j (by omega)), HDW.out.more _⟩, by simp [intOf]; omega⟩
        · rw [decide_eq_false hxy] at HS
          have HT : Hid (∀ q, Calls Try.prog 20 #[.slice ao1 x.length ca1, .slice ao2 y.length ca2] (wr.drewN q) fun e w' => e = .returned (.bool false) ∧ w' = wr.drewN q) := fun q => (HS.out q).mono fun e w' ⟨h1, h2⟩ => ⟨h1, h2.symm⟩
          clear HS
          have HD := Lib.hid (show ls ≠ ks from fun e => hxy (by rw [← HX.out, ← HY.out, e]))
          clear hxy
          go_wp2_with fail
          go_quiet (first | (go_at_call 20; refine Calls.quiet_of_same (HT.out _)))
          go_wp2_with fail
          go_ret
          rw [decide_eq_false HD.out]
          exact ⟨rfl, HDW.out.more _⟩
      · obtain rfl : k = n := by omega
        have HD := Lib.hid (show ls = ks by
          apply List.ext_getElem (by rw [HN.out, HM.out])
          intro j h1 h2
          have := hsame j (by rw [← HN.out]; exact h1)
          simpa [List.getD, h1, h2] using this)
        clear hsame hbel
        go_wp2_with fail
        go_ret
        rw [decide_eq_true HD.out]
        exact ⟨rfl, HDW.out⟩
  · have HD := Lib.hid (show ls ≠ ks from fun e => hnm (by rw [← hn, ← hm, e]))
    rw [hn] at hln
    rw [hm] at hlm
    clear hl hk hn hm
    have e1 : ((n : Int) == (m : Int)) = false := by simp; omega
    have e2 : ((n : Int) != (m : Int)) = true := by simp; omega
    go_enter Try.func25, Try.ntmps25
    go_wp2_with fail
    go_ret
    rw [decide_eq_false HD.out]
    exact ⟨rfl, 0, rfl⟩
theorem xor_turn (c b : Int) (h0 : 0 ≤ c) (h1 : c ≤ 255) (h2 : 0 < b) (h3 : b ≤ 255) : bits .xor .u8 c b ≠ c ∧ 0 ≤ bits .xor .u8 c b ∧ bits .xor .u8 c b ≤ 255 := by
  rw [u8_xor c b h0 (by omega) (by omega) (by omega)]
  have hlt : c.toNat ^^^ b.toNat < 2 ^ 8 := Nat.xor_lt_two_pow (by omega) (by omega)
  refine ⟨fun e => ?_, by omega, by omega⟩
  have e' : c.toNat ^^^ b.toNat = c.toNat := by omega
  have : b.toNat = 0 := by
    have := congrArg (fun x => c.toNat ^^^ x) e'
    simp only [← Nat.xor_assoc, Nat.xor_self, Nat.zero_xor] at this
    exact this
  omega
theorem keep3 {w3 w' w'' : World} {a b : Addr} {u v : Value} (h : w'.cell? a = some u ∧ w'.cell? b = some v ∧ Below w3.heap.size w3 w') (hb : Below w'.heap.size w' w'') : w''.cell? a = some u ∧ w''.cell? b = some v ∧ Below w3.heap.size w3 w'' :=
  ⟨by rw [hb.cell (block_lt_of_cell h.1)]; exact h.1, by rw [hb.cell (block_lt_of_cell h.2.1)]; exact h.2.1, h.2.2.trans (hb.mono h.2.2.size)⟩
set_option maxHeartbeats 1000000 in
set_option maxRecDepth 100000 in
theorem turned_none (ao : Option Addr) (ca n : Nat) (ls : List (List Int)) (a b : Int) (w : World) (h : Rs w ao ca ls) (hn : ls.length = n) (m : Nat) (hm : (layL ls).length = m) (hb : m ≤ 5000000000000) (hno : ¬ Few ls ∨ m = 0 ∨ b = 0) :
    Calls Try.prog 8 #[.slice ao n ca, .int .i64 a, .int .u8 b] w (TruePost w) := by
  rcases few_or ls with hf | ⟨j, h1, h2, h3⟩
  · have H0 := Lib.hid (lay_ok ao ca n ls w h hn hf m hm (by omega))
    rcases Nat.eq_zero_or_pos m with h0 | h0
    · subst h0
      clear h hn hm hf hno
      go_enter Try.func8, Try.ntmps8
      go_wp2_with fail
      refine H0.out.mono ?_
      rintro e w1 ⟨o1, c1, rfl, _, _, hb1⟩
      go_wp2_with (go_at_call 17; refine (alive_any _).mono ?_; rintro e w6 ⟨rfl, hb6⟩)
      go_ret
      exact ⟨rfl, hb1.trans (hb6.mono hb1.size)⟩
    · obtain rfl : b = 0 := by
        rcases hno with h | h | h
        · exact absurd hf h
        · omega
        · exact h
      have e1 : ((m : Int) == 0) = false := by simp; omega
      clear h hn hm hf hno
      go_enter Try.func8, Try.ntmps8
      go_wp2_with fail
      refine H0.out.mono ?_
      rintro e w1 ⟨o1, c1, rfl, _, _, hb1⟩
      go_wp2_with (go_at_call 17; refine (alive_any _).mono ?_; rintro e w6 ⟨rfl, hb6⟩)
      go_ret
      exact ⟨rfl, hb1.trans (hb6.mono hb1.size)⟩
  · have H0 := Lib.hid (lay_no ao ca n ls w h hn j (by omega) h2 h3 m hm (by omega))
    clear h hn hm h1 h2 h3 hno
    go_enter Try.func8, Try.ntmps8
    go_wp2_with fail
    refine H0.out.mono ?_
    rintro e w1 ⟨rfl, hb1⟩
    go_wp2_with (go_at_call 17; refine (alive_any _).mono ?_; rintro e w6 ⟨rfl, hb6⟩)
    go_ret
    exact ⟨rfl, hb1.trans (hb6.mono hb1.size)⟩
set_option maxHeartbeats 4000000 in
set_option maxRecDepth 100000 in
theorem turned_one (ao : Option Addr) (ca n : Nat) (ls : List (List Int)) (a b : Int) (w : World) (h : Rs w ao ca ls) (hn : ls.length = n) (hf : Few ls) (m : Nat) (hm : (layL ls).length = m) (hb : m ≤ 5000000000000) (h0 : 0 < m) (hb0 : 0 < b) (hb1 : b ≤ 255) :
    Calls Try.prog 8 #[.slice ao n ca, .int .i64 a, .int .u8 b] w (TruePost w) := by
  have H0 := Lib.hid (lay_ok ao ca n ls w h hn hf m hm (by omega))
  have H := Lib.hid h
  have HN := Lib.hid hn
  have HM := Lib.hid hm
  have HF := Lib.hid hf
  have hln := h.len_le
  have hcap := h.cap_le
  rw [hn] at hln hcap
  have HBY : Hid (∀ x ∈ ls, Byte x) := fun x hx => by
    obtain ⟨i, hi, rfl⟩ := List.getElem_of_mem hx
    obtain ⟨_, _, _, _, _, _, hB⟩ := h.cells i hi
    have := hB.byte
    have e : ls.getD i [] = ls[i] := by simp [List.getD, hi]
    rw [← e]
    exact this
  obtain ⟨r, hr⟩ : ∃ r, a.tmod (m : Int) = r := ⟨_, rfl⟩
  have hr1 := tmod_range a (m : Int) (by omega)
  have hr2 := tmod_place a (m : Int) (by omega)
  rw [hr] at hr1 hr2
  obtain ⟨p, hp⟩ : ∃ p : Nat, (r + (m : Int)).tmod (m : Int) = (p : Int) := ⟨((r + (m : Int)).tmod (m : Int)).toNat, by omega⟩
  have hpm : p < m := by omega
  obtain ⟨hr3, hr4⟩ := hr1
  have hne : ((m : Int) == 0) = false := by simp; omega
  have hnb : (b == 0) = false := by simp; omega
  clear h hn hm hf hr2
  go_enter Try.func8, Try.ntmps8
  go_wp2_with fail
  refine H0.out.mono ?_
  rintro e w1 ⟨o1, c1, rfl, hown1, hB1, hbl1⟩
  obtain ⟨g, rfl, hg⟩ := hown1.at hpm
  have HL := Lib.hid hbl1
  have HO := Lib.hid hown1
  clear hB1 hbl1 H0 hown1
  go_wp2_with fail
  clear hr hp hr3 hr4
  have hc := HO.out.cell p hpm
  have hfz := HO.out.frozen p
  have hcr : 0 ≤ (layL ls).getD p 0 ∧ (layL ls).getD p 0 ≤ 255 := HO.out.bs.1.getD_byte p
  have hx := xor_turn _ b hcr.1 hcr.2 hb0 hb1
  obtain ⟨u, hu⟩ : ∃ u, bits .xor .u8 ((layL ls).getD p 0) b = u := ⟨_, rfl⟩
  rw [hu] at hx
  obtain ⟨hx1, hx2, hx3⟩ := hx
  obtain ⟨ks, j, hks⟩ : ∃ ks j, allL ((layL ls).set p u) = (ks, j) := ⟨_, _, rfl⟩
  obtain ⟨kl, hkl⟩ : ∃ kl, ks.length = kl := ⟨_, rfl⟩
  have HKS := Lib.hid hks
  have HKL := Lib.hid hkl
  have HT := Lib.hid (all_turn ls p u HF.out HBY.out (by rw [HM.out]; exact hpm) hx2 hx3 hx1)
  have HST := Lib.hid (HO.out.stored p u hx2 hx3)
  have HLS := Lib.hid (HL.out.setCell (p := ⟨g, p, none⟩) hg (.int .u8 u))
  rw [hks] at HT
  clear hx1 hcr hks hkl
  generalize (layL ls).getD p 0 = c at *
  go_loop [9, 10] (fun i j => ∃ k e : Nat, i = .int .i64 k ∧ j = .int .i64 e ∧ WholeAt ls p k e) (fun i _ => n - (intOf i).toNat)
  case atStart => exact ⟨0, 0, rfl, rfl, whole_start _ _⟩
  case round =>
    obtain ⟨k, e, rfl, rfl, hat⟩ := hrel
    have hkn := hat.1
    have hep := hat.2.1
    rw [HN.out] at hkn
    have HAT := Lib.hid hat
    clear hat
    by_cases hgo : k < n ∧ e + (ls.getD k []).length + 12 ≤ p
    · obtain ⟨hlt, hin⟩ := hgo
      obtain ⟨b1, q1, ao1, ca1, rfl, hcl, hBk⟩ := (H.out.below HL.out).cells k (by rw [HN.out]; exact hlt)
      have hxl : (ls.getD k []).length ≤ 65536 := HF.out _ (by simp [List.getD, show k < ls.length by rw [HN.out]; exact hlt])
      have hk0 : (k : Int) < (n : Int) := by omega
      have hk1 : decide ((k : Int) < (n : Int)) = true := by simp; omega
      have HS := Lib.hid (whole_step HAT.out (by rw [HN.out]; exact hlt) hin)
      have hin' : decide ((e : Int) + ((ls.getD k []).length : Int) + 12 ≤ (p : Int)) = true := by rw [decide_eq_true_eq]; omega
      clear hBk
      generalize (ls.getD k []).length = x at *
      go_wp2_with fail
      exact ⟨⟨k + 1, e + (x + 12), by go_num, by go_num, HS.out⟩, by simp [intOf]; omega⟩
    · have hwe : wholeL ls p = (k, e) := whole_end HAT.out fun hk => by
        rw [HN.out] at hk
        rcases Nat.lt_or_ge p (e + (ls.getD k []).length + 12) with h | h
        · exact h
        · exact absurd ⟨hk, h⟩ hgo
      have ht := HT.out
      rw [hwe] at ht
      obtain ⟨t1, t2, t3, t4⟩ := ht
      rw [HN.out] at t1
      obtain ⟨b1, q1, ao1, ca1, rfl, hcl, hBk⟩ := (H.out.below HL.out).cells k (by rw [HN.out]; exact t1)
      have hxl : (ls.getD k []).length ≤ 65536 := HF.out _ (by simp [List.getD, show k < ls.length by rw [HN.out]; exact t1])
      have hk0 : (k : Int) < (n : Int) := by omega
      have hk1 : decide ((k : Int) < (n : Int)) = true := by simp; omega
      have hin' : decide ((e : Int) + ((ls.getD k []).length : Int) + 12 ≤ (p : Int)) = false := by rw [decide_eq_false_iff_not]; omega
      have t2' : k ≤ kl := by rw [← HKL.out]; exact t2
      have HT3 : Hid (ks.take k = ls.take k) := t3
      have HT4 : Hid (k < ks.length → ks.getD k [] ≠ ls.getD k []) := t4
      have HAll := Lib.hid (all_s HKS.out HKL.out (all_any _ c1 m _ _ HST.out.bs.1 (by rw [List.length_set]; exact HM.out) (by omega)))
      clear hBk hgo hwe t2 t3 t4
      generalize (ls.getD k []).length = x at *
      go_wp2_with fail
      refine HAll.out.mono ?_
      rintro e w2 ⟨o2, c2, rfl, hown2, hR2, hb2⟩
      have HL2 := Lib.hid (HLS.out.trans (hb2.mono HLS.out.size))
      have HR2 := Lib.hid hR2
      have hkc := hR2.cap_le
      rw [HKL.out] at hkc
      have hd1 : decide ((kl : Int) < (k : Int)) = false := by simp; omega
      have hs1 := rows_h o2 c2 kl k t2' hkc
      have hs2 := rows_h (some ⟨b1, q1, none⟩) ca n k hkn hcap
      have HLQ : Hid (∀ q, Calls Try.prog 25 #[.slice (cutA o2 c2 0) k c2, .slice (cutA (some ⟨b1, q1, none⟩) ca 0) k ca] (w2.drewN q) fun e w' => e = .returned (.bool true) ∧ ∃ q', w' = (w2.drewN q).drewN q') := fun q => by
        have := lists_quiet (cutA o2 c2 0) (cutA (some ⟨b1, q1, none⟩) ca 0) c2 ca k k (ks.take k) (ls.take k) (w2.drewN q) ((HR2.out.below (below_dn' w2 q)).cut_h k) (((H.out.below HL2.out).below (below_dn' w2 q)).cut_h k)
          (by rw [List.length_take, HKL.out]; omega) (by rw [List.length_take, HN.out]; omega)
        rw [decide_eq_true HT3.out] at this
        exact this
      clear hb2 hown2 hR2 HAll hc hfz hu hcl hxl hin' hk1
      go_wp2_with fail
      go_quiet (first | (go_at_call 25; refine Calls.quiet_of (HLQ.out _)))
      obtain ⟨w3, hw3⟩ : ∃ w3, w2.drewN nq = w3 := ⟨_, rfl⟩
      have hb3 : Below w2.heap.size w2 w3 := hw3 ▸ below_dn' w2 nq
      rw [hw3]
      have HL3 := Lib.hid (HL2.out.trans (hb3.mono HL2.out.size))
      have HR3 := Lib.hid (HR2.out.below hb3)
      clear hb3 hw3 hs1 hs2 HLQ
      go_wp2_with fail
      clear hd1
      by_cases heq : kl = k
      · subst heq
        clear t2' hkc HT HT3 HT4 HKS HKL HST HLS HL HO HBY HF HM HN HR2 HR3 HL2 HAT hk0 hne hnb hx2 hx3 hpm hb h0 hb0 hb1 hln hcap hep hkn t1
        refine wp_region_held_drew (S := fun _ => True) (by kernel_rfl) trivial (fun _ => ?_)
        refine wpAnyH_take (i := 0) (v := .slice o2 kl c2) rfl (by kernel_rfl) (by kernel_rfl) (by kernel_rfl) (fun _ _ _ h => h) (Or.inl ⟨by rfl, fun w _ => by go_simp⟩) trivial ?_
        simp only [Act.put, List.setIfInBounds_toArray]
        refine wpAnyH_take (i := 1) (v := .int .i64 kl) rfl (by kernel_rfl) (by kernel_rfl) (by kernel_rfl) (fun _ _ _ h => h) (Or.inl ⟨by rfl, fun w _ => by go_simp⟩) trivial ?_
        simp only [Act.put]
        refine wpAnyH_take (i := 2) (v := .int .i64 kl) rfl (by kernel_rfl) (by kernel_rfl) (by kernel_rfl) (fun _ _ _ h => h) (Or.inl ⟨by rfl, fun w _ => by go_simp⟩) trivial ?_
        simp only [Act.put]
        refine wpAnyH_take (i := 3) (v := .bool true) rfl (by kernel_rfl) (by kernel_rfl) (by kernel_rfl) (fun _ _ _ h => h) (Or.inl ⟨by rfl, fun w _ => by go_simp⟩) trivial ?_
        simp only [Act.put]
        refine wpAnyH_take (i := 4) (v := .bool true) rfl (by kernel_rfl) (by kernel_rfl) (by kernel_rfl) (fun _ _ _ h => h) (Or.inl ⟨by rfl, fun w _ => by go_simp⟩) trivial ?_
        simp only [Act.put]
        refine wpAnyH_take (i := 5) (v := undef) rfl (by kernel_rfl) (by kernel_rfl) (by kernel_rfl) (fun _ _ _ h => h) (Or.inr ⟨by kernel_rfl, rfl⟩) trivial ?_
        simp only [Act.put]
        refine wpAnyH_take (i := 6) (v := undef) rfl (by kernel_rfl) (by kernel_rfl) (by kernel_rfl) (fun _ _ _ h => h) (Or.inr ⟨by kernel_rfl, rfl⟩) trivial ?_
        simp only [Act.put]
        refine wpAnyH_take (i := 7) (v := undef) rfl (by kernel_rfl) (by kernel_rfl) (by kernel_rfl) (fun _ _ _ h => h) (Or.inr ⟨by kernel_rfl, rfl⟩) trivial ?_
        simp only [Act.put]
        refine wpAnyH_take (i := 8) (v := undef) rfl (by kernel_rfl) (by kernel_rfl) (by kernel_rfl) (fun _ _ _ h => h) (Or.inr ⟨by kernel_rfl, rfl⟩) trivial ?_
        simp only [Act.put]
        refine wpAnyH_take (i := 9) (v := undef) rfl (by kernel_rfl) (by kernel_rfl) (by kernel_rfl) (fun _ _ _ h => h) (Or.inr ⟨by kernel_rfl, rfl⟩) trivial ?_
        simp only [Act.put]
        refine wpAnyH_take (i := 10) (v := undef) rfl (by kernel_rfl) (by kernel_rfl) (by kernel_rfl) (fun _ _ _ h => h) (Or.inr ⟨by kernel_rfl, rfl⟩) trivial ?_
        simp only [Act.put]
        refine wpAnyH_take (i := 11) (v := undef) rfl (by kernel_rfl) (by kernel_rfl) (by kernel_rfl) (fun _ _ _ h => h) (Or.inr ⟨by kernel_rfl, rfl⟩) trivial ?_
        simp only [Act.put]
        refine wpAnyH_take (i := 12) (v := undef) rfl (by kernel_rfl) (by kernel_rfl) (by kernel_rfl) (fun _ _ _ h => h) (Or.inr ⟨by kernel_rfl, rfl⟩) trivial ?_
        simp only [Act.put]
        refine wpAnyH_take (i := 13) (v := undef) rfl (by kernel_rfl) (by kernel_rfl) (by kernel_rfl) (fun _ _ _ h => h) (Or.inr ⟨by kernel_rfl, rfl⟩) trivial ?_
        simp only [Act.put]
        refine wpAnyH_take (i := 14) (v := undef) rfl (by kernel_rfl) (by kernel_rfl) (by kernel_rfl) (fun _ _ _ h => h) (Or.inr ⟨by kernel_rfl, rfl⟩) trivial ?_
        simp only [Act.put]
        refine wpAnyH_take (i := 15) (v := .bool true) rfl (by kernel_rfl) (by kernel_rfl) (by kernel_rfl) (fun _ _ _ h => h) (Or.inl ⟨by rfl, fun w _ => by go_simp⟩) trivial ?_
        simp only [Act.put]
        refine wpAnyH_take (i := 16) (v := .bool true) rfl (by kernel_rfl) (by kernel_rfl) (by kernel_rfl) (fun _ _ _ h => h) (Or.inl ⟨by rfl, fun w _ => by go_simp⟩) trivial ?_
        simp only [Act.put]
        refine wpAnyH_ready (rs := [17]) (by kernel_rfl) (by simp) ?_
        refine AllReadyH.cons rfl (fun K hK => ?_) AllReadyH.nil
        rw [if_pos (by kernel_rfl)]
        go_simp
        go_at_call 17
        refine (alive_any _).mono ?_
        rintro e w7 ⟨rfl, hb7⟩
        go_wp2_with fail
        refine hK.out _ _ trivial (fun _ => ?_)
        refine wpAnyH_take (i := 18) (v := .bool true) rfl (by kernel_rfl) (by kernel_rfl) (by kernel_rfl) (fun _ _ _ h => h) (Or.inl ⟨by rfl, fun w _ => by go_simp⟩) trivial ?_
        simp only [Act.put, List.getElem_toArray, List.getElem_cons_zero, List.getElem_cons_succ, List.setIfInBounds_toArray, List.set_cons_zero, List.set_cons_succ]
        refine wpAnyH_take (i := 19) (v := .bool true) rfl (by kernel_rfl) (by kernel_rfl) (by kernel_rfl) (fun _ _ _ h => h) (Or.inl ⟨by rfl, fun w _ => by go_simp⟩) trivial ?_
        simp only [Act.put, List.getElem_toArray, List.getElem_cons_zero, List.getElem_cons_succ, List.setIfInBounds_toArray, List.set_cons_zero, List.set_cons_succ]
        refine wpAnyH_done (by kernel_rfl) ?_ _
        go_wp2_with fail
        go_ret
        exact ⟨rfl, (HL3.out.drew).trans (hb7.mono HL3.out.size)⟩
      · have he1 : ((kl : Int) == (k : Int)) = false := by simp; omega
        have hkk : (k : Int) < (kl : Int) := by omega
        obtain ⟨b2, q2, ao2, ca2, rfl, hc2, hB2⟩ := HR3.out.cells k (by rw [HKL.out]; omega)
        obtain ⟨b', q', ao', ca', e1, hc1, hB1⟩ := (H.out.below HL3.out).cells k (by rw [HN.out]; omega)
        injection e1 with e1
        injection e1 with e1 e2
        subst e1 e2
        have HSM : Hid (∀ W, Below w3.heap.size w3 W → Calls Try.prog 20 #[.slice ao2 (ks.getD k []).length ca2, .slice ao' (ls.getD k []).length ca'] W (BoolPost W false)) := fun W hW => by
          have := same_any ao2 ao' ca2 ca' _ _ _ _ W (hB2.below hW) (hB1.below hW) rfl rfl
          rwa [decide_eq_false (HT4.out (by rw [HKL.out]; omega))] at this
        clear hB1 hB2 heq
        generalize (ks.getD k []).length = x2 at *
        generalize (ls.getD k []).length = x1 at *
        go_region_held3 (fun w' => w'.cell? ⟨b2, q2 + k, none⟩ = some (.slice ao2 x2 ca2) ∧ w'.cell? ⟨b1, q1 + k, none⟩ = some (.slice ao' x1 ca') ∧ Below w3.heap.size w3 w')
          (first | exact keep3 (by assumption) hb7 | exact ⟨hc2, hc1, (Below.refl _ _).drew⟩ | assumption)
          (first | (go_at_call 17; refine (alive_any _).mono ?_; rintro e w7 ⟨rfl, hb7⟩) | (go_at_call 20; refine (HSM.out _ ?_).mono ?_; (first | exact (Below.refl _ _).drew | exact (Below.refl _ _)); rintro e w' ⟨rfl, rfl⟩))
        go_wp2_with fail
        go_ret
        exact ⟨rfl, (HL3.out.drew).trans (hb7.mono HL3.out.size)⟩
theorem frameTurned_any (ao : Option Addr) (ca n : Nat) (ls : List (List Int)) (a b : Int) (w : World) (h : Rs w ao ca ls) (hn : ls.length = n) (m : Nat) (hm : (layL ls).length = m) (hb : m ≤ 5000000000000) (hw : 0 ≤ b ∧ b ≤ 255) :
    Calls Try.prog 8 #[.slice ao n ca, .int .i64 a, .int .u8 b] w (TruePost w) := by
  by_cases hno : ¬ Few ls ∨ m = 0 ∨ b = 0
  · exact turned_none ao ca n ls a b w h hn m hm hb hno
  · simp only [not_or, Classical.not_not] at hno
    exact turned_one ao ca n ls a b w h hn hno.1 m hm hb (by omega) (by omega) (by omega)
end Go.Proofs.Ytaniflbhkddlhaa
