/- The contracts of All, of the reference's All, and of the test whether two lists of bytes are the same; no condition but the sizes. -/
import Derived.Test.YtaniflbhkddlhaaR
import Derived.Test.YtaniflbhkddlhaaWh
namespace Go.Proofs.Ytaniflbhkddlhaa
open Go.RowKit
def AllPost (w : World) (r : List (List Int) × Nat) (e : Ending) (w' : World) : Prop := ∃ v, e = .returned (.tuple #[v, .int .i64 (r.2 : Nat)]) ∧ OwnR w' w.heap.size v r.1 ∧ Below w.heap.size w w'
set_option maxHeartbeats 400000 in
set_option maxRecDepth 100000 in
theorem all_any (ao : Option Addr) (ca n : Nat) (b : List Int) (w : World) (h : Bs w ao ca b) (hn : b.length = n) (hb : n ≤ 5000000000000) : Calls Try.prog 23 #[.slice ao n ca] w (AllPost w (allL b)) := by
  subst hn
  have H := Lib.hid h
  clear h
  go_enter Try.func23, Try.ntmps23
  go_wp2_with fail
  go_loopw [4, 5] (fun v i wr => ∃ (ls : List (List Int)) (k : Nat), i = .int .i64 k ∧ AllAt b ls k ∧ OwnR wr w.heap.size v ls ∧ Below w.heap.size w wr) (fun _ i _ => b.length - (intOf i).toNat)
  case atStart => exact ⟨[], 0, rfl, allAt_start b, OwnR.nil _ _, Below.refl _ _⟩
  case round =>
    obtain ⟨ls, k, rfl, hat, hv, hbel⟩ := hrel
    have hk := hat.1
    have HB := Lib.hid ((H.out.below hbel).cut_l k hk)
    have hs1 : ∀ W, (Instr.sliceAt 22 (.slice ao b.length ca) (some (.int .i64 k)) none none).run Try.prog W = .ok (.slice (cutA ao ca k) (b.length - k) (ca - k)) W := fun W => cut_l H.out k hk W
    have HV := Lib.hid hv
    have HL := Lib.hid hbel
    have HA := Lib.hid hat
    have hlk := hat.2.1
    clear hv hat hbel
    by_cases hc : (getL (b.drop k)).2.2 = 0
    · obtain ⟨q1, q2, _, q4, q5⟩ := get_ok _ hc
      have HS := Lib.hid (allAt_step HA.out hc)
      have hg := get_any _ _ (b.length - k) (b.drop k) wr HB.out (by simp)
      rw [q4] at hg
      have HG := Lib.hid (get_s q5 hg)
      have HQ5 := Lib.hid q5
      rw [List.length_drop] at q2
      clear hg q4 q5 hc
      generalize bodyL (b.drop k) = bd at *
      generalize headL (b.drop k) = p at *
      go_wp2_with fail
      refine HG.out.mono ?_
      rintro e w2 ⟨xo, xc, rfl, hown2, hB2, hb2⟩
      have HV2 := Lib.hid (HV.out.kept hb2)
      have HL2 := Lib.hid (HL.out.trans (hb2.mono HL.out.size))
      have HB2 := Lib.hid hB2
      have hlt2 : ∀ a, xo = some a → a.block < w2.heap.size ∧ some a.block ≠ u4.ownBlock := fun a ha => by
        obtain ⟨r1, r2⟩ := hown2.lt a ha
        refine ⟨r2, fun e => ?_⟩
        obtain ⟨vs, hrow, _⟩ := HV.out
        have := (hrow.lt _ e.symm).2
        omega
      have HLT := Lib.hid hlt2
      clear hlt2 hown2 hB2 hb2 HV HB HL hs1
      have hV3 := HV2.out.kept (below_alloc w2 (.cells #[.slice xo p xc] 22))
      have HV3 := Lib.hid hV3
      have HB3 := Lib.hid (HB2.out.alloc (.cells #[.slice xo p xc] 22))
      have hz := HL2.out.size
      clear hV3
      go_wp2_with (at_builtin; refine wpList_appr _ rfl _ _ rfl w.heap.size _ _ rfl HV3.out w2.heap.size _ p xo xc bd rfl (by simp) HQ5.out HB3.out (fun a ha => ⟨by have := (HLT.out a ha).1; simp; omega, (HLT.out a ha).2⟩) (by omega) (by simp; omega) ?_)
      intro v' w3 hown3 hg3
      have hb3 := OwnR.below_grown (HL2.out.alloc hz _) hg3 (by simp; omega) HV3.out (Nat.le_refl _)
      have HO := Lib.hid hown3
      have HB := Lib.hid hb3
      clear hown3 hg3 hb3 HV3 HB3
      go_wp2_with fail
      exact ⟨⟨_, k + (p + 12), by go_num, HS.out, HO.out, HB.out⟩, by simp [intOf]; omega⟩
    · obtain ⟨c, q1, q2⟩ := get_no _ hc
      have HE := Lib.hid (allAt_end HA.out hc)
      have hg := get_any _ _ (b.length - k) (b.drop k) wr HB.out (by simp)
      rw [q1] at hg
      have HG := Lib.hid (get_s (m := 0) rfl hg)
      have hc0 : (c != 0) = true := by rcases q2 with rfl | rfl | rfl <;> rfl
      clear hg q1 q2 hc
      go_wp2_with fail
      refine HG.out.mono ?_
      rintro e w2 ⟨xo, xc, rfl, hown2, hB2, hb2⟩
      have HV2 := Lib.hid (HV.out.kept hb2)
      have HL2 := Lib.hid (HL.out.trans (hb2.mono HL.out.size))
      clear hown2 hB2 hb2
      go_wp2_with fail
      go_ret2
      rw [HE.out]
      exact ⟨_, rfl, HV2.out, HL2.out⟩
set_option maxHeartbeats 400000 in
set_option maxRecDepth 100000 in
theorem refAll_any (ao : Option Addr) (ca n : Nat) (b : List Int) (w : World) (h : Bs w ao ca b) (hn : b.length = n) (hb : n ≤ 5000000000000) : Calls Try.prog 24 #[.slice ao n ca] w (AllPost w (allL b)) := by
  subst hn
  have H := Lib.hid h
  clear h
  go_enter Try.func24, Try.ntmps24
  go_wp2_with fail
  go_loopw [4, 5] (fun v i wr => ∃ (ls : List (List Int)) (k : Nat), i = .int .i64 k ∧ AllAt b ls k ∧ OwnR wr w.heap.size v ls ∧ Below w.heap.size w wr) (fun _ i _ => b.length - (intOf i).toNat)
  case atStart => exact ⟨[], 0, rfl, allAt_start b, OwnR.nil _ _, Below.refl _ _⟩
  case round =>
    obtain ⟨ls, k, rfl, hat, hv, hbel⟩ := hrel
    have hk := hat.1
    have HB := Lib.hid ((H.out.below hbel).cut_l k hk)
    have hs1 : ∀ W, (Instr.sliceAt 22 (.slice ao b.length ca) (some (.int .i64 k)) none none).run Try.prog W = .ok (.slice (cutA ao ca k) (b.length - k) (ca - k)) W := fun W => cut_l H.out k hk W
    have HV := Lib.hid hv
    have HL := Lib.hid hbel
    have HA := Lib.hid hat
    have hlk := hat.2.1
    have hle : decide ((k : Int) ≤ (b.length : Int)) = true := by simp; omega
    clear hv hat hbel
    by_cases hc : (getL (b.drop k)).2.2 = 0
    · obtain ⟨q1, q2, _, q4, q5⟩ := get_ok _ hc
      have HS := Lib.hid (allAt_step HA.out hc)
      have hg := refGet_any _ _ (b.length - k) (b.drop k) wr HB.out (by simp) (by omega)
      rw [q4] at hg
      have HG := Lib.hid (get_s q5 hg)
      have HQ5 := Lib.hid q5
      rw [List.length_drop] at q2
      clear hg q4 q5 hc
      generalize bodyL (b.drop k) = bd at *
      generalize headL (b.drop k) = p at *
      go_wp2_with fail
      refine HG.out.mono ?_
      rintro e w2 ⟨xo, xc, rfl, hown2, hB2, hb2⟩
      have HV2 := Lib.hid (HV.out.kept hb2)
      have HL2 := Lib.hid (HL.out.trans (hb2.mono HL.out.size))
      have HB2 := Lib.hid hB2
      have hlt2 : ∀ a, xo = some a → a.block < w2.heap.size ∧ some a.block ≠ u4.ownBlock := fun a ha => by
        obtain ⟨r1, r2⟩ := hown2.lt a ha
        refine ⟨r2, fun e => ?_⟩
        obtain ⟨vs, hrow, _⟩ := HV.out
        have := (hrow.lt _ e.symm).2
        omega
      have HLT := Lib.hid hlt2
      clear hlt2 hown2 hB2 hb2 HV HB HL hs1
      have hV3 := HV2.out.kept (below_alloc w2 (.cells #[.slice xo p xc] 22))
      have HV3 := Lib.hid hV3
      have HB3 := Lib.hid (HB2.out.alloc (.cells #[.slice xo p xc] 22))
      have hz := HL2.out.size
      clear hV3
      go_wp2_with (at_builtin; refine wpList_appr _ rfl _ _ rfl w.heap.size _ _ rfl HV3.out w2.heap.size _ p xo xc bd rfl (by simp) HQ5.out HB3.out (fun a ha => ⟨by have := (HLT.out a ha).1; simp; omega, (HLT.out a ha).2⟩) (by omega) (by simp; omega) ?_)
      intro v' w3 hown3 hg3
      have hb3 := OwnR.below_grown (HL2.out.alloc hz _) hg3 (by simp; omega) HV3.out (Nat.le_refl _)
      have HO := Lib.hid hown3
      have HB := Lib.hid hb3
      clear hown3 hg3 hb3 HV3 HB3
      go_wp2_with fail
      exact ⟨⟨_, k + (p + 12), by go_num, HS.out, HO.out, HB.out⟩, by simp [intOf]; omega⟩
    · obtain ⟨c, q1, q2⟩ := get_no _ hc
      have HE := Lib.hid (allAt_end HA.out hc)
      have hg := refGet_any _ _ (b.length - k) (b.drop k) wr HB.out (by simp) (by omega)
      rw [q1] at hg
      have HG := Lib.hid (get_s (m := 0) rfl hg)
      have hc0 : (c != 0) = true := by rcases q2 with rfl | rfl | rfl <;> rfl
      clear hg q1 q2 hc
      go_wp2_with fail
      refine HG.out.mono ?_
      rintro e w2 ⟨xo, xc, rfl, hown2, hB2, hb2⟩
      have HV2 := Lib.hid (HV.out.kept hb2)
      have HL2 := Lib.hid (HL.out.trans (hb2.mono HL.out.size))
      clear hown2 hB2 hb2
      go_wp2_with fail
      go_ret2
      rw [HE.out]
      exact ⟨_, rfl, HV2.out, HL2.out⟩
/-- An answer of true or false, that turned nothing that was there. -/
def ToldPost (w : World) (b : Bool) (e : Ending) (w' : World) : Prop := e = .returned (.bool b) ∧ Below w.heap.size w w'
set_option maxHeartbeats 4000000 in
set_option maxRecDepth 100000 in
theorem lists_any (ao bo : Option Addr) (ca cb n m : Nat) (ls ks : List (List Int)) (w : World) (hl : Rs w ao ca ls) (hk : Rs w bo cb ks) (hn : ls.length = n) (hm : ks.length = m) :
    Calls Try.prog 25 #[.slice ao n ca, .slice bo m cb] w (ToldPost w (decide (ls = ks))) := by
  have hln := hl.len_le
  have hlm := hk.len_le
  by_cases hnm : n = m
  · subst hnm
    have H := Lib.hid hl
    have K := Lib.hid hk
    have HN := Lib.hid hn
    have HM := Lib.hid hm
    rw [hn] at hln
    clear hl hk hn hm hlm
    go_enter Try.func25, Try.ntmps25
    go_wp2_with fail
    go_loopw [5] (fun i wr => ∃ k : Nat, k ≤ n ∧ i = .int .i64 k ∧ (∀ j, j < k → ls.getD j [] = ks.getD j []) ∧ Below w.heap.size w wr) (fun i _ => n - (intOf i).toNat)
    case atStart => exact ⟨0, by omega, rfl, fun j hj => by omega, Below.refl _ _⟩
    case round =>
      obtain ⟨k, hk, rfl, hsame, hbel⟩ := hrel
      by_cases hlt : k < n
      · obtain ⟨b1, o1, ao1, ca1, rfl, hc1, hB1⟩ := (H.out.below hbel).cells k (by rw [HN.out]; exact hlt)
        obtain ⟨b2, o2, ao2, ca2, rfl, hc2, hB2⟩ := (K.out.below hbel).cells k (by rw [HM.out]; exact hlt)
        have HS := Lib.hid (fun q => same_any ao1 ao2 ca1 ca2 _ _ _ _ (wr.drewN q) (hB1.below (below_dn' wr q)) (hB2.below (below_dn' wr q)) rfl rfl)
        have HSA := Lib.hid hsame
        have HL := Lib.hid hbel
        have hk0 : (k : Int) < (n : Int) := by omega
        obtain ⟨x, hx⟩ : ∃ x, ls.getD k [] = x := ⟨_, rfl⟩
        obtain ⟨y, hy⟩ : ∃ y, ks.getD k [] = y := ⟨_, rfl⟩
        have HX := Lib.hid hx
        have HY := Lib.hid hy
        rw [hx] at hc1 HS
        rw [hy] at hc2 HS
        clear hsame hB1 hB2 hbel hx hy
        have HB := Lib.hid (fun q => HL.out.trans ((below_dn' wr q).mono HL.out.size))
        by_cases hxy : x = y
        · rw [decide_eq_true hxy] at HS
          have HT : Hid (∀ q, Calls Try.prog 20 #[.slice ao1 x.length ca1, .slice ao2 y.length ca2] (wr.drewN q) fun e w' => e = .returned (.bool true) ∧ w' = wr.drewN q) := fun q => (HS.out q).mono fun e w' ⟨h1, h2⟩ => ⟨h1, h2.symm⟩
          have HXY := Lib.hid hxy
          clear HS hxy
          go_wp2_with fail
          go_quiet (first | (go_at_call 20; refine Calls.quiet_of_same (HT.out _)))
          go_wp2_with fail
          exact ⟨⟨k + 1, by omega, by go_num, (fun j hj => by
            by_cases e : j = k
            · rw [e, HX.out, HY.out, HXY.out]
            · exact HSA.out j (by omega)), HB.out _⟩, by simp [intOf]; omega⟩
        · rw [decide_eq_false hxy] at HS
          have HT : Hid (∀ q, Calls Try.prog 20 #[.slice ao1 x.length ca1, .slice ao2 y.length ca2] (wr.drewN q) fun e w' => e = .returned (.bool false) ∧ w' = wr.drewN q) := fun q => (HS.out q).mono fun e w' ⟨h1, h2⟩ => ⟨h1, h2.symm⟩
          clear HS
          have HD := Lib.hid (show ls ≠ ks from fun e => hxy (by rw [← HX.out, ← HY.out, e]))
          clear hxy
          go_wp2_with fail
          go_quiet (first | (go_at_call 20; refine Calls.quiet_of_same (HT.out _)))
          go_wp2_with fail
          go_ret
          rw [decide_eq_false HD.out]
          exact ⟨rfl, HB.out _⟩
      · obtain rfl : k = n := by omega
        have HD := Lib.hid (show ls = ks by
          apply List.ext_getElem (by rw [HN.out, HM.out])
          intro j h1 h2
          have := hsame j (by rw [← HN.out]; exact h1)
          simpa [List.getD, h1, h2] using this)
        have HL := Lib.hid hbel
        clear hsame hbel
        go_wp2_with fail
        go_ret
        rw [decide_eq_true HD.out]
        exact ⟨rfl, HL.out⟩
  · have HD := Lib.hid (show ls ≠ ks from fun e => hnm (by rw [← hn, ← hm, e]))
    rw [hn] at hln
    rw [hm] at hlm
    clear hl hk hn hm
    have e1 : ((n : Int) == (m : Int)) = false := by simp; omega
    have e2 : ((n : Int) != (m : Int)) = true := by simp; omega
    go_enter Try.func25, Try.ntmps25
    go_wp2_with fail
    go_ret
    rw [decide_eq_false HD.out]
    exact ⟨rfl, Below.refl _ _⟩
end Go.Proofs.Ytaniflbhkddlhaa
