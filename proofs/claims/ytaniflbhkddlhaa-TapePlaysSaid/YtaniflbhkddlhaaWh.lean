/- The contract of the reference's Get; no condition but that the length fits. -/
import Derived.Test.YtaniflbhkddlhaaWg
import Derived.BigQuiet
import Derived.Deep.QuietTactic
namespace Go.Proofs.Ytaniflbhkddlhaa
open Go.RowKit
theorem word4 (a b c d : Int) : wordL [a, b, c, d] = a + b * 256 + c * 65536 + d * 16777216 := by simp [wordL]; omega
theorem head4 (b : List Int) (h : 4 ≤ b.length) : wordL (b.take 4) = b.getD 0 0 + b.getD 1 0 * 256 + b.getD 2 0 * 65536 + b.getD 3 0 * 16777216 := by
  match b, h with
  | x :: y :: z :: u :: r, _ => simp [word4, List.getD]
theorem wordL_inj : ∀ {l m : List Int}, Byte l → Byte m → l.length = m.length → wordL l = wordL m → l = m
  | [], [], _, _, _, _ => rfl
  | [], _ :: _, _, _, h, _ => by simp at h
  | _ :: _, [], _, _, h, _ => by simp at h
  | c :: r, d :: s, h1, h2, h, e => by
    have hc := h1 c (List.mem_cons_self ..)
    have hd := h2 d (List.mem_cons_self ..)
    simp only [wordL] at e
    have hr : wordL r = wordL s := by omega
    have hcd : c = d := by omega
    rw [hcd, wordL_inj (fun x hx => h1 x (List.mem_cons_of_mem _ hx)) (fun x hx => h2 x (List.mem_cons_of_mem _ hx)) (by simpa using h) hr]
theorem bytes8 (n : Int) : bytesL n 8 = [n % 256, n / 256 % 256, n / 65536 % 256, n / 16777216 % 256, n / 4294967296 % 256, n / 1099511627776 % 256, n / 281474976710656 % 256, n / 72057594037927936 % 256] := by
  simp [bytesL, List.range_succ]
theorem word_bytes8 (n : Int) (h0 : 0 ≤ n) (h1 : n < 18446744073709551616) : wordL (bytesL n 8) = n := by
  rw [bytes8]
  simp only [wordL]
  omega
theorem tail_iff (l : List Int) (h : Byte l) (h8 : l.length = 8) (s : Int) (h0 : 0 ≤ s) (h1 : s < 18446744073709551616) : decide (l = bytesL s 8) = decide (wordL l = s) := by
  rw [Bool.eq_iff_iff, decide_eq_true_eq, decide_eq_true_eq]
  constructor
  · intro e; rw [e, word_bytes8 s h0 h1]
  · intro e; exact wordL_inj h (bytesL_byte _ _) (by rw [h8, bytesL_len]) (by rw [e, word_bytes8 s h0 h1])
theorem below_dn (w : World) (q : Nat) : Below w.heap.size w (w.drewN q).drew := ⟨rfl, rfl, rfl, Nat.le_refl _, fun _ _ => rfl⟩
theorem below_dn' (w : World) (q : Nat) : Below w.heap.size w (w.drewN q) := ⟨rfl, rfl, rfl, Nat.le_refl _, fun _ _ => rfl⟩
set_option maxHeartbeats 400000 in
set_option maxRecDepth 100000 in
theorem refGet_short (ao : Option Addr) (ca n : Nat) (w : World) (hn : n < 4) : Calls Try.prog 22 #[.slice ao n ca] w (GetPost w [] 0 4) := by
  go_enter Try.func22, Try.ntmps22
  go_wp2
  go_ret3
  exact ⟨_, rfl, OwnB.nil _ _, Below.refl _ _⟩
set_option maxHeartbeats 4000000 in
set_option maxRecDepth 100000 in
theorem refGet_more (ao : Option Addr) (ca n : Nat) (b : List Int) (w : World) (h : Bs w ao ca b) (hn : b.length = n) (h4 : 4 ≤ n) (hbig : n ≤ 9223372036854775000) :
    Calls Try.prog 22 #[.slice ao n ca] w (GetP w (getL b)) := by
  subst hn
  have hh := (headL_eq b h.byte).2
  have he := (headL_eq b h.byte).1
  rw [head4 b h4] at he
  obtain ⟨bb, oo, rfl, q0⟩ := h.cells 0 (by omega)
  obtain ⟨b1, o1, e1, q1⟩ := h.cells 1 (by omega)
  injection e1 with e1; injection e1 with e1 e2; subst e1 e2
  obtain ⟨b1, o1, e1, q2⟩ := h.cells 2 (by omega)
  injection e1 with e1; injection e1 with e1 e2; subst e1 e2
  obtain ⟨b1, o1, e1, q3⟩ := h.cells 3 (by omega)
  injection e1 with e1; injection e1 with e1 e2; subst e1 e2
  obtain ⟨x0, y0⟩ := h.getD_byte 0
  obtain ⟨x1, y1⟩ := h.getD_byte 1
  obtain ⟨x2, y2⟩ := h.getD_byte 2
  obtain ⟨x3, y3⟩ := h.getD_byte 3
  generalize b.getD 0 0 = z0 at *
  generalize b.getD 1 0 = z1 at *
  generalize b.getD 2 0 = z2 at *
  generalize b.getD 3 0 = z3 at *
  rw [Nat.add_zero] at q0
  have H := Lib.hid h
  have HE := Lib.hid he
  have hl4 : (3 : Int) < (b.length : Int) := by omega
  clear h he
  go_enter Try.func22, Try.ntmps22
  go_wp2_with fail
  go_quiet (fail)
  rw [← HE.out]
  clear q0 q1 q2 q3 x0 x1 x2 x3 y0 y1 y2 y3 HE
  by_cases c1 : 65536 < headL b
  · have HR := Lib.hid (show getL b = ([], 0, 5) by unfold getL; rw [if_neg (by omega), if_pos c1])
    generalize headL b = p at *
    go_wp2_with fail
    go_ret3
    rw [HR.out]
    exact ⟨_, rfl, OwnB.nil _ _, below_dn' _ _⟩
  · by_cases c2 : b.length < headL b + 12
    · have HR := Lib.hid (show getL b = ([], 0, 4) by unfold getL; rw [if_neg (by omega), if_neg c1, if_pos c2])
      generalize headL b = p at *
      go_wp2_with fail
      go_ret3
      rw [HR.out]
      exact ⟨_, rfl, OwnB.nil _ _, below_dn' _ _⟩
    · have hs2 : ∀ W, (Instr.sliceAt 22 (.slice (some ⟨bb, oo, none⟩) b.length ca) (some (.int .i64 (4 + (headL b : Int)))) (some (.int .i64 (12 + (headL b : Int)))) none).run Try.prog W = .ok (.slice (cutA (some ⟨bb, oo, none⟩) ca (4 + headL b)) 8 (ca - (4 + headL b))) W := fun W => by
        have h1 := cut_lh H.out (4 + headL b) (12 + headL b) (by omega) (by omega) W
        rw [show 12 + headL b - (4 + headL b) = 8 by omega] at h1
        rw [show (4 : Int) + (headL b : Int) = ((4 + headL b : Nat) : Int) by omega, show (12 : Int) + (headL b : Int) = ((12 + headL b : Nat) : Int) by omega]
        exact h1
      have hs3 : ∀ W, (Instr.sliceAt 22 (.slice (some ⟨bb, oo, none⟩) b.length ca) (some (.int .i64 4)) (some (.int .i64 (4 + (headL b : Int)))) none).run Try.prog W = .ok (.slice (cutA (some ⟨bb, oo, none⟩) ca 4) (headL b) (ca - 4)) W := fun W => by
        have h1 := cut_lh H.out 4 (4 + headL b) (by omega) (by omega) W
        rw [show 4 + headL b - 4 = headL b by omega] at h1
        rw [show (4 : Int) + (headL b : Int) = ((4 + headL b : Nat) : Int) by omega]
        exact h1
      have hlen : (bodyL b).length = headL b := by simp [bodyL]; omega
      have htl : ((b.take (12 + headL b)).drop (4 + headL b)).length = 8 := by simp; omega
      have htb : Byte ((b.take (12 + headL b)).drop (4 + headL b)) := (Byte.take H.out.byte _).drop _
      have hsr := sumL_range (bodyL b)
      have HS : Hid (∀ W, Below w.heap.size w W → Calls Try.prog 16 #[.slice (cutA (some ⟨bb, oo, none⟩) ca 4) (headL b) (ca - 4)] W (NumPost W .u64 (sumL (bodyL b)))) := fun W hW =>
        refSum_any _ _ (headL b) (bodyL b) W ((H.out.below hW).cut 4 (4 + headL b) (by omega) (by omega)) hlen (by omega)
      have HN : Hid (∀ W, Calls Try.prog 48 #[.int .u64 (sumL (bodyL b)), .int .i64 8] W (MadeS W (bytesL (sumL (bodyL b)) 8) 8)) := fun W => made_s (bytesL_len _ _) (number_any _ 8 W hsr.1 hsr.2 (.inr rfl))
      have HC : Hid (∀ W, Below w.heap.size w W → (convert 22 9 (.slice (cutA (some ⟨bb, oo, none⟩) ca (4 + headL b)) 8 (ca - (4 + headL b)))).run Try.prog W = .ok (.string (strOfNums ((b.take (12 + headL b)).drop (4 + headL b)))) W) := fun W hW => by
        have := conv_bs ((H.out.below hW).cut (4 + headL b) (12 + headL b) (by omega) (by omega))
        rwa [htl] at this
      have hq := (str_eq htb (bytesL_byte (sumL (bodyL b)) 8)).trans (tail_iff _ htb htl _ hsr.1 hsr.2)
      have htd : wordL ((b.take (12 + headL b)).drop (4 + headL b)) = tailL b := rfl
      rw [htd] at hq
      have HBO : Hid (∀ W, Below w.heap.size w W → Bs W (cutA (some ⟨bb, oo, none⟩) ca 4) (ca - 4) (bodyL b)) := fun W hW => (H.out.below hW).cut 4 (4 + headL b) (by omega) (by omega)
      have HLEN := Lib.hid hlen
      clear htl htb hsr htd hlen
      generalize (b.take (12 + headL b)).drop (4 + headL b) = tb at *
      by_cases c3 : tailL b = sumL (bodyL b)
      · have HR := Lib.hid (show getL b = (bodyL b, (headL b : Int) + 12, 0) by unfold getL; rw [if_neg (by omega), if_neg c1, if_neg c2, if_neg (by simpa using c3)])
        have e1 : ((strOfNums tb).toList == (strOfNums (bytesL (sumL (bodyL b)) 8)).toList) = true := by rw [hq]; simpa using c3
        clear c3 hq
        have hc0 := HC.out (w.drewN (nq + 1)) (below_dn' w _)
        generalize sumL (bodyL b) = sb at *
        generalize bodyL b = bd at *
        generalize headL b = p at *
        have hwr : IntKind.i64.wrap (4 + (p : Int)) = 4 + (p : Int) := IntWalk.i64_in _ (by omega)
        have hwr2 : IntKind.i64.wrap (12 + (p : Int)) = 12 + (p : Int) := IntWalk.i64_in _ (by omega)
        go_wp2_with fail
        go_region_with (first | (go_at_call 16; refine (HS.out _ ?_).mono ?_; (exact (below_dn' _ _)); rintro e w' ⟨rfl, rfl⟩) | (go_at_call 48; refine (HN.out _).mono ?_; rintro e w2 ⟨o2, c2, rfl, _, _, hB2, hb2⟩; have hcv := conv_bs hB2; rw [bytesL_len] at hcv; have hbw2 := (below_dn' w (nq + 1)).trans (hb2.mono (Nat.le_refl _)); have hc2 := HC.out _ hbw2))
        all_goals
          have HBW := Lib.hid hbw2
          have HB3 := Lib.hid (HBO.out _ hbw2)
          clear hcv hc2 hB2 hb2 hbw2 hwr hwr2 hc0
          go_wp2_with (at_builtin; refine wpList_app _ rfl _ _ rfl w.heap.size _ [] rfl (OwnB.nil _ _) _ _ _ _ rfl HB3.out HLEN.out (by have := HLEN.out; simp; omega) HBW.out.size ?_)
          intro v3 w3 hv3 hg3 _
          have hb3 := Lib.hid (below_grown HBW.out hg3 HBW.out.size (OwnB.nil _ w.heap.size) (Nat.le_refl _))
          have HV3 := Lib.hid hv3
          clear hv3 hg3
          go_wp2_with fail
          go_ret3
          rw [HR.out]
          exact ⟨v3, rfl, HV3.out, hb3.out⟩
      · have HR := Lib.hid (show getL b = ([], 0, 8) by unfold getL; rw [if_neg (by omega), if_neg c1, if_neg c2, if_pos c3])
        have e1 : ((strOfNums tb).toList == (strOfNums (bytesL (sumL (bodyL b)) 8)).toList) = false := by rw [hq]; simpa using c3
        clear c3 hq
        have hc0 := HC.out (w.drewN (nq + 1)) (below_dn' w _)
        generalize sumL (bodyL b) = sb at *
        generalize headL b = p at *
        have hwr : IntKind.i64.wrap (4 + (p : Int)) = 4 + (p : Int) := IntWalk.i64_in _ (by omega)
        have hwr2 : IntKind.i64.wrap (12 + (p : Int)) = 12 + (p : Int) := IntWalk.i64_in _ (by omega)
        go_wp2_with fail
        go_region_with (first | (go_at_call 16; refine (HS.out _ ?_).mono ?_; (exact (below_dn' _ _)); rintro e w' ⟨rfl, rfl⟩) | (go_at_call 48; refine (HN.out _).mono ?_; rintro e w2 ⟨o2, c2, rfl, _, _, hB2, hb2⟩; have hcv := conv_bs hB2; rw [bytesL_len] at hcv; have hbw2 := (below_dn' w (nq + 1)).trans (hb2.mono (Nat.le_refl _)); have hc2 := HC.out _ hbw2))
        all_goals
          go_wp2_with fail
          go_ret3
          rw [HR.out]
          exact ⟨_, rfl, OwnB.nil _ _, hbw2⟩
theorem refGet_any (ao : Option Addr) (ca n : Nat) (b : List Int) (w : World) (h : Bs w ao ca b) (hn : b.length = n) (hbig : n ≤ 9223372036854775000) : Calls Try.prog 22 #[.slice ao n ca] w (GetP w (getL b)) := by
  by_cases h4 : n < 4
  · rw [show getL b = ([], 0, 4) by unfold getL; rw [if_pos (by omega)]]
    exact refGet_short ao ca n w h4
  · exact refGet_more ao ca n b w h hn (by omega) hbig
end Go.Proofs.Ytaniflbhkddlhaa
