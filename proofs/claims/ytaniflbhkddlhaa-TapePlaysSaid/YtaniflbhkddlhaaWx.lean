/- The walk of FrameCut; no condition but the sizes. -/
import Derived.Test.YtaniflbhkddlhaaWw
namespace Go.Proofs.Ytaniflbhkddlhaa
open Go.RowKit
/-- Where the search for the whole frames ahead of a place stands. -/
def WholeAt (ls : List (List Int)) (n k e : Nat) : Prop := k ≤ ls.length ∧ e ≤ n ∧ wholeL ls n = (k + (wholeL (ls.drop k) (n - e)).1, e + (wholeL (ls.drop k) (n - e)).2)
theorem whole_start (ls : List (List Int)) (n : Nat) : WholeAt ls n 0 0 := ⟨Nat.zero_le _, Nat.zero_le _, by simp⟩
theorem drop_one (ls : List (List Int)) (k : Nat) (h : k < ls.length) : ls.drop k = ls.getD k [] :: ls.drop (k + 1) := by
  rw [List.drop_eq_getElem_cons h]
  simp [List.getD, h]
theorem whole_step {ls : List (List Int)} {n k e : Nat} (h : WholeAt ls n k e) (hk : k < ls.length) (he : e + (ls.getD k []).length + 12 ≤ n) : WholeAt ls n (k + 1) (e + ((ls.getD k []).length + 12)) := by
  obtain ⟨h1, h2, h3⟩ := h
  refine ⟨hk, by omega, ?_⟩
  rw [h3, drop_one ls k hk]
  simp only [wholeL]
  rw [if_pos (by omega), Nat.sub_sub]
  simp only [Prod.mk.injEq]
  omega
theorem whole_end {ls : List (List Int)} {n k e : Nat} (h : WholeAt ls n k e) (hk : k < ls.length → n < e + (ls.getD k []).length + 12) : wholeL ls n = (k, e) := by
  obtain ⟨h1, h2, h3⟩ := h
  by_cases hlt : k < ls.length
  · have := hk hlt
    rw [h3, drop_one ls k hlt]
    simp only [wholeL]
    rw [if_neg (by omega)]
    rfl
  · rw [h3, List.drop_of_length_le (by omega)]
    rfl
theorem elem37 : Try.prog.elem 37 = 22 := by kernel_rfl
theorem under37 : Try.prog.underlying 37 = some (.slice (Try.prog.elem 37)) := by kernel_rfl
theorem size22 (w : World) : (sizeOf 22).run Try.prog w = .ok 1 w := by kernel_rfl
theorem Rs.cut_h {w : World} {ao : Option Addr} {cap : Nat} {ls : List (List Int)} (h : Rs w ao cap ls) (k : Nat) : Rs w (cutA ao cap 0) cap (ls.take k) := by
  have hc : cutA ao cap 0 = ao := by
    unfold cutA
    split
    · rfl
    · cases ao with
      | none => rfl
      | some a => simp [Addr.add]
  rw [hc]
  refine ⟨fun i hi => ?_, by have := h.cap_le; simp; omega, h.max, h.nil⟩
  have hi' : i < k ∧ i < ls.length := by simp at hi; omega
  obtain ⟨b, o, ao', cap', rfl, hc, hB⟩ := h.cells i hi'.2
  have e : (ls.take k).getD i [] = ls.getD i [] := by simp only [List.getD, List.getElem?_take]; rw [if_pos hi'.1]
  exact ⟨b, o, ao', cap', rfl, by rw [e]; exact hc, by rw [e]; exact hB⟩
theorem rows_h (ao : Option Addr) (cap n k : Nat) (h2 : k ≤ n) (hc : n ≤ cap) (W : World) :
    (Instr.sliceAt 37 (.slice ao n cap) none (some (.int .i64 k)) none).run Try.prog W = .ok (.slice (cutA ao cap 0) k cap) W := by
  rw [run_sliceAt_slice _ _ _ _ _ _ under37, run_slice_h W 37 ao n cap under37 .i64 k (by omega) (by omega), elem37, size22]
  rfl
theorem tmod_range (a n : Int) (hn : 0 < n) : - n < a.tmod n ∧ a.tmod n < n := ⟨Int.lt_tmod_of_pos a hn, Int.tmod_lt_of_pos a hn⟩
theorem tmod_place (a n : Int) (hn : 0 < n) : 0 ≤ (a.tmod n + n).tmod n ∧ (a.tmod n + n).tmod n < n := by
  have := tmod_range a n hn
  exact ⟨Int.tmod_nonneg _ (by omega), Int.tmod_lt_of_pos _ hn⟩
set_option maxHeartbeats 1000000 in
set_option maxRecDepth 100000 in
theorem frameCut_any (ao : Option Addr) (ca n : Nat) (ls : List (List Int)) (a : Int) (w : World) (h : Rs w ao ca ls) (hn : ls.length = n) (m : Nat) (hm : (layL ls).length = m) (hb : m ≤ 5000000000000) :
    Calls Try.prog 9 #[.slice ao n ca, .int .i64 a] w (TruePost w) := by
  rcases few_or ls with hf | ⟨j, h1, h2, h3⟩
  · have H0 := Lib.hid (lay_ok ao ca n ls w h hn hf m hm (by omega))
    have H := Lib.hid h
    have HN := Lib.hid hn
    have HM := Lib.hid hm
    have HF := Lib.hid hf
    have hln := h.len_le
    have hcap := h.cap_le
    rw [hn] at hln hcap
    obtain ⟨r, hr⟩ : ∃ r, a.tmod ((m : Int) + 1) = r := ⟨_, rfl⟩
    have hr1 := tmod_range a ((m : Int) + 1) (by omega)
    have hr2 := tmod_place a ((m : Int) + 1) (by omega)
    rw [hr] at hr1 hr2
    obtain ⟨p, hp⟩ : ∃ p : Nat, (r + ((m : Int) + 1)).tmod ((m : Int) + 1) = (p : Int) := ⟨((r + ((m : Int) + 1)).tmod ((m : Int) + 1)).toNat, by omega⟩
    have hpm : p ≤ m := by omega
    obtain ⟨hr3, hr4⟩ := hr1
    clear h hn hm hf hr2
    have hne : ((m : Int) + 1 == 0) = false := by simp; omega
    go_enter Try.func9, Try.ntmps9
    go_wp2_with fail
    refine H0.out.mono ?_
    rintro e w1 ⟨o1, c1, rfl, _, hB1, hb1⟩
    have HL := Lib.hid hb1
    have HB := Lib.hid hB1
    clear hB1 hb1 H0
    go_wp2_with fail
    clear hr hp hr3 hr4 hne
    go_loop [8, 9] (fun i j => ∃ k e : Nat, i = .int .i64 k ∧ j = .int .i64 e ∧ WholeAt ls p k e) (fun i _ => n - (intOf i).toNat)
    case atStart => exact ⟨0, 0, rfl, rfl, whole_start _ _⟩
    case round =>
      obtain ⟨k, e, rfl, rfl, hat⟩ := hrel
      have hkn := hat.1
      have hep := hat.2.1
      rw [HN.out] at hkn
      have HAT := Lib.hid hat
      clear hat
      by_cases hgo : k < n ∧ e + (ls.getD k []).length + 12 ≤ p
      · obtain ⟨hlt, hin⟩ := hgo
        obtain ⟨b1, q1, ao1, ca1, rfl, hcl, hBk⟩ := (H.out.below HL.out).cells k (by rw [HN.out]; exact hlt)
        have hxl := hBk.len_le
        have hk0 : (k : Int) < (n : Int) := by omega
        have hk1 : decide ((k : Int) < (n : Int)) = true := by simp; omega
        have HS := Lib.hid (whole_step HAT.out (by rw [HN.out]; exact hlt) hin)
        have hin' : decide ((e : Int) + ((ls.getD k []).length : Int) + 12 ≤ (p : Int)) = true := by rw [decide_eq_true_eq]; omega
        clear hBk
        generalize (ls.getD k []).length = x at *
        go_wp2_with fail
        exact ⟨⟨k + 1, e + (x + 12), by go_num, by go_num, HS.out⟩, by simp [intOf]; omega⟩
      · have hwe : wholeL ls p = (k, e) := whole_end HAT.out fun hk => by
          rw [HN.out] at hk
          rcases Nat.lt_or_ge p (e + (ls.getD k []).length + 12) with h | h
          · exact h
          · exact absurd ⟨hk, h⟩ hgo
        have HQ : Hid (allL ((layL ls).take p) = (ls.take k, e)) := by
          have := all_cut ls p HF.out
          rw [hwe] at this
          exact this
        have HPL : Hid (((layL ls).take p).length = p) := by
          show _ = _
          simp [HM.out]; omega
        have HTL : Hid ((ls.take k).length = k) := by
          show _ = _
          simp [HN.out]; omega
        have HP := Lib.hid (HB.out.cut_h p (by rw [HM.out]; exact hpm))
        have hs1 : ∀ W, (Instr.sliceAt 22 (.slice o1 m c1) none (some (.int .i64 p)) none).run Try.prog W = .ok (.slice (cutA o1 c1 0) p c1) W := fun W => by
          have := cut_h HB.out p (by rw [HM.out]; exact hpm) W
          rwa [HM.out] at this
        have HA := Lib.hid (all_s HQ.out HTL.out (all_any _ c1 p _ w1 HP.out HPL.out (by omega)))
        have hs2 := rows_h ao ca n k hkn hcap
        have HRS := Lib.hid ((H.out.below HL.out).cut_h k)
        clear hwe
        rcases Nat.lt_or_ge k n with hlt | hge
        case' inl =>
          obtain ⟨b1, q1, ao1, ca1, rfl, hcl, hBk⟩ := (H.out.below HL.out).cells k (by rw [HN.out]; exact hlt)
          have hxl : (ls.getD k []).length ≤ 65536 := HF.out _ (by simp [List.getD, show k < ls.length by rw [HN.out]; exact hlt])
          have hk0 : (k : Int) < (n : Int) := by omega
          have hk1 : decide ((k : Int) < (n : Int)) = true := by simp; omega
          have hin' : decide ((e : Int) + ((ls.getD k []).length : Int) + 12 ≤ (p : Int)) = false := by rw [decide_eq_false_iff_not]; omega
          clear hBk hgo
          generalize (ls.getD k []).length = x at *
          go_wp2_with fail
        case' inr =>
          have hk1 : decide ((k : Int) < (n : Int)) = false := by simp; omega
          clear hgo
          go_wp2_with fail
        all_goals
          refine HA.out.mono ?_
          rintro e w2 ⟨o2, c2, rfl, _, hR2, hb2⟩
          have HL2 := Lib.hid (HL.out.trans (hb2.mono HL.out.size))
          have HT := lists_any o2 _ c2 ca k k (ls.take k) (ls.take k) w2 hR2 (HRS.out.below hb2) HTL.out HTL.out
          rw [decide_eq_true (show ls.take k = ls.take k from rfl)] at HT
          have HT := Lib.hid HT
          clear hR2 hb2
          go_wp2_with fail
          refine HT.out.mono ?_
          rintro e w3 ⟨rfl, hb3⟩
          have HL3 := Lib.hid (HL2.out.trans (hb3.mono HL2.out.size))
          clear hb3
          go_wp2_with (go_at_call 17; refine (alive_any _).mono ?_; rintro e w6 ⟨rfl, hb6⟩)
          go_ret
          exact ⟨rfl, HL3.out.trans (hb6.mono HL3.out.size)⟩
  · have H0 := Lib.hid (lay_no ao ca n ls w h hn j (by omega) h2 h3 m hm (by omega))
    clear h hn hm h1 h2 h3
    go_enter Try.func9, Try.ntmps9
    go_wp2_with fail
    refine H0.out.mono ?_
    rintro e w1 ⟨rfl, hb1⟩
    go_wp2_with (go_at_call 17; refine (alive_any _).mono ?_; rintro e w6 ⟨rfl, hb6⟩)
    go_ret
    exact ⟨rfl, hb1.trans (hb6.mono hb1.size)⟩
end Go.Proofs.Ytaniflbhkddlhaa
