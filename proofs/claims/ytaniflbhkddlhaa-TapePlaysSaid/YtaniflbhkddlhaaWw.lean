/- The contract of lay, and the walk of FrameBack; no condition but the sizes. -/
import Derived.Test.YtaniflbhkddlhaaU
import Derived.Test.YtaniflbhkddlhaaWv
namespace Go.Proofs.Ytaniflbhkddlhaa
open Go.RowKit
def LayOk (w : World) (q : List Int) (m : Nat) (e : Ending) (w' : World) : Prop :=
  ∃ ao cap, e = .returned (.tuple #[.slice ao m cap, .bool true]) ∧ OwnB w' w.heap.size (.slice ao m cap) q ∧ Bs w' ao cap q ∧ Below w.heap.size w w'
def LayNo (w : World) (e : Ending) (w' : World) : Prop := e = .returned (.tuple #[.slice none 0 0, .bool false]) ∧ Below w.heap.size w w'
theorem layL_le (ls : List (List Int)) (k : Nat) : (layL (ls.take k)).length ≤ (layL ls).length := by
  have h : layL ls = layL (ls.take k) ++ layL (ls.drop k) := by simp only [layL, ← List.flatten_append, ← List.map_append, List.take_append_drop]
  rw [h, List.length_append]; omega
set_option maxHeartbeats 400000 in
set_option maxRecDepth 100000 in
theorem lay_ok (ao : Option Addr) (ca n : Nat) (ls : List (List Int)) (w : World) (h : Rs w ao ca ls) (hn : ls.length = n) (hf : Few ls) (m : Nat) (hm : (layL ls).length = m) (hb : m ≤ 60000000000000) :
    Calls Try.prog 26 #[.slice ao n ca] w (LayOk w (layL ls) m) := by
  have hl := h.len_le
  rw [hn] at hl
  have H := Lib.hid h
  have HN := Lib.hid hn
  have HF := Lib.hid hf
  have HM := Lib.hid hm
  clear h hn hf hm
  go_enter Try.func26, Try.ntmps26
  go_wp2_with fail
  go_loopw [4, 11] (fun v i wr => ∃ k : Nat, k ≤ n ∧ i = .int .i64 k ∧ OwnB wr w.heap.size v (layL (ls.take k)) ∧ Below w.heap.size w wr) (fun _ i _ => n - (intOf i).toNat)
  case atStart => exact ⟨0, by omega, rfl, OwnB.nil _ _, Below.refl _ _⟩
  case round =>
    obtain ⟨k, hk, rfl, hv, hbel⟩ := hrel
    by_cases hlt : k < n
    · obtain ⟨b1, o1, ao1, ca1, rfl, hc1, hB1⟩ := (H.out.below hbel).cells k (by rw [HN.out]; exact hlt)
      have hk0 : (k : Int) < (n : Int) := by omega
      have HT := Lib.hid (layL_take ls k (by rw [HN.out]; exact hlt))
      obtain ⟨qo, qc, rfl, hQ⟩ := hv.shape
      have hle := layL_le ls k
      rw [HM.out] at hle
      have hfew : (ls.getD k []).length ≤ 65536 := HF.out _ (by simp [List.getD, show k < ls.length by rw [HN.out]; exact hlt])
      have HP := Lib.hid (put_any qo ao1 qc ca1 _ _ (layL (ls.take k)) (ls.getD k []) wr hQ hB1 rfl rfl hfew (by omega))
      rw [← HT.out] at HP
      have HL := Lib.hid hbel
      have hk0' : (0 : Int) ≤ (k : Int) := by omega
      clear hB1 hv hQ hle hbel HT
      obtain ⟨q', hq'⟩ : ∃ q', layL (ls.take (k + 1)) = q' := ⟨_, rfl⟩
      have HQ' := Lib.hid hq'
      rw [hq'] at HP
      clear hq'
      generalize (layL (ls.take k)).length = qn at *
      generalize (ls.getD k []).length = xn at *
      go_wp2_with fail
      refine HP.out.mono ?_
      rintro e w2 ⟨v, rfl, hv2, hb2⟩
      have HV := Lib.hid (hv2.mono HL.out.size)
      have HL2 := Lib.hid (HL.out.trans (hb2.mono HL.out.size))
      clear hv2 hb2 HL HP
      go_wp2_with fail
      exact ⟨⟨k + 1, by omega, by go_num, by rw [HQ'.out]; exact HV.out, HL2.out⟩, by simp [intOf]; omega⟩
    · obtain rfl : k = n := by omega
      rw [List.take_of_length_le (by rw [HN.out]; exact Nat.le_refl _)] at hv
      have HV := Lib.hid hv
      have HL := Lib.hid hbel
      clear hv hbel
      go_wp2_with fail
      go_ret2
      obtain ⟨qo, qc, rfl, hQ⟩ := HV.out.shape
      have ho := HV.out
      rw [HM.out] at ho ⊢
      exact ⟨qo, qc, rfl, ho, hQ, HL.out⟩
theorem few_or (ls : List (List Int)) : Few ls ∨ ∃ j, j < ls.length ∧ Few (ls.take j) ∧ 65536 < (ls.getD j []).length := by
  induction ls with
  | nil => exact .inl fun x hx => by cases hx
  | cons x r ih =>
    by_cases hx : x.length ≤ 65536
    · rcases ih with h | ⟨j, h1, h2, h3⟩
      · refine .inl fun y hy => ?_
        rcases List.mem_cons.1 hy with rfl | hy
        · exact hx
        · exact h y hy
      · refine .inr ⟨j + 1, by simpa using h1, fun y hy => ?_, by simpa [List.getD] using h3⟩
        rcases List.mem_cons.1 (by simpa using hy) with rfl | hy
        · exact hx
        · exact h2 y hy
    · exact .inr ⟨0, by simp, fun y hy => by simp at hy, by simpa [List.getD] using by omega⟩
set_option maxHeartbeats 400000 in
set_option maxRecDepth 100000 in
theorem lay_no (ao : Option Addr) (ca n : Nat) (ls : List (List Int)) (w : World) (h : Rs w ao ca ls) (hn : ls.length = n) (j : Nat) (hj : j < n) (hf : Few (ls.take j)) (hbig : 65536 < (ls.getD j []).length) (m : Nat) (hm : (layL ls).length = m) (hb : m ≤ 60000000000000) :
    Calls Try.prog 26 #[.slice ao n ca] w (LayNo w) := by
  have hl := h.len_le
  rw [hn] at hl
  have H := Lib.hid h
  have HN := Lib.hid hn
  have HF := Lib.hid hf
  have HM := Lib.hid hm
  have HBIG := Lib.hid hbig
  clear h hn hf hm hbig
  go_enter Try.func26, Try.ntmps26
  go_wp2_with fail
  go_loopw [4, 11] (fun v i wr => ∃ k : Nat, k ≤ j ∧ i = .int .i64 k ∧ OwnB wr w.heap.size v (layL (ls.take k)) ∧ Below w.heap.size w wr) (fun _ i _ => n - (intOf i).toNat)
  case atStart => exact ⟨0, by omega, rfl, OwnB.nil _ _, Below.refl _ _⟩
  case round =>
    obtain ⟨k, hk, rfl, hv, hbel⟩ := hrel
    have hlt : k < n := by omega
    obtain ⟨b1, o1, ao1, ca1, rfl, hc1, hB1⟩ := (H.out.below hbel).cells k (by rw [HN.out]; exact hlt)
    have hk0 : (k : Int) < (n : Int) := by omega
    have hk0' : (0 : Int) ≤ (k : Int) := by omega
    obtain ⟨qo, qc, rfl, hQ⟩ := hv.shape
    have hle := layL_le ls k
    rw [HM.out] at hle
    have HL := Lib.hid hbel
    by_cases hkj : k < j
    · have HT := Lib.hid (layL_take ls k (by rw [HN.out]; exact hlt))
      have hfew : (ls.getD k []).length ≤ 65536 := HF.out _ (by
        have : (ls.take j)[k]? = ls[k]? := by rw [List.getElem?_take, if_pos hkj]
        refine List.mem_iff_getElem?.2 ⟨k, ?_⟩
        rw [this]
        simp [List.getD, show k < ls.length by rw [HN.out]; exact hlt])
      have HP := Lib.hid (put_any qo ao1 qc ca1 _ _ (layL (ls.take k)) (ls.getD k []) wr hQ hB1 rfl rfl hfew (by omega))
      rw [← HT.out] at HP
      clear hB1 hv hQ hle hbel HT
      obtain ⟨q', hq'⟩ : ∃ q', layL (ls.take (k + 1)) = q' := ⟨_, rfl⟩
      have HQ' := Lib.hid hq'
      rw [hq'] at HP
      clear hq'
      generalize (layL (ls.take k)).length = qn at *
      generalize (ls.getD k []).length = xn at *
      go_wp2_with fail
      refine HP.out.mono ?_
      rintro e w2 ⟨v, rfl, hv2, hb2⟩
      have HV := Lib.hid (hv2.mono HL.out.size)
      have HL2 := Lib.hid (HL.out.trans (hb2.mono HL.out.size))
      clear hv2 hb2 HL HP
      go_wp2_with fail
      exact ⟨⟨k + 1, by omega, by go_num, by rw [HQ'.out]; exact HV.out, HL2.out⟩, by simp [intOf]; omega⟩
    · obtain rfl : k = j := by omega
      have hxl := hB1.len_le
      have HP := Lib.hid (put_many qo ao1 qc ca1 (layL (ls.take k)).length _ wr HBIG.out hxl)
      clear hB1 hv hQ hle hbel hxl HBIG
      generalize (layL (ls.take k)).length = qn at *
      generalize (ls.getD k []).length = xn at *
      go_wp2_with fail
      refine HP.out.mono ?_
      rintro e w' ⟨rfl, rfl⟩
      go_wp2_with fail
      go_ret2
      exact ⟨rfl, HL.out⟩
set_option maxHeartbeats 400000 in
set_option maxRecDepth 100000 in
theorem frameBack_any (ao : Option Addr) (ca n : Nat) (ls : List (List Int)) (w : World) (h : Rs w ao ca ls) (hn : ls.length = n) (m : Nat) (hm : (layL ls).length = m) (hb : m ≤ 5000000000000) :
    Calls Try.prog 7 #[.slice ao n ca] w (TruePost w) := by
  rcases few_or ls with hf | ⟨j, h1, h2, h3⟩
  · have H0 := Lib.hid (lay_ok ao ca n ls w h hn hf m hm (by omega))
    have H := Lib.hid h
    have HN := Lib.hid hn
    have HM := Lib.hid hm
    have HA := Lib.hid (all_lay ls hf)
    rw [hm] at HA
    clear h hn hm hf
    go_enter Try.func7, Try.ntmps7
    go_wp2_with fail
    refine H0.out.mono ?_
    rintro e w1 ⟨o1, c1, rfl, _, hB1, hb1⟩
    have H2 := Lib.hid (all_s HA.out HN.out (all_any o1 c1 m (layL ls) w1 hB1 HM.out hb))
    have HL := Lib.hid hb1
    clear hB1 hb1 H0
    go_wp2_with fail
    refine H2.out.mono ?_
    rintro e w2 ⟨o2, c2, rfl, _, hR2, hb2⟩
    have HL2 := Lib.hid (HL.out.trans (hb2.mono HL.out.size))
    have HT := lists_any o2 ao c2 ca n n ls ls w2 hR2 ((H.out.below HL.out).below hb2) HN.out HN.out
    rw [decide_eq_true (show ls = ls from rfl)] at HT
    have HT := Lib.hid HT
    clear hR2 hb2
    go_wp2_with fail
    refine HT.out.mono ?_
    rintro e w3 ⟨rfl, hb3⟩
    have HL3 := Lib.hid (HL2.out.trans (hb3.mono HL2.out.size))
    clear hb3
    go_wp2_with (go_at_call 17; refine (alive_any _).mono ?_; rintro e w6 ⟨rfl, hb6⟩)
    go_ret
    exact ⟨rfl, HL3.out.trans (hb6.mono HL3.out.size)⟩
  · have H0 := Lib.hid (lay_no ao ca n ls w h hn j (by omega) h2 h3 m hm (by omega))
    clear h hn hm h1 h2 h3
    go_enter Try.func7, Try.ntmps7
    go_wp2_with fail
    refine H0.out.mono ?_
    rintro e w1 ⟨rfl, hb1⟩
    go_wp2_with (go_at_call 17; refine (alive_any _).mono ?_; rintro e w6 ⟨rfl, hb6⟩)
    go_ret
    exact ⟨rfl, hb1.trans (hb6.mono hb1.size)⟩
end Go.Proofs.Ytaniflbhkddlhaa
