/- The contracts of Put and of the reference's Put; no condition but the sizes. -/
import Derived.Test.YtaniflbhkddlhaaWc
namespace Go.Proofs.Ytaniflbhkddlhaa
open Go.RowKit
/-- Bytes that a call made, the slice written out. -/
def MadeS (w : World) (l : List Int) (m : Nat) (e : Ending) (w' : World) : Prop :=
  ∃ ao cap, e = .returned (.slice ao m cap) ∧ l.length = m ∧ OwnB w' w.heap.size (.slice ao m cap) l ∧ Bs w' ao cap l ∧ Below w.heap.size w w'
theorem made_s {P : Program} {f : Nat} {args : Array Value} {w : World} {l : List Int} {m : Nat} (hm : l.length = m) (h : Calls P f args w (MadeB w l)) : Calls P f args w (MadeS w l m) :=
  h.mono fun _ _ ⟨_, he, ho, hb⟩ => by
    subst hm
    obtain ⟨ao, cap, rfl, hB⟩ := ho.shape
    exact ⟨ao, cap, he, rfl, ho, hB, hb⟩
/-- A frame. -/
def encL (b : List Int) : List Int := bytesL b.length 4 ++ (b ++ bytesL (sumL b) 8)
def PutPost (w : World) (l : List Int) (e : Ending) (w' : World) : Prop := ∃ v, e = .returned (.tuple #[v, .int .i64 0]) ∧ OwnB w' w.heap.size v l ∧ Below w.heap.size w w'
def ManyPost (w : World) (e : Ending) (w' : World) : Prop := e = .returned (.tuple #[.slice none 0 0, .int .i64 5]) ∧ w = w'
set_option maxHeartbeats 400000 in
set_option maxRecDepth 100000 in
theorem put_many (ao bo : Option Addr) (ca cb n m : Nat) (w : World) (hm : 65536 < m) (hm2 : m ≤ 9223372036854775807) :
    Calls Try.prog 18 #[.slice ao n ca, .slice bo m cb] w (ManyPost w) := by
  go_enter Try.func18, Try.ntmps18
  go_wp2
  go_ret2
  exact ⟨rfl, rfl⟩
theorem rs_four {w : World} {o0 o1 o2 o3 : Option Addr} {c0 c1 c2 c3 n0 n1 n2 n3 : Nat} {l0 l1 l2 l3 : List Int} (h0 : Bs w o0 c0 l0) (h1 : Bs w o1 c1 l1) (h2 : Bs w o2 c2 l2) (h3 : Bs w o3 c3 l3)
    (e0 : l0.length = n0) (e1 : l1.length = n1) (e2 : l2.length = n2) (e3 : l3.length = n3) :
    Rs (w.alloc (.cells #[.slice o0 n0 c0, .slice o1 n1 c1, .slice o2 n2 c2, .slice o3 n3 c3] 22)) (some ⟨w.heap.size, 0, none⟩) 4 [l0, l1, l2, l3] := by
  subst e0 e1 e2 e3
  refine ⟨fun i hi => ?_, by simp, by unfold maxLen; omega, (fun h => by cases h)⟩
  have : i = 0 ∨ i = 1 ∨ i = 2 ∨ i = 3 := by simp at hi; omega
  rcases this with rfl | rfl | rfl | rfl
  · exact ⟨_, _, o0, c0, rfl, by simp, h0.alloc _⟩
  · exact ⟨_, _, o1, c1, rfl, by simp, h1.alloc _⟩
  · exact ⟨_, _, o2, c2, rfl, by simp, h2.alloc _⟩
  · exact ⟨_, _, o3, c3, rfl, by simp, h3.alloc _⟩
set_option maxHeartbeats 400000 in
set_option maxRecDepth 100000 in
theorem put_any (ao bo : Option Addr) (ca cb n m : Nat) (l b : List Int) (w : World) (hl : Bs w ao ca l) (hb : Bs w bo cb b) (hn : l.length = n) (hm : b.length = m) (h1 : m ≤ 65536) (h2 : n ≤ 70000000000000) :
    Calls Try.prog 18 #[.slice ao n ca, .slice bo m cb] w (PutPost w (l ++ encL b)) := by
  have HL := Lib.hid hl
  have HB := Lib.hid hb
  have HN := Lib.hid hn
  have HM := Lib.hid hm
  have hr := sumL_range b
  have hsum := fun W hW => sum_any bo cb m b W hW hm
  have HSUM := Lib.hid hsum
  have HE := Lib.hid (show encL b = bytesL b.length 4 ++ (b ++ bytesL (sumL b) 8) from rfl)
  rw [hm] at HE
  clear hl hb hn hm hsum
  generalize encL b = eb at *
  generalize sumL b = s at *
  obtain ⟨hr0, hr1⟩ := hr
  go_enter Try.func18, Try.ntmps18
  go_wp2_with fail
  refine (made_s (bytesL_len _ _) (bytes_any (m : Int) 4 w (by omega) (by omega) (.inl rfl))).mono ?_
  rintro e w1 ⟨o1, c1, rfl, hlen1, hown1, hB1, hb1⟩
  go_wp2_with fail
  refine (HSUM.out w1 (HB.out.below hb1)).mono ?_
  rintro e w' ⟨rfl, rfl⟩
  go_wp2_with fail
  refine (made_s (bytesL_len _ _) (bytes_any s 8 w1 hr0 hr1 (.inr rfl))).mono ?_
  rintro e w2 ⟨o2, c2, rfl, hlen2, hown2, hB2, hb2⟩
  have hrs := rs_four ((HL.out.below hb1).below hb2) (hB1.below hb2) ((HB.out.below hb1).below hb2) hB2 HN.out hlen1 HM.out hlen2
  have hflat : [l, bytesL (m : Int) 4, b, bytesL s 8].flatten = l ++ eb := by rw [HE.out]; simp
  have hfl : [l, bytesL (m : Int) 4, b, bytesL s 8].flatten.length ≤ 140737488355328 := by
    simp [bytesL_len]
    have := HN.out; have := HM.out; omega
  have hcc := concat_any _ _ _ _ _ hrs rfl hfl
  rw [hflat] at hcc
  have HCC := Lib.hid hcc
  have hb12 : Below w.heap.size w w2 := hb1.trans (hb2.mono hb1.size)
  have hz12 := hb12.size
  clear hcc hrs hflat hfl hlen1 hown1 hB1 hlen2 hown2 hB2 hb1 hb2
  go_wp2_with fail
  refine HCC.out.mono ?_
  rintro e w3 ⟨v, rfl, hv, hb3⟩
  have hb13 : Below w.heap.size w w3 := (hb12.alloc hz12 _).trans (hb3.mono (by simp; omega))
  have HV := Lib.hid (hv.mono (show w.heap.size ≤ _ by simp; omega))
  clear hv hb3
  go_wp2_with fail
  go_ret2
  exact ⟨v, rfl, HV.out, hb13⟩

set_option maxHeartbeats 400000 in
set_option maxRecDepth 100000 in
theorem refPut_many (ao bo : Option Addr) (ca cb n m : Nat) (w : World) (hm : 65536 < m) (hm2 : m ≤ 9223372036854775807) :
    Calls Try.prog 19 #[.slice ao n ca, .slice bo m cb] w (ManyPost w) := by
  go_enter Try.func19, Try.ntmps19
  go_wp2
  go_ret2
  exact ⟨rfl, rfl⟩
set_option maxHeartbeats 400000 in
set_option maxRecDepth 100000 in
theorem refPut_any (ao bo : Option Addr) (ca cb n m : Nat) (l b : List Int) (w : World) (hl : Bs w ao ca l) (hb : Bs w bo cb b) (hn : l.length = n) (hm : b.length = m) (h1 : m ≤ 65536) (h2 : n ≤ 70000000000000) :
    Calls Try.prog 19 #[.slice ao n ca, .slice bo m cb] w (PutPost w (l ++ encL b)) := by
  have HL := Lib.hid hl
  have HB := Lib.hid hb
  have HN := Lib.hid hn
  have HM := Lib.hid hm
  have hr := sumL_range b
  have hsum := fun W hW => refSum_any bo cb m b W hW hm (by omega)
  have HSUM := Lib.hid hsum
  have HE := Lib.hid (show encL b = bytesL b.length 4 ++ (b ++ bytesL (sumL b) 8) from rfl)
  rw [hm] at HE
  clear hl hb hn hm hsum
  generalize encL b = eb at *
  generalize sumL b = s at *
  obtain ⟨hr0, hr1⟩ := hr
  go_enter Try.func19, Try.ntmps19
  go_wp2_with (at_builtin; refine wpList_app _ rfl _ _ rfl w.heap.size _ [] rfl (OwnB.nil _ _) _ _ _ _ rfl HL.out HN.out (by have := HN.out; simp; omega) (Nat.le_refl _) ?_)
  intro v1 w1 hv1 hg1 _
  have hb1 := below_grown (Below.refl w.heap.size w) hg1 (Nat.le_refl _) (OwnB.nil w w.heap.size) (Nat.le_refl _)
  have HV1 := Lib.hid hv1
  clear hv1 hg1
  go_wp2_with fail
  refine (made_s (bytesL_len _ _) (number_any (m : Int) 4 w1 (by omega) (by omega) (.inl rfl))).mono ?_
  rintro e w2 ⟨o2, c2, rfl, hlen2, hown2, hB2, hb2⟩
  have hb02 := hb1.trans (hb2.mono hb1.size)
  have HV2 := Lib.hid (own_kept HV1.out hb2)
  have HB2 := Lib.hid hB2
  have HL2 := Lib.hid hlen2
  have hz2 := hb02.size
  clear hlen2 hown2 hB2 hb2
  go_wp2_with (at_builtin; refine wpList_app _ rfl _ _ rfl w.heap.size _ _ rfl HV2.out _ _ _ _ rfl HB2.out HL2.out (by have := HN.out; have := HL2.out; simp; omega) hz2 ?_)
  intro v3 w3 hv3 hg3 _
  have hb3 := below_grown hb02 hg3 hz2 HV2.out (Nat.le_refl _)
  have hz3 := hb3.size
  have HV3 := Lib.hid hv3
  have HBB3 := Lib.hid (HB.out.below hb3)
  clear hv3 hg3
  go_wp2_with (at_builtin; refine wpList_app _ rfl _ _ rfl w.heap.size _ _ rfl HV3.out _ _ _ _ rfl HBB3.out HM.out (by have := HN.out; have := HL2.out; have := HM.out; simp; omega) hz3 ?_)
  intro v4 w4 hv4 hg4 _
  have hb4 := below_grown hb3 hg4 hz3 HV3.out (Nat.le_refl _)
  have HV4 := Lib.hid hv4
  clear hv4 hg4
  go_wp2_with fail
  refine (HSUM.out w4 (HB.out.below hb4)).mono ?_
  rintro e w' ⟨rfl, rfl⟩
  go_wp2_with fail
  refine (made_s (bytesL_len _ _) (number_any s 8 w4 hr0 hr1 (.inr rfl))).mono ?_
  rintro e w5 ⟨o5, c5, rfl, hlen5, hown5, hB5, hb5⟩
  have hb05 := hb4.trans (hb5.mono hb4.size)
  have HV5 := Lib.hid (own_kept HV4.out hb5)
  have HB5 := Lib.hid hB5
  have HL5 := Lib.hid hlen5
  have hz5 := hb05.size
  clear hlen5 hown5 hB5 hb5
  go_wp2_with (at_builtin; refine wpList_app _ rfl _ _ rfl w.heap.size _ _ rfl HV5.out _ _ _ _ rfl HB5.out HL5.out (by have := HN.out; have := HL2.out; have := HM.out; have := HL5.out; simp; omega) hz5 ?_)
  intro v6 w6 hv6 hg6 _
  have hb6 := below_grown hb05 hg6 hz5 HV5.out (Nat.le_refl _)
  have HV6 := Lib.hid hv6
  clear hv6 hg6
  go_wp2_with fail
  go_ret2
  refine ⟨v6, rfl, ?_, hb6⟩
  have := HV6.out
  rw [HE.out]
  simpa [List.append_assoc] using this
end Go.Proofs.Ytaniflbhkddlhaa
