/- The walk of FrameGets; no condition but the sizes. -/
import Derived.Test.YtaniflbhkddlhaaWq
namespace Go.Proofs.Ytaniflbhkddlhaa
open Go.RowKit
def AllS (w : World) (ls : List (List Int)) (m k : Nat) (e : Ending) (w' : World) : Prop :=
  ∃ ao cap, e = .returned (.tuple #[.slice ao m cap, .int .i64 k]) ∧ OwnR w' w.heap.size (.slice ao m cap) ls ∧ Rs w' ao cap ls ∧ Below w.heap.size w w'
theorem all_s {P : Program} {f : Nat} {args : Array Value} {w : World} {ls : List (List Int)} {m k : Nat} {r : List (List Int) × Nat} (hr : r = (ls, k)) (hm : ls.length = m) (h : Calls P f args w (AllPost w r)) : Calls P f args w (AllS w ls m k) :=
  h.mono fun _ _ ⟨_, he, ho, hb⟩ => by
    subst hm hr
    obtain ⟨ao, cap, rfl, hB⟩ := ho.shape
    exact ⟨ao, cap, he, ho, hB, hb⟩
set_option maxHeartbeats 400000 in
set_option maxRecDepth 100000 in
theorem frameGets_any (ao : Option Addr) (ca n : Nat) (b : List Int) (w : World) (h : Bs w ao ca b) (hn : b.length = n) (hb : n ≤ 1048576) : Calls Try.prog 6 #[.slice ao n ca] w (TruePost w) := by
  obtain ⟨g, i, j, hr⟩ : ∃ g i j, getL b = (g, i, j) := ⟨_, _, _, rfl⟩
  obtain ⟨ls, k, hq⟩ : ∃ ls k, allL b = (ls, k) := ⟨_, _, rfl⟩
  obtain ⟨m, hm⟩ : ∃ m, g.length = m := ⟨_, rfl⟩
  obtain ⟨m2, hm2⟩ : ∃ m, ls.length = m := ⟨_, rfl⟩
  have HG : Hid (∀ W, Below w.heap.size w W → Calls Try.prog 21 #[.slice ao n ca] W (GetS W g m i j)) := fun W hW => by
    have := get_any ao ca n b W (h.below hW) hn
    rw [hr] at this
    exact get_s hm this
  have HR : Hid (∀ W, Below w.heap.size w W → Calls Try.prog 22 #[.slice ao n ca] W (GetS W g m i j)) := fun W hW => by
    have := refGet_any ao ca n b W (h.below hW) hn (by omega)
    rw [hr] at this
    exact get_s hm this
  have HA : Hid (∀ W, Below w.heap.size w W → Calls Try.prog 23 #[.slice ao n ca] W (AllS W ls m2 k)) := fun W hW => all_s hq hm2 (all_any ao ca n b W (h.below hW) hn (by omega))
  have HB : Hid (∀ W, Below w.heap.size w W → Calls Try.prog 24 #[.slice ao n ca] W (AllS W ls m2 k)) := fun W hW => all_s hq hm2 (refAll_any ao ca n b W (h.below hW) hn (by omega))
  have HM := Lib.hid hm
  have HM2 := Lib.hid hm2
  clear h hn hr hq hm hm2
  go_enter Try.func6, Try.ntmps6
  go_wp2_with fail
  refine (HG.out w (Below.refl _ _)).mono ?_
  rintro e w1 ⟨o1, c1, rfl, _, hB1, hb1⟩
  have HB1 := Lib.hid hB1
  have HW1 := Lib.hid hb1
  clear hB1 hb1
  go_wp2_with fail
  refine (HR.out w1 HW1.out).mono ?_
  rintro e w2 ⟨o2, c2, rfl, _, hB2, hb2⟩
  have HB1' := Lib.hid (HB1.out.below hb2)
  have HB2 := Lib.hid hB2
  have HW2 := Lib.hid (HW1.out.trans (hb2.mono HW1.out.size))
  clear hB2 hb2 HB1 HW1
  go_wp2_with fail
  refine (HA.out w2 HW2.out).mono ?_
  rintro e w3 ⟨o3, c3, rfl, _, hB3, hb3⟩
  have HB1 := Lib.hid (HB1'.out.below hb3)
  have HB2' := Lib.hid (HB2.out.below hb3)
  have HB3 := Lib.hid hB3
  have HW3 := Lib.hid (HW2.out.trans (hb3.mono HW2.out.size))
  clear hB3 hb3 HB1' HB2 HW2
  go_wp2_with fail
  refine (HB.out w3 HW3.out).mono ?_
  rintro e w4 ⟨o4, c4, rfl, _, hB4, hb4⟩
  have HS := same_any o1 o2 c1 c2 m m g g w4 (HB1.out.below hb4) (HB2'.out.below hb4) HM.out HM.out
  have HT := lists_any o3 o4 c3 c4 m2 m2 ls ls w4 (HB3.out.below hb4) hB4 HM2.out HM2.out
  have HW4 := Lib.hid (HW3.out.trans (hb4.mono HW3.out.size))
  rw [decide_eq_true (show g = g from rfl)] at HS
  rw [decide_eq_true (show ls = ls from rfl)] at HT
  have HS := Lib.hid HS
  have HT := Lib.hid HT
  clear hB4 hb4
  go_wp2_with fail
  refine HS.out.mono ?_
  rintro e w' ⟨rfl, rfl⟩
  go_wp2_with fail
  refine HT.out.mono ?_
  rintro e w5 ⟨rfl, hb5⟩
  have HW5 := Lib.hid (HW4.out.trans (hb5.mono HW4.out.size))
  clear hb5
  go_wp2_with (go_at_call 17; refine (alive_any _).mono ?_; rintro e w6 ⟨rfl, hb6⟩)
  go_ret
  exact ⟨rfl, HW5.out.trans (hb6.mono HW5.out.size)⟩
end Go.Proofs.Ytaniflbhkddlhaa
