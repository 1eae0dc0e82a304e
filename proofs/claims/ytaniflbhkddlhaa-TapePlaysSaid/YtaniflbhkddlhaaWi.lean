/- The probe that each statement on frames holds (alive), and the walk of FrameSums; no condition but that the length fits. -/
import Derived.Test.YtaniflbhkddlhaaQ
namespace Go.Proofs.Ytaniflbhkddlhaa
open Go.RowKit
def TruePost (w : World) (e : Ending) (w' : World) : Prop := e = .returned (.bool true) ∧ Below w.heap.size w w'
/-- Put's answer with its slice written out. -/
def PutS (w : World) (l : List Int) (m : Nat) (e : Ending) (w' : World) : Prop :=
  ∃ ao cap, e = .returned (.tuple #[.slice ao m cap, .int .i64 0]) ∧ OwnB w' w.heap.size (.slice ao m cap) l ∧ Bs w' ao cap l ∧ Below w.heap.size w w'
theorem put_s {P : Program} {f : Nat} {args : Array Value} {w : World} {l : List Int} {m : Nat} (hm : l.length = m) (h : Calls P f args w (PutPost w l)) : Calls P f args w (PutS w l m) :=
  h.mono fun _ _ ⟨_, he, ho, hb⟩ => by
    subst hm
    obtain ⟨ao, cap, rfl, hB⟩ := ho.shape
    exact ⟨ao, cap, he, ho, hB, hb⟩
def GetS (w : World) (l : List Int) (m : Nat) (n c : Int) (e : Ending) (w' : World) : Prop :=
  ∃ ao cap, e = .returned (.tuple #[.slice ao m cap, .int .i64 n, .int .i64 c]) ∧ OwnB w' w.heap.size (.slice ao m cap) l ∧ Bs w' ao cap l ∧ Below w.heap.size w w'
theorem get_s {P : Program} {f : Nat} {args : Array Value} {w : World} {r : List Int × Int × Int} {m : Nat} (hm : r.1.length = m) (h : Calls P f args w (GetP w r)) : Calls P f args w (GetS w r.1 m r.2.1 r.2.2) :=
  h.mono fun _ _ ⟨_, he, ho, hb⟩ => by
    subst hm
    obtain ⟨ao, cap, rfl, hB⟩ := ho.shape
    exact ⟨ao, cap, he, ho, hB, hb⟩
theorem bs_nil (w : World) : Bs w none 0 [] := ⟨fun i hi => by simp at hi, Nat.le_refl _, Nat.zero_le _, fun _ => rfl, fun _ h => by cases h⟩
set_option maxHeartbeats 400000 in
set_option maxRecDepth 100000 in
theorem alive_any (w : World) : Calls Try.prog 17 #[] w (TruePost w) := by
  go_enter Try.func17, Try.ntmps17
  go_wp2_with fail
  have hone := bs_one w 1 (by omega) (by omega)
  have hput := put_s (m := 13) (by simp [encL, bytesL_len]) (put_any none (some ⟨w.heap.size, 0, none⟩) 0 1 0 1 [] [1] _ (bs_nil _) hone rfl rfl (by omega) (by omega))
  have hb0 := below_alloc w (.cells #[.int .u8 1] 5)
  refine hput.mono ?_
  rintro e w1 ⟨o1, c1, rfl, hown1, hB1, hb1⟩
  have hb01 := hb0.trans (hb1.mono hb0.size)
  have hg := get_any o1 c1 13 ([] ++ encL [1]) w1 hB1 (by simp [encL, bytesL_len])
  rw [show getL ([] ++ encL [1]) = ([1], 13, 0) by have := get_enc [1] [] (by simp); simpa using this] at hg
  have HG := Lib.hid (get_s (m := 1) rfl hg)
  have hone1 := bs_one w1 1 (by omega) (by omega)
  clear hone hput hb0 hown1 hB1 hb1 hg
  go_wp2_with fail
  refine HG.out.mono ?_
  rintro e w2 ⟨o2, c2, rfl, hown2, hB2, hb2⟩
  have hb02 := hb01.trans (hb2.mono hb01.size)
  have hone2 := bs_one w2 1 (by omega) (by omega)
  have hsum := sum_any (some ⟨w2.heap.size, 0, none⟩) 1 1 [1] _ hone2 rfl
  rw [sum_one] at hsum
  have HS := Lib.hid hsum
  have HB2 := Lib.hid hB2
  clear hone1 hown2 hB2 hb2 hb01 hone2 hsum
  go_wp2_with fail
  refine HS.out.mono ?_
  rintro e w' ⟨rfl, rfl⟩
  go_wp2_with fail
  have hone3 := bs_one (w2.alloc (.cells #[.int .u8 1] 5)) 1 (by omega) (by omega)
  rw [World.size_alloc] at hone3
  refine (same_any o2 (some ⟨w2.heap.size + 1, 0, none⟩) c2 1 1 1 [1] [1] _ ((HB2.out.alloc _).alloc _) hone3 rfl rfl).mono ?_
  rintro e w' ⟨rfl, rfl⟩
  clear hone3
  go_wp2_with fail
  go_ret
  exact ⟨rfl, (hb02.alloc hb02.size _).alloc (by have := hb02.size; simp; omega) _⟩

set_option maxHeartbeats 400000 in
set_option maxRecDepth 100000 in
theorem frameSums_any (ao : Option Addr) (ca n : Nat) (l : List Int) (w : World) (h : Bs w ao ca l) (hn : l.length = n) (hb : n ≤ 9223372036854775800) : Calls Try.prog 3 #[.slice ao n ca] w (TruePost w) := by
  have H1 := Lib.hid (sum_any ao ca n l w h hn)
  have H2 := Lib.hid (refSum_any ao ca n l w h hn hb)
  generalize sumL l = s at *
  clear h
  go_enter Try.func3, Try.ntmps3
  go_wp2_with (first | (go_at_call 15; refine H1.out.mono ?_; rintro e w' ⟨rfl, rfl⟩) | (go_at_call 16; refine H2.out.mono ?_; rintro e w' ⟨rfl, rfl⟩) | (go_at_call 17; refine (alive_any _).mono ?_; rintro e w1 ⟨rfl, hb1⟩))
  go_ret
  exact ⟨rfl, hb1⟩
end Go.Proofs.Ytaniflbhkddlhaa
