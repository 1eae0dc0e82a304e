/- Contract of Start. No condition. -/
import Derived.Test.YtaniflbhkddlhaaTc
import Derived.StillTailTactics
namespace Go.Proofs.Ytaniflbhkddlhaa
open Go.RowKit
def addK (keep : Int) (r : Nat) : Nat := if keep < 0 then 0 else if keep < r then keep.toNat else r
theorem addK_le (keep : Int) (r : Nat) : addK keep r ≤ r := by unfold addK; split <;> (try split) <;> omega
theorem start_on (w : World) (g : Nat) (fuse : Int) (b : List Int) (k : Nat) (keep : Int) (h : TapeAt w g false fuse b k) :
    Calls Try.prog 32 #[.pointer (some ⟨g, 0, none⟩), .int .i64 keep] w (CallPost w g 11 false fuse b k) := by
  have H := Lib.hid h
  obtain ⟨⟨ao, cap, h1, h2⟩, h3, h4, h5, h6⟩ := h
  have U := Lib.hid (up_any w g false fuse _ _ h1)
  clear h1 h2
  go_enter Try.func32, Try.ntmps32
  go_wp2_with (go_at_call 49; refine U.out.mono ?_; rintro e w1 ⟨rfl, rfl⟩; simp only [upC, Bool.false_eq_true, if_false])
  go_ret
  exact ⟨rfl, H.out, But.refl _ _⟩
theorem start_fin {w wq : World} {g : Nat} {fuse : Int} {b : List Int} {k : Nat} {ao : Option Addr} {cap d n : Nat} (h1 : TapeBlk w g true fuse (.slice ao b.length cap) k) (h2 : Bs w ao cap b) (hn : b.length = n) (hb : n ≤ 1048576) (hd : d ≤ n)
    (hq : TapeBlk wq g true fuse (.slice ao n cap) d) (hbq : But g w wq) :
    CallPost w g 0 false (-1) (b.take d) d (.returned (.int .i64 0)) ((((wq.setCell ⟨g, 3, none⟩ (.slice ao d cap)).setCell ⟨g, 1, none⟩ (.bool false)).setCell ⟨g, 2, none⟩ (.int .i64 (-1))).drew) := by
  have hlen : (b.take d).length = d := by simp; omega
  have hbut : But g w ((((wq.setCell ⟨g, 3, none⟩ (.slice ao d cap)).setCell ⟨g, 1, none⟩ (.bool false)).setCell ⟨g, 2, none⟩ (.int .i64 (-1))).drew) :=
    (((hbq.trans (But.setCell g _ 3 _)).trans (But.setCell g _ 1 _)).trans (But.setCell g _ 2 _)).trans (But.drew g _)
  refine ⟨rfl, ⟨⟨ao, cap, ?_, (h2.pre d).but h1.noBytes hbut⟩, by omega, by omega, by omega, by omega⟩, hbut⟩
  rw [hlen]
  exact ((hq.set3 _).set1 _).set2 _
set_option maxHeartbeats 4000000 in
set_option maxRecDepth 100000 in
theorem start_off (w : World) (g : Nat) (fuse : Int) (b : List Int) (k n : Nat) (keep : Int) (h : TapeAt w g true fuse b k) (hn : b.length = n) :
    Calls Try.prog 32 #[.pointer (some ⟨g, 0, none⟩), .int .i64 keep] w (CallPost w g 0 false (-1) (b.take (k + addK keep (n - k))) (k + addK keep (n - k))) := by
  obtain ⟨⟨ao, cap, h1, h2⟩, h3, h4, h5, h6⟩ := h
  have U := Lib.hid (up_any w g true fuse _ _ h1)
  have H1 := Lib.hid h1
  have H2 := Lib.hid h2
  obtain ⟨c0, c1, c2, c3, c4⟩ := h1.cells
  have f1 := h1.frozen 1
  have f2 := h1.frozen 2
  have f3 := h1.frozen 3
  have f4 := h1.frozen 4
  have hcap := h2.cap_le
  rw [hn] at c3 h5 h6 hcap
  have hd : (keep < 0 ∧ addK keep (n - k) = 0) ∨ (0 ≤ keep ∧ keep < (n : Int) - k ∧ addK keep (n - k) = keep.toNat) ∨ (0 ≤ keep ∧ (n : Int) - k ≤ keep ∧ addK keep (n - k) = n - k) := by
    unfold addK
    by_cases e1 : keep < 0
    · left; rw [if_pos e1]; exact ⟨e1, rfl⟩
    · rw [if_neg e1]
      by_cases e2 : keep < ((n - k : Nat) : Int)
      · right; left; rw [if_pos e2]; exact ⟨by omega, by omega, rfl⟩
      · right; right; rw [if_neg e2]; exact ⟨by omega, by omega, rfl⟩
  generalize addK keep (n - k) = d at *
  have HN := Lib.hid hn
  have wr1 : IntKind.i64.wrap ((n : Int) - k) = (n : Int) - k := IntWalk.i64_in _ (by omega)
  clear h1 h2 hn
  rcases hd with ⟨e1, rfl⟩ | ⟨e1, e2, rfl⟩ | ⟨e1, e2, rfl⟩
  · have m1 : (keep < 0) = True := eq_true e1
    have m2 : ((n : Int) - k < 0) = False := eq_false (by omega)
    have hkc : k ≤ cap := by omega
    have wr2 : IntKind.i64.wrap (k : Int) = k := IntWalk.i64_in _ (by omega)
    clear e1
    go_enter Try.func32, Try.ntmps32
    go_wp2_with (go_at_call 49; refine U.out.mono ?_; rintro e w1 ⟨rfl, rfl⟩; simp only [upC, if_true])
    go_still_tail 18, (by kernel_rfl)
    change wpList _ _ _ _ _ w.drew
    go_wp2_with fail
    obtain ⟨wq, hwq⟩ : ∃ wq, World.drew (w.setCell ⟨g, 4, none⟩ (.int .i64 (k : Nat))) = wq := ⟨_, rfl⟩
    rw [hwq]
    have hq : TapeBlk wq g true fuse (.slice ao n cap) (k : Nat) := hwq ▸ HN.out ▸ (H1.out.set4 _).drew
    have HBQ := Lib.hid (show But g w wq from hwq ▸ (But.setCell g w 4 _).trans (But.drew g _))
    clear hwq c0 c1 c2 c3 c4 f1 f2 f3 f4
    obtain ⟨c0, c1, c2, c3, c4⟩ := hq.cells
    have f1 := hq.frozen 1
    have f2 := hq.frozen 2
    have f3 := hq.frozen 3
    have HQ := Lib.hid hq
    clear hq
    go_still_tail 10, (by kernel_rfl)
    change wpList _ _ _ _ _ wq.drew
    go_wp2_with fail
    go_ret
    exact start_fin H1.out H2.out HN.out h5 h6 HQ.out HBQ.out
  · obtain ⟨d, hd⟩ : ∃ d : Nat, k + keep.toNat = d := ⟨_, rfl⟩
    have hs : (k : Int) + keep = (d : Int) := by omega
    have hdn : d ≤ n := by omega
    have m1 : (keep < 0) = False := eq_false (by omega)
    have m2 : ((n : Int) - k < keep) = False := eq_false (by omega)
    rw [hd]
    have hkc : d ≤ cap := by omega
    have wr2 : IntKind.i64.wrap (d : Int) = d := IntWalk.i64_in _ (by omega)
    clear e1 e2 hd
    go_enter Try.func32, Try.ntmps32
    go_wp2_with (go_at_call 49; refine U.out.mono ?_; rintro e w1 ⟨rfl, rfl⟩; simp only [upC, if_true])
    go_still_tail 18, (by kernel_rfl)
    change wpList _ _ _ _ _ w.drew
    go_wp2_with fail
    obtain ⟨wq, hwq⟩ : ∃ wq, World.drew (w.setCell ⟨g, 4, none⟩ (.int .i64 (d : Nat))) = wq := ⟨_, rfl⟩
    rw [hwq]
    have hq : TapeBlk wq g true fuse (.slice ao n cap) (d : Nat) := hwq ▸ HN.out ▸ (H1.out.set4 _).drew
    have HBQ := Lib.hid (show But g w wq from hwq ▸ (But.setCell g w 4 _).trans (But.drew g _))
    clear hwq c0 c1 c2 c3 c4 f1 f2 f3 f4
    obtain ⟨c0, c1, c2, c3, c4⟩ := hq.cells
    have f1 := hq.frozen 1
    have f2 := hq.frozen 2
    have f3 := hq.frozen 3
    have HQ := Lib.hid hq
    clear hq
    go_still_tail 10, (by kernel_rfl)
    change wpList _ _ _ _ _ wq.drew
    go_wp2_with fail
    go_ret
    exact start_fin H1.out H2.out HN.out h5 hdn HQ.out HBQ.out
  · rw [show k + (n - k) = n by omega]
    have hs : (k : Int) + ((n : Int) - k) = (n : Int) := by omega
    have m1 : (keep < 0) = False := eq_false (by omega)
    have wr2 : IntKind.i64.wrap (n : Int) = n := IntWalk.i64_in _ (by omega)
    by_cases e3 : (n : Int) - k < keep
    · have m2 : ((n : Int) - k < keep) = True := eq_true e3
      clear e1 e2 e3
      go_enter Try.func32, Try.ntmps32
      go_wp2_with (go_at_call 49; refine U.out.mono ?_; rintro e w1 ⟨rfl, rfl⟩; simp only [upC, if_true])
      go_still_tail 18, (by kernel_rfl)
      change wpList _ _ _ _ _ w.drew
      go_wp2_with fail
      obtain ⟨wq, hwq⟩ : ∃ wq, World.drew (w.setCell ⟨g, 4, none⟩ (.int .i64 (n : Nat))) = wq := ⟨_, rfl⟩
      rw [hwq]
      have hq : TapeBlk wq g true fuse (.slice ao n cap) (n : Nat) := hwq ▸ HN.out ▸ (H1.out.set4 _).drew
      have HBQ := Lib.hid (show But g w wq from hwq ▸ (But.setCell g w 4 _).trans (But.drew g _))
      clear hwq c0 c1 c2 c3 c4 f1 f2 f3 f4
      obtain ⟨c0, c1, c2, c3, c4⟩ := hq.cells
      have f1 := hq.frozen 1
      have f2 := hq.frozen 2
      have f3 := hq.frozen 3
      have HQ := Lib.hid hq
      clear hq
      go_still_tail 10, (by kernel_rfl)
      change wpList _ _ _ _ _ wq.drew
      go_wp2_with fail
      go_ret
      exact start_fin H1.out H2.out HN.out h5 (Nat.le_refl _) HQ.out HBQ.out
    · have m3 : keep = (n : Int) - k := by omega
      subst m3
      have m2 : ((n : Int) - k < (n : Int) - k) = False := eq_false (by omega)
      clear e1 e2 e3
      go_enter Try.func32, Try.ntmps32
      go_wp2_with (go_at_call 49; refine U.out.mono ?_; rintro e w1 ⟨rfl, rfl⟩; simp only [upC, if_true])
      go_still_tail 18, (by kernel_rfl)
      change wpList _ _ _ _ _ w.drew
      go_wp2_with fail
      obtain ⟨wq, hwq⟩ : ∃ wq, World.drew (w.setCell ⟨g, 4, none⟩ (.int .i64 (n : Nat))) = wq := ⟨_, rfl⟩
      rw [hwq]
      have hq : TapeBlk wq g true fuse (.slice ao n cap) (n : Nat) := hwq ▸ HN.out ▸ (H1.out.set4 _).drew
      have HBQ := Lib.hid (show But g w wq from hwq ▸ (But.setCell g w 4 _).trans (But.drew g _))
      clear hwq c0 c1 c2 c3 c4 f1 f2 f3 f4
      obtain ⟨c0, c1, c2, c3, c4⟩ := hq.cells
      have f1 := hq.frozen 1
      have f2 := hq.frozen 2
      have f3 := hq.frozen 3
      have HQ := Lib.hid hq
      clear hq
      go_still_tail 10, (by kernel_rfl)
      change wpList _ _ _ _ _ wq.drew
      go_wp2_with fail
      go_ret
      exact start_fin H1.out H2.out HN.out h5 (Nat.le_refl _) HQ.out HBQ.out
end Go.Proofs.Ytaniflbhkddlhaa
