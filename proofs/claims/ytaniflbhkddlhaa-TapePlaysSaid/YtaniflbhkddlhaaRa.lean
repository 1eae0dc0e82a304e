/- The document's tape in memory; contracts of its calls. No condition. -/
import Derived.Test.YtaniflbhkddlhaaTg
import Derived.StillTailTactics
import Derived.Laws.Concat
import Derived.Laws.Strings2
namespace Go.Proofs.Ytaniflbhkddlhaa
open Go.RowKit
/-- The document's tape's struct. -/
def RefBlk (w : World) (h : Nat) (s1 s2 : ByteArray) (fuse : Int) (off : Bool) : Prop :=
  w.heap[h]? = some (.cells #[.string s1, .string s2, .int .i64 fuse, .bool off] 61)
section
variable {w w' : World} {h : Nat} {s1 s2 : ByteArray} {fuse : Int} {off : Bool}
theorem RefBlk.lt (H : RefBlk w h s1 s2 fuse off) : h < w.heap.size := by
  unfold RefBlk at H
  exact (Array.getElem?_eq_some_iff.1 H).1
theorem RefBlk.cells (H : RefBlk w h s1 s2 fuse off) :
    w.cell? ⟨h, 0, none⟩ = some (.string s1) ∧ w.cell? ⟨h, 1, none⟩ = some (.string s2) ∧ w.cell? ⟨h, 2, none⟩ = some (.int .i64 fuse) ∧ w.cell? ⟨h, 3, none⟩ = some (.bool off) := by
  unfold RefBlk at H
  simp [World.cell?, H]
theorem RefBlk.frozen (H : RefBlk w h s1 s2 fuse off) (o : Nat) : w.frozen? ⟨h, o, none⟩ = false := by
  unfold RefBlk at H
  simp [World.frozen?, H]
theorem RefBlk.noBytes (H : RefBlk w h s1 s2 fuse off) : NoBytes w h := by
  intro o x hc
  unfold RefBlk at H
  simp only [World.cell?, H] at hc
  match o, hc with
  | 0, hc => simp at hc
  | 1, hc => simp at hc
  | 2, hc => simp at hc
  | 3, hc => simp at hc
  | n + 4, hc => simp at hc
theorem RefBlk.below (H : RefBlk w h s1 s2 fuse off) (hb : Below w.heap.size w w') : RefBlk w' h s1 s2 fuse off := by
  unfold RefBlk; rw [hb.block h H.lt]; exact H
theorem RefBlk.but {k : Nat} (H : RefBlk w h s1 s2 fuse off) (hb : But k w w') (hk : h ≠ k) : RefBlk w' h s1 s2 fuse off := by
  unfold RefBlk; rw [hb.block h H.lt hk]; exact H
theorem RefBlk.set0 (H : RefBlk w h s1 s2 fuse off) (x : ByteArray) : RefBlk (w.setCell ⟨h, 0, none⟩ (.string x)) h x s2 fuse off := by
  unfold RefBlk; rw [heap_set _ _ _ _ _ _ H]; rfl
theorem RefBlk.set1 (H : RefBlk w h s1 s2 fuse off) (x : ByteArray) : RefBlk (w.setCell ⟨h, 1, none⟩ (.string x)) h s1 x fuse off := by
  unfold RefBlk; rw [heap_set _ _ _ _ _ _ H]; rfl
theorem RefBlk.set2 (H : RefBlk w h s1 s2 fuse off) (x : Int) : RefBlk (w.setCell ⟨h, 2, none⟩ (.int .i64 x)) h s1 s2 x off := by
  unfold RefBlk; rw [heap_set _ _ _ _ _ _ H]; rfl
theorem RefBlk.set3 (H : RefBlk w h s1 s2 fuse off) (x : Bool) : RefBlk (w.setCell ⟨h, 3, none⟩ (.bool x)) h s1 s2 fuse x := by
  unfold RefBlk; rw [heap_set _ _ _ _ _ _ H]; rfl
end
/-- A call on it: it answers v, and its struct holds so. -/
def RStep (w : World) (h : Nat) (v : Value) (s1 s2 : ByteArray) (fuse : Int) (off : Bool) (e : Ending) (w' : World) : Prop :=
  e = .returned v ∧ RefBlk w' h s1 s2 fuse off ∧ But h w w'
theorem burns_any (w : World) (h : Nat) (s1 s2 : ByteArray) (fuse : Int) (off : Bool) (H0 : RefBlk w h s1 s2 fuse off) (hf : -1 ≤ fuse) (hf2 : fuse ≤ 9223372036854775807) :
    Calls Try.prog 61 #[.pointer (some ⟨h, 0, none⟩)] w (RStep w h (.bool (decide ((fitsR off fuse 0 0).1 = 0))) s1 s2 (fitsR off fuse 0 0).2.2 (fitsR off fuse 0 0).2.1) := by
  have H := Lib.hid H0
  obtain ⟨c0, c1, c2, c3⟩ := H0.cells
  have f2 := H0.frozen 2
  have f3 := H0.frozen 3
  clear H0
  cases off
  · by_cases e1 : fuse = -1
    · subst e1
      rw [show fitsR false (-1) 0 0 = (0, false, -1) from rfl]
      go_enter Try.func61, Try.ntmps61
      go_wp2_with fail
      go_ret
      exact ⟨rfl, H.out, But.refl _ _⟩
    · by_cases e2 : fuse = 0
      · subst e2
        rw [show fitsR false 0 0 0 = (10, true, 0) from rfl]
        go_enter Try.func61, Try.ntmps61
        go_wp2_with fail
        go_ret
        exact ⟨rfl, H.out.set3 _, But.setCell _ _ _ _⟩
      · have E : fitsR false fuse 0 0 = (0, false, fuse - 1) := by unfold fitsR burnR; simp [e1, e2]
        rw [E]
        have e3 : 0 < fuse := by omega
        clear E
        go_enter Try.func61, Try.ntmps61
        go_wp2_with fail
        go_ret
        exact ⟨rfl, H.out.set2 _, But.setCell _ _ _ _⟩
  · rw [show fitsR true fuse 0 0 = (10, true, fuse) from rfl]
    go_enter Try.func61, Try.ntmps61
    go_wp2_with fail
    go_ret
    exact ⟨rfl, H.out, But.refl _ _⟩
/-- The document's tape: the same four things as a tape has. -/
structure RefAt (w : World) (h : Nat) (off : Bool) (fuse : Int) (b : List Int) (k : Nat) : Prop where
  blk : RefBlk w h (strOfNums (b.take k)) (strOfNums (b.drop k)) fuse off
  byte : Byte b
  low : -1 ≤ fuse
  high : fuse ≤ 9223372036854775807
  len : b.length ≤ 1048576
  kept : k ≤ b.length
def RCall (w : World) (h : Nat) (c : Int) (off : Bool) (fuse : Int) (b : List Int) (k : Nat) (e : Ending) (w' : World) : Prop :=
  e = .returned (.int .i64 c) ∧ RefAt w' h off fuse b k ∧ But h w w'
theorem str_app (a b : List Int) : strOfNums a ++ strOfNums b = strOfNums (a ++ b) := by
  apply ByteArray.ext
  simp [strOfNums]
theorem str_cut (l : List Int) (n : Nat) : (strOfNums l).extract 0 n = strOfNums (l.take n) := by
  apply ByteArray.ext
  simp [strOfNums, ByteArray.data_extract, List.map_take]
theorem str_nil : strOfNums [] = ⟨#[]⟩ := rfl
def RMute (w : World) (h : Nat) (off : Bool) (fuse : Int) (b : List Int) (k : Nat) (e : Ending) (w' : World) : Prop := e = .returned (.tuple #[]) ∧ RefAt w' h off fuse b k ∧ But h w w'
theorem rarm_any (w : World) (h : Nat) (off : Bool) (fuse n : Int) (b : List Int) (k : Nat) (H0 : RefAt w h off fuse b k) (hn : n ≤ 9223372036854775807) :
    Calls Try.prog 56 #[.pointer (some ⟨h, 0, none⟩), .int .i64 n] w (RMute w h off (max n (-1)) b k) := by
  obtain ⟨hb, h1, h2, h3, h4, h5⟩ := H0
  have H := Lib.hid hb
  obtain ⟨c0, c1, c2, c3⟩ := hb.cells
  have f2 := hb.frozen 2
  clear hb
  by_cases hneg : n < -1
  · rw [show max n (-1) = -1 by omega]
    go_enter Try.func56, Try.ntmps56
    go_wp2_with fail
    go_end0
    exact ⟨rfl, ⟨H.out.set2 _, h1, by omega, by omega, h4, h5⟩, But.setCell _ _ _ _⟩
  · rw [show max n (-1) = n by omega]
    go_enter Try.func56, Try.ntmps56
    go_wp2_with fail
    go_end0
    exact ⟨rfl, ⟨H.out.set2 _, h1, by omega, by omega, h4, h5⟩, But.setCell _ _ _ _⟩
set_option maxHeartbeats 1000000 in
set_option maxRecDepth 100000 in
theorem rsync_any (w : World) (h : Nat) (off : Bool) (fuse : Int) (b : List Int) (k : Nat) (H0 : RefAt w h off fuse b k) :
    Calls Try.prog 54 #[.pointer (some ⟨h, 0, none⟩)] w (RCall w h (fitsR off fuse 0 0).1 (fitsR off fuse 0 0).2.1 (fitsR off fuse 0 0).2.2 b (if (fitsR off fuse 0 0).1 = 0 then b.length else k)) := by
  obtain ⟨hb, h1, h2, h3, h4, h5⟩ := H0
  have hr := fitsR_range off fuse 0 0 h2 h3
  have B := Lib.hid (burns_any w h _ _ fuse off hb h2 h3)
  have hc10 : (fitsR off fuse 0 0).1 = 0 ∨ (fitsR off fuse 0 0).1 = 10 := by
    unfold fitsR burnR
    cases off
    · simp only [Bool.false_eq_true, if_false]
      repeat' split
      all_goals simp
      all_goals omega
    · simp
  have HBYTE := Lib.hid h1
  have hs1 : (strOfNums (b.take k)).size ≤ 1048576 := by rw [strOfNums_size]; simp; omega
  have hs2 : (strOfNums (b.drop k)).size ≤ 1048576 := by rw [strOfNums_size]; simp; omega
  have HE := Lib.hid (show strOfNums (b.take k) ++ strOfNums (b.drop k) = strOfNums b by rw [str_app, List.take_append_drop])
  generalize fitsR off fuse 0 0 = r at *
  obtain ⟨c, o', f'⟩ := r
  clear hb h1
  rcases hc10 with hc | hc
  · simp only at hc
    subst hc
    rw [if_pos rfl]
    generalize strOfNums (b.take k) = s1 at *
    generalize strOfNums (b.drop k) = s2 at *
    have hadd := fun W => run_string_add (P := Try.prog) W s1 s2 (by omega) (by omega)
    go_enter Try.func54, Try.ntmps54
    go_wp2_with (go_at_call 61; refine B.out.mono ?_; rintro e w1 ⟨rfl, q1, q2⟩; have Q1 := Lib.hid q1; have Q2 := Lib.hid q2; obtain ⟨c0, c1, c2, c3⟩ := q1.cells; have f0 := q1.frozen 0; have f1 := q1.frozen 1; clear q1 q2; simp only [decide_true])
    go_still_tail 9, (by kernel_rfl)
    change wpList _ _ _ _ _ w1.drew
    go_wp2_with fail
    go_ret
    rw [HE.out]
    refine ⟨rfl, ⟨?_, HBYTE.out, hr.1, hr.2, h4, Nat.le_refl _⟩, (Q2.out.trans (But.drew _ _)).trans ((But.setCell _ _ _ _).trans (But.setCell _ _ _ _))⟩
    rw [List.take_length, List.drop_length]
    exact (RefBlk.set0 (show RefBlk w1.drew h s1 s2 f' o' from Q1.out) _).set1 _
  · simp only at hc
    subst hc
    rw [if_neg (by omega)]
    go_enter Try.func54, Try.ntmps54
    go_wp2_with (go_at_call 61; refine B.out.mono ?_; rintro e w1 ⟨rfl, q1, q2⟩; have Q1 := Lib.hid q1; have Q2 := Lib.hid q2; clear q1 q2; simp only [show decide ((10 : Int) = 0) = false from rfl])
    go_ret
    exact ⟨rfl, ⟨Q1.out, HBYTE.out, hr.1, hr.2, h4, h5⟩, Q2.out⟩
set_option maxHeartbeats 1000000 in
set_option maxRecDepth 100000 in
theorem rwrite_any (w : World) (h : Nat) (off : Bool) (fuse : Int) (b : List Int) (k : Nat) (H0 : RefAt w h off fuse b k) (xo : Option Addr) (xc m : Nat) (x : List Int) (hx : Bs w xo xc x) (hm : x.length = m) :
    Calls Try.prog 53 #[.pointer (some ⟨h, 0, none⟩), .slice xo m xc] w (RCall w h (fitsR off fuse b.length m).1 (fitsR off fuse b.length m).2.1 (fitsR off fuse b.length m).2.2 (if (fitsR off fuse b.length m).1 = 0 then b ++ x else b) k) := by
  obtain ⟨hb, h1, h2, h3, h4, h5⟩ := H0
  have hml := hx.len_le
  have HBYTE := Lib.hid h1
  have HX := Lib.hid hx
  have HM := Lib.hid hm
  have HNB := Lib.hid hb.noBytes
  have HB := Lib.hid hb
  obtain ⟨c0, c1, c2, c3⟩ := hb.cells
  obtain ⟨n1, hn1⟩ : ∃ n, (strOfNums (b.take k)).size = n := ⟨_, rfl⟩
  obtain ⟨n2, hn2⟩ : ∃ n, (strOfNums (b.drop k)).size = n := ⟨_, rfl⟩
  have hn : (n1 : Int) + n2 = b.length := by rw [← hn1, ← hn2, strOfNums_size, strOfNums_size]; simp; omega
  have hbr := burns_any w h _ _ fuse off hb h2 h3
  have hmb : (m : Int) ≤ 9223372036854775807 := by omega
  obtain ⟨bn, hbn⟩ : ∃ bn, b.length = bn := ⟨_, rfl⟩
  have HBN := Lib.hid hbn
  rw [hbn] at hn ⊢
  have h4' : bn ≤ 1048576 := by omega
  have HTK := Lib.hid (show strOfNums ((b ++ x).take k) = strOfNums (b.take k) by rw [List.take_append_of_le_length h5])
  have HDR := Lib.hid (show strOfNums ((b ++ x).drop k) = strOfNums (b.drop k) ++ strOfNums x by rw [str_app, List.drop_append_of_le_length h5])
  have S1 := Lib.hid (show ∃ s1, strOfNums (b.take k) = s1 from ⟨_, rfl⟩)
  obtain ⟨s1, hs1⟩ := S1.out
  obtain ⟨s2, hs2⟩ : ∃ s2, strOfNums (b.drop k) = s2 := ⟨_, rfl⟩
  have E1 := Lib.hid hs1
  have E2 := Lib.hid hs2
  rw [hs1] at HTK hn1 HB c0
  rw [hs2] at HDR hn2 HB c1
  clear S1 hs1 hs2
  clear hb h1 hx hbr
  cases off
  · by_cases hf : (1048576 : Int) - bn < m
    · rw [show fitsR false fuse bn m = (9, false, fuse) by unfold fitsR; rw [if_neg (by decide), if_pos hf]]
      have hf' : (1048576 : Int) - m < bn := by omega
      clear hm hbn
      simp only [show ((9 : Int) = 0) = False from eq_false (by omega), if_false]
      go_enter Try.func53, Try.ntmps53
      go_wp2_with fail
      go_quiet (fail)
      go_wp2_with fail
      go_ret
      exact ⟨rfl, ⟨by rw [E1.out, E2.out]; exact HB.out.below (below_dn' w _), HBYTE.out, h2, h3, h4, h5⟩, but_of (below_dn' w _)⟩
    · rw [show fitsR false fuse bn m = fitsR false fuse 0 0 by unfold fitsR; rw [if_neg (by decide), if_neg hf, if_neg (by decide), if_neg (by omega)]]
      have hf' : ¬ (1048576 : Int) - m < bn := by omega
      have hr := fitsR_range false fuse 0 0 h2 h3
      have hbu := fun w H => burns_any w h s1 s2 fuse false H h2 h3
      have HBU := Lib.hid hbu
      have hxs : (strOfNums x).size ≤ 1048576 := by rw [strOfNums_size]; omega
      have hadd := fun W => run_string_add (P := Try.prog) W s2 (strOfNums x) (by omega) (by omega)
      have hm5 : m ≤ 1048576 := by omega
      have hlen : (b ++ x).length ≤ 1048576 := by rw [List.length_append]; omega
      have HLEN := Lib.hid hlen
      have HXB := Lib.hid (HX.out.byte)
      have hok := fitsR_ok false fuse 0 0
      have hc10 : (fitsR false fuse 0 0).1 = 0 ∨ (fitsR false fuse 0 0).1 = 10 := by
        unfold fitsR burnR
        simp only [Bool.false_eq_true, if_false]
        repeat' split
        all_goals simp
        all_goals omega
      generalize fitsR false fuse 0 0 = r at *
      obtain ⟨c, o', f'⟩ := r
      clear hm hbn hbu hlen
      rcases hc10 with hc | hc
      · simp only at hc
        subst hc
        rw [if_pos rfl]
        obtain ⟨sx, hsx⟩ : ∃ sx, strOfNums x = sx := ⟨_, rfl⟩
        have HSX := Lib.hid hsx
        rw [hsx] at hadd HDR hxs
        clear hsx hok
        go_enter Try.func53, Try.ntmps53
        go_wp2_with fail
        go_quiet (fail)
        go_wp2_with (go_at_call 61; refine (HBU.out _ (HB.out.below (below_dn' w _))).mono ?_; rintro e w1 ⟨rfl, q1, q2⟩; have Q1 := Lib.hid q1; have Q2 := Lib.hid ((but_of (below_dn' w nq)).trans q2); obtain ⟨d0, d1, d2, d3⟩ := q1.cells; have f1 := q1.frozen 1; clear q1 q2; simp only [decide_true])
        have hcv := conv_bs (HX.out.but HNB.out Q2.out).drew
        rw [HM.out, HSX.out] at hcv
        go_still_tail 7, (by kernel_rfl)
        change wpList _ _ _ _ _ w1.drew
        go_wp2_with fail
        go_ret
        refine ⟨rfl, ⟨?_, HBYTE.out.append HXB.out, hr.1, hr.2, HLEN.out, by rw [List.length_append]; omega⟩, (Q2.out.trans (But.drew _ _)).trans (But.setCell _ _ _ _)⟩
        rw [HTK.out, HDR.out]
        exact RefBlk.set1 (show RefBlk w1.drew h s1 s2 f' o' from Q1.out) _
      · simp only at hc
        subst hc
        simp only [show ((10 : Int) = 0) = False from eq_false (by omega), if_false]
        clear hadd hok
        go_enter Try.func53, Try.ntmps53
        go_wp2_with fail
        go_quiet (fail)
        go_wp2_with (go_at_call 61; refine (HBU.out _ (HB.out.below (below_dn' w _))).mono ?_; rintro e w1 ⟨rfl, q1, q2⟩; have Q1 := Lib.hid q1; have Q2 := Lib.hid ((but_of (below_dn' w nq)).trans q2); clear q1 q2; simp only [show decide ((10 : Int) = 0) = false from rfl])
        go_ret
        exact ⟨rfl, ⟨by rw [E1.out, E2.out]; exact Q1.out, HBYTE.out, hr.1, hr.2, h4, h5⟩, Q2.out⟩
  · rw [show fitsR true fuse bn m = (10, true, fuse) from rfl]
    simp only [show ((10 : Int) = 0) = False from eq_false (by omega), if_false]
    clear hm hbn
    go_enter Try.func53, Try.ntmps53
    go_wp2_with fail
    go_quiet (fail)
    go_wp2_with (go_at_call 61; refine (burns_any _ h s1 s2 fuse true (HB.out.below (below_dn' w _)) h2 h3).mono ?_; rintro e w1 ⟨rfl, q1, q2⟩; have Q1 := Lib.hid q1; have Q2 := Lib.hid ((but_of (below_dn' w nq)).trans q2); clear q1 q2; simp only [show fitsR true fuse 0 0 = (10, true, fuse) from rfl, show decide ((10 : Int) = 0) = false from rfl])
    go_ret
    exact ⟨rfl, ⟨by rw [E1.out, E2.out]; exact Q1.out, HBYTE.out, h2, h3, h4, h5⟩, Q2.out⟩
set_option maxHeartbeats 1000000 in
set_option maxRecDepth 100000 in
theorem rswap_any (w : World) (h : Nat) (off : Bool) (fuse : Int) (b : List Int) (k : Nat) (H0 : RefAt w h off fuse b k) (xo : Option Addr) (xc m : Nat) (x : List Int) (hx : Bs w xo xc x) (hm : x.length = m) :
    Calls Try.prog 55 #[.pointer (some ⟨h, 0, none⟩), .slice xo m xc] w (RCall w h (fitsR off fuse 0 m).1 (fitsR off fuse 0 m).2.1 (fitsR off fuse 0 m).2.2 (if (fitsR off fuse 0 m).1 = 0 then x else b) (if (fitsR off fuse 0 m).1 = 0 then m else k)) := by
  obtain ⟨hb, h1, h2, h3, h4, h5⟩ := H0
  have hml := hx.len_le
  have hmb : (m : Int) ≤ 9223372036854775807 := by omega
  have HBYTE := Lib.hid h1
  have HX := Lib.hid hx
  have HM := Lib.hid hm
  have HNB := Lib.hid hb.noBytes
  obtain ⟨s1, hs1⟩ : ∃ s1, strOfNums (b.take k) = s1 := ⟨_, rfl⟩
  obtain ⟨s2, hs2⟩ : ∃ s2, strOfNums (b.drop k) = s2 := ⟨_, rfl⟩
  have E1 := Lib.hid hs1
  have E2 := Lib.hid hs2
  rw [hs1, hs2] at hb
  have HB := Lib.hid hb
  obtain ⟨c0, c1, c2, c3⟩ := hb.cells
  clear hb h1 hx hs1 hs2
  cases off
  · by_cases hf : (1048576 : Int) < m
    · rw [show fitsR false fuse 0 m = (9, false, fuse) by unfold fitsR; rw [if_neg (by decide), if_pos (by omega)]]
      clear hm
      simp only [show ((9 : Int) = 0) = False from eq_false (by omega), if_false]
      go_enter Try.func55, Try.ntmps55
      go_wp2_with fail
      go_ret
      exact ⟨rfl, ⟨by rw [E1.out, E2.out]; exact HB.out, HBYTE.out, h2, h3, h4, h5⟩, But.refl _ _⟩
    · rw [show fitsR false fuse 0 m = fitsR false fuse 0 0 by unfold fitsR; rw [if_neg (by decide), if_neg (by omega), if_neg (by decide), if_neg (by omega)]]
      have hr := fitsR_range false fuse 0 0 h2 h3
      have HBU := Lib.hid (burns_any w h s1 s2 fuse false HB.out h2 h3)
      have hm5 : m ≤ 1048576 := by omega
      have HXB := Lib.hid (HX.out.byte)
      have hc10 : (fitsR false fuse 0 0).1 = 0 ∨ (fitsR false fuse 0 0).1 = 10 := by
        unfold fitsR burnR
        simp only [Bool.false_eq_true, if_false]
        repeat' split
        all_goals simp
        all_goals omega
      generalize fitsR false fuse 0 0 = r at *
      obtain ⟨c, o', f'⟩ := r
      clear hm
      rcases hc10 with hc | hc
      · simp only at hc
        subst hc
        rw [if_pos rfl, if_pos rfl]
        obtain ⟨sx, hsx⟩ : ∃ sx, strOfNums x = sx := ⟨_, rfl⟩
        have HSX := Lib.hid hsx
        clear hsx
        go_enter Try.func55, Try.ntmps55
        go_wp2_with fail
        refine HBU.out.mono ?_
        rintro e w1 ⟨rfl, q1, q2⟩
        have Q1 := Lib.hid q1
        have Q2 := Lib.hid q2
        obtain ⟨d0, d1, d2, d3⟩ := q1.cells
        have f0 := q1.frozen 0
        have f1 := q1.frozen 1
        have hcv := conv_bs (HX.out.but HNB.out Q2.out)
        rw [HM.out, HSX.out] at hcv
        clear q1 q2
        simp only [decide_true]
        go_wp2_with fail
        go_ret
        refine ⟨rfl, ⟨?_, HXB.out, hr.1, hr.2, by rw [HM.out]; exact hm5, by rw [HM.out]; exact Nat.le_refl _⟩, Q2.out.trans ((But.setCell _ _ _ _).trans (But.setCell _ _ _ _))⟩
        rw [List.take_of_length_le (by rw [HM.out]; exact Nat.le_refl _), List.drop_of_length_le (by rw [HM.out]; exact Nat.le_refl _), HSX.out]
        exact (RefBlk.set0 Q1.out _).set1 _
      · simp only at hc
        subst hc
        simp only [show ((10 : Int) = 0) = False from eq_false (by omega), if_false]
        go_enter Try.func55, Try.ntmps55
        go_wp2_with fail
        refine HBU.out.mono ?_
        rintro e w1 ⟨rfl, q1, q2⟩
        have Q1 := Lib.hid q1
        have Q2 := Lib.hid q2
        clear q1 q2
        simp only [show decide ((10 : Int) = 0) = false from rfl]
        go_wp2_with fail
        go_ret
        exact ⟨rfl, ⟨by rw [E1.out, E2.out]; exact Q1.out, HBYTE.out, hr.1, hr.2, h4, h5⟩, Q2.out⟩
  · rw [show fitsR true fuse 0 m = (10, true, fuse) from rfl]
    simp only [show ((10 : Int) = 0) = False from eq_false (by omega), if_false]
    have hbu := burns_any w h s1 s2 fuse true HB.out h2 h3
    rw [show fitsR true fuse 0 0 = (10, true, fuse) from rfl] at hbu
    have HBU := Lib.hid hbu
    clear hm hbu
    go_enter Try.func55, Try.ntmps55
    go_wp2_with fail
    refine HBU.out.mono ?_
    rintro e w1 ⟨rfl, q1, q2⟩
    have Q1 := Lib.hid q1
    have Q2 := Lib.hid q2
    clear q1 q2
    simp only [show decide ((10 : Int) = 0) = false from rfl]
    go_wp2_with fail
    go_ret
    exact ⟨rfl, ⟨by rw [E1.out, E2.out]; exact Q1.out, HBYTE.out, h2, h3, h4, h5⟩, Q2.out⟩
theorem rstart_on (w : World) (h : Nat) (fuse : Int) (b : List Int) (k : Nat) (keep : Int) (H0 : RefAt w h false fuse b k) :
    Calls Try.prog 57 #[.pointer (some ⟨h, 0, none⟩), .int .i64 keep] w (RCall w h 11 false fuse b k) := by
  have H := Lib.hid H0
  obtain ⟨c0, c1, c2, c3⟩ := H0.blk.cells
  generalize strOfNums (b.take k) = s1 at *
  generalize strOfNums (b.drop k) = s2 at *
  clear H0
  go_enter Try.func57, Try.ntmps57
  go_wp2_with fail
  go_ret
  exact ⟨rfl, H.out, But.refl _ _⟩
end Go.Proofs.Ytaniflbhkddlhaa
