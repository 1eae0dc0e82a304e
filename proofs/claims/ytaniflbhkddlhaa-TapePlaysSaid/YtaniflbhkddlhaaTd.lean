/- Contracts of Clone, Swap, Bytes, Start. No condition. -/
import Derived.Test.YtaniflbhkddlhaaTc
namespace Go.Proofs.Ytaniflbhkddlhaa
open Go.RowKit
theorem ownB_empty (w : World) : OwnB (w.alloc (.cells #[] 5)) w.heap.size (.slice (some ⟨w.heap.size, 0, none⟩) 0 0) [] := by
  refine ⟨?_, fun _ h => by cases h⟩
  have h := World.ownsRow_lit (base := w.heap.size) (e := 5) (size := 1) w #[] 0 (Nat.le_refl _) (by unfold maxLen; omega) (by simp)
  exact h
def ClonePost (w : World) (l : List Int) (n : Nat) (e : Ending) (w' : World) : Prop := ∃ ao cap, e = .returned (.slice ao n cap) ∧ Bs w' ao cap l ∧ Below w.heap.size w w'
theorem clone_any (ao : Option Addr) (cap n : Nat) (l : List Int) (w : World) (h : Bs w ao cap l) (hn : l.length = n) (hb : n ≤ 140737488355328) :
    Calls Try.prog 51 #[.slice ao n cap] w (ClonePost w l n) := by
  have H := Lib.hid h
  have HN := Lib.hid hn
  have q (w : World) (a : Option Addr) (n c : Nat) := Lib.run_eql_slice_nil (P := Try.prog) w 22 _ a n c 0 0 Try.underlying22
  cases ao with
  | none =>
    have h0 := h.nil rfl
    have h1 := h.cap_le
    obtain rfl : l = [] := List.eq_nil_of_length_eq_zero (by omega)
    subst h0 hn
    clear h
    go_enter Try.func51, Try.ntmps51
    go_wp2_with fail
    go_ret
    exact ⟨none, 0, rfl, H.out, Below.refl _ _⟩
  | some ad =>
    clear h hn
    go_enter Try.func51, Try.ntmps51
    go_wp2_with (at_builtin; refine wpList_app _ rfl (.tmp 5) (.tmp 6) rfl w.heap.size _ [] rfl (ownB_empty w) (some ad) n cap l rfl (H.out.alloc _) HN.out (by rw [HN.out]; simpa using hb) (by simp) ?_; intro v' w1 h1 h2 _; obtain ⟨ao', cap', e1, h3⟩ := h1.shape; rw [List.nil_append, HN.out] at e1; subst e1; rw [List.nil_append] at h3; have H3 := Lib.hid h3; have HB := Lib.hid (below_grown (below_alloc w _) h2 (by simp) (ownB_empty w) (Nat.le_refl _)); clear h1 h2 h3)
    go_ret
    exact ⟨_, _, rfl, H3.out, HB.out⟩
set_option maxRecDepth 100000 in
theorem swap_any (w : World) (g : Nat) (off : Bool) (fuse : Int) (b : List Int) (k : Nat) (h : TapeAt w g off fuse b k) (xo : Option Addr) (xc m : Nat) (x : List Int) (hx : Bs w xo xc x) (hm : x.length = m) :
    Calls Try.prog 34 #[.pointer (some ⟨g, 0, none⟩), .slice xo m xc] w (CallPost w g (fitsR off fuse 0 m).1 (fitsR off fuse 0 m).2.1 (fitsR off fuse 0 m).2.2 (if (fitsR off fuse 0 m).1 = 0 then x else b) (if (fitsR off fuse 0 m).1 = 0 then m else k)) := by
  obtain ⟨⟨ao, cap, h1, h2⟩, h3, h4, h5, h6⟩ := h
  have hr := fitsR_range off fuse 0 m h3 h4
  have hok := fitsR_ok off fuse 0 m
  have HF := Lib.hid (fits_any w g off fuse (.slice ao b.length cap) k 0 m h1 h3 h4 (Int.le_refl _) (by omega))
  have HN := Lib.hid h1.noBytes
  have hml := hx.len_le
  generalize fitsR off fuse 0 m = r at *
  obtain ⟨c, o', f'⟩ := r
  have H2 := Lib.hid h2
  have HX := Lib.hid hx
  have HM := Lib.hid hm
  have HR := Lib.hid hr
  by_cases hc : c = 0
  · subst hc
    obtain ⟨h7, h8, h9⟩ := hok rfl
    rw [if_pos rfl, if_pos rfl]
    clear h1 h2 hx hm hok h9 hr
    go_enter Try.func34, Try.ntmps34
    go_wp2_with (first
      | (go_at_call 50; refine HF.out.mono ?_; rintro e w1 ⟨rfl, h5, h6⟩; have H5 := Lib.hid h5; have H6 := Lib.hid h6; clear h5 h6)
      | (go_at_call 51; refine (clone_any xo xc m x w1 (HX.out.but HN.out H6.out) HM.out (by omega)).mono ?_; rintro e w2 ⟨ao', cap', rfl, hB, hbw⟩; have H7 := Lib.hid hB; have H8 := Lib.hid hbw; have h9 := TapeBlk.below H5.out hbw; have f3 := h9.frozen 3; have f4 := h9.frozen 4; obtain ⟨e0, e1, e2, e3, e4⟩ := h9.cells; have H9 := Lib.hid h9; clear hB hbw h9))
    go_ret
    have hbut : But g w ((w2.setCell ⟨g, 3, none⟩ (.slice ao' m cap')).setCell ⟨g, 4, none⟩ (.int .i64 m)) := (((H6.out.trans (but_of H8.out))).trans (But.setCell _ _ _ _)).trans (But.setCell _ _ _ _)
    have hn1 := (H9.out.set3 (.slice ao' m cap')).noBytes
    exact ⟨rfl, ⟨⟨ao', cap', (by rw [HM.out]; exact (H9.out.set3 _).set4 _), (H7.out.but H9.out.noBytes (But.setCell _ _ _ _)).but hn1 (But.setCell _ _ _ _)⟩, HR.out.1, HR.out.2, (by rw [HM.out]; omega), (by rw [HM.out]; omega)⟩, hbut⟩
  · rw [if_neg hc, if_neg hc]
    have hc' : (c == 0) = false := by simp [hc]
    obtain ⟨n, hn⟩ : ∃ n, b.length = n := ⟨_, rfl⟩
    have HB := Lib.hid hn
    rw [hn] at HF
    clear h1 h2 hx hm hok hn hr
    go_enter Try.func34, Try.ntmps34
    go_wp2_with (go_at_call 50; refine HF.out.mono ?_; rintro e w1 ⟨rfl, h5, h6⟩; have H5 := Lib.hid h5; have H6 := Lib.hid h6; clear h5 h6)
    go_ret
    exact ⟨rfl, ⟨⟨ao, cap, HB.out.symm ▸ H5.out, H2.out.but HN.out H6.out⟩, HR.out.1, HR.out.2, h5, h6⟩, H6.out⟩
def BytesPost (w : World) (l : List Int) (n : Nat) (c : Int) (e : Ending) (w' : World) : Prop := ∃ ao cap, e = .returned (.tuple #[.slice ao n cap, .int .i64 c]) ∧ Bs w' ao cap l ∧ Below w.heap.size w w'
theorem bytes_on (w : World) (g : Nat) (fuse : Int) (b : List Int) (k n : Nat) (h : TapeAt w g false fuse b k) (hn : b.length = n) :
    Calls Try.prog 40 #[.pointer (some ⟨g, 0, none⟩)] w (BytesPost w b n 0) := by
  obtain ⟨⟨ao, cap, h1, h2⟩, h3, h4, h5, h6⟩ := h
  have U := Lib.hid (up_any w g false fuse _ _ h1)
  rw [hn] at h1
  have H2 := Lib.hid h2
  have HN := Lib.hid hn
  obtain ⟨c0, c1, c2, c3, c4⟩ := h1.cells
  have hnb : n ≤ 1048576 := by omega
  clear h1 h2 hn
  go_enter Try.func40, Try.ntmps40
  go_wp2_with (first
    | (go_at_call 49; refine U.out.mono ?_; rintro e w1 ⟨rfl, rfl⟩; simp only [upC, Bool.false_eq_true, if_false])
    | (go_at_call 51; refine (clone_any ao cap n b w H2.out HN.out (by omega)).mono ?_; rintro e w2 ⟨ao', cap', rfl, hB, hbw⟩; have H7 := Lib.hid hB; have H8 := Lib.hid hbw; clear hB hbw))
  go_ret2
  exact ⟨ao', cap', rfl, H7.out, H8.out⟩
theorem bytes_off (w : World) (g : Nat) (fuse : Int) (b : List Int) (k : Nat) (h : TapeAt w g true fuse b k) :
    Calls Try.prog 40 #[.pointer (some ⟨g, 0, none⟩)] w (BytesPost w [] 0 10) := by
  obtain ⟨⟨ao, cap, h1, h2⟩, h3, h4, h5, h6⟩ := h
  have U := Lib.hid (up_any w g true fuse _ _ h1)
  clear h1 h2
  go_enter Try.func40, Try.ntmps40
  go_wp2_with (go_at_call 49; refine U.out.mono ?_; rintro e w1 ⟨rfl, rfl⟩; simp only [upC, if_true])
  go_ret2
  exact ⟨none, 0, rfl, bs_nil _, Below.refl _ _⟩
end Go.Proofs.Ytaniflbhkddlhaa
