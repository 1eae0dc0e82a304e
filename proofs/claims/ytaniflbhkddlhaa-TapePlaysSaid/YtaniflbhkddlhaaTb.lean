/- Contracts of the tape's small functions. No condition. -/
import Derived.Test.YtaniflbhkddlhaaTa
namespace Go.Proofs.Ytaniflbhkddlhaa
open Go.RowKit
def ptrV (g : Nat) : Value := .pointer (some ⟨g, 0, none⟩)
def NewPost (w : World) (e : Ending) (w' : World) : Prop :=
  e = .returned (.pointer (some ⟨w.heap.size, 0, none⟩)) ∧ TapeBlk w' w.heap.size false (-1) (.slice none 0 0) 0 ∧ Below w.heap.size w w'
theorem new_any (w : World) : Calls Try.prog 27 #[] w (NewPost w) := by
  go_enter Try.func27, Try.ntmps27
  go_wp2_with fail
  go_ret
  refine ⟨rfl, ?_, below_alloc _ _⟩
  exact heap_alloc_new w _
def upC (off : Bool) : Int := if off then 10 else 0
theorem up_any (w : World) (g : Nat) (off : Bool) (fuse : Int) (v : Value) (kept : Int) (h : TapeBlk w g off fuse v kept) :
    Calls Try.prog 49 #[.pointer (some ⟨g, 0, none⟩)] w (NumPost w .i64 (upC off)) := by
  obtain ⟨c0, c1, -, -, -⟩ := h.cells
  clear h
  cases off
  all_goals
    go_enter Try.func49, Try.ntmps49
    go_wp2_with fail
    go_ret
    exact ⟨rfl, rfl⟩
def burnR (fuse : Int) : Int × Bool × Int := if fuse = -1 then (0, false, -1) else if fuse = 0 then (10, true, 0) else (0, false, fuse - 1)
/-- A call on a tape: it answers a number, and the tape's struct holds so. -/
def StepPost (w : World) (g : Nat) (c : Int) (off : Bool) (fuse : Int) (v : Value) (kept : Int) (e : Ending) (w' : World) : Prop :=
  e = .returned (.int .i64 c) ∧ TapeBlk w' g off fuse v kept ∧ But g w w'
theorem burn_any (w : World) (g : Nat) (fuse : Int) (v : Value) (kept : Int) (h : TapeBlk w g false fuse v kept) (h0 : -1 ≤ fuse) (h1 : fuse ≤ 9223372036854775807) :
    Calls Try.prog 60 #[.pointer (some ⟨g, 0, none⟩)] w (StepPost w g (burnR fuse).1 (burnR fuse).2.1 (burnR fuse).2.2 v kept) := by
  have H := Lib.hid h
  obtain ⟨c0, c1, c2, -, -⟩ := h.cells
  have f1 := h.frozen 1
  have f2 := h.frozen 2
  clear h
  by_cases e1 : fuse = -1
  · subst e1
    go_enter Try.func60, Try.ntmps60
    go_wp2_with fail
    go_ret
    exact ⟨rfl, H.out, But.refl _ _⟩
  · by_cases e2 : fuse = 0
    · subst e2
      go_enter Try.func60, Try.ntmps60
      go_wp2_with fail
      go_ret
      exact ⟨rfl, H.out.set1 _, But.setCell _ _ _ _⟩
    · have E : burnR fuse = (0, false, fuse - 1) := by unfold burnR; rw [if_neg e1, if_neg e2]
      rw [E]
      clear E
      go_enter Try.func60, Try.ntmps60
      go_wp2_with fail
      go_ret
      exact ⟨rfl, H.out.set2 _, But.setCell _ _ _ _⟩
def fitsR (off : Bool) (fuse hv more : Int) : Int × Bool × Int := if off then (10, true, fuse) else if 1048576 - hv < more then (9, false, fuse) else burnR fuse
theorem fits_any (w : World) (g : Nat) (off : Bool) (fuse : Int) (v : Value) (kept hv more : Int) (h : TapeBlk w g off fuse v kept) (h0 : -1 ≤ fuse) (h1 : fuse ≤ 9223372036854775807) (h2 : 0 ≤ hv) (h3 : hv ≤ 1048576) :
    Calls Try.prog 50 #[.pointer (some ⟨g, 0, none⟩), .int .i64 hv, .int .i64 more] w (StepPost w g (fitsR off fuse hv more).1 (fitsR off fuse hv more).2.1 (fitsR off fuse hv more).2.2 v kept) := by
  have H := Lib.hid h
  have U := Lib.hid (up_any w g off fuse v kept h)
  cases off
  · by_cases hm : 1048576 - hv < more
    · have E : fitsR false fuse hv more = (9, false, fuse) := by unfold fitsR; rw [if_neg (by decide), if_pos hm]
      rw [E]
      clear E h
      go_enter Try.func50, Try.ntmps50
      go_wp2_with (go_at_call 49; refine U.out.mono ?_; rintro e w1 ⟨rfl, rfl⟩; simp only [upC, Bool.false_eq_true, if_false])
      go_ret
      exact ⟨rfl, H.out, But.refl _ _⟩
    · have E : fitsR false fuse hv more = burnR fuse := by unfold fitsR; rw [if_neg (by decide), if_neg hm]
      have B := Lib.hid (burn_any w g fuse v kept h h0 h1)
      rw [E]
      clear E h
      go_enter Try.func50, Try.ntmps50
      go_wp2_with (first | (go_at_call 49; refine U.out.mono ?_; rintro e w1 ⟨rfl, rfl⟩; simp only [upC, Bool.false_eq_true, if_false]) | (go_at_call 60; refine B.out.mono ?_; rintro e w1 ⟨rfl, h5, h6⟩))
      go_ret
      exact ⟨rfl, h5, h6⟩
  · have E : fitsR true fuse hv more = (10, true, fuse) := by unfold fitsR; rw [if_pos rfl]
    rw [E]
    clear E h
    go_enter Try.func50, Try.ntmps50
    go_wp2_with (go_at_call 49; refine U.out.mono ?_; rintro e w1 ⟨rfl, rfl⟩; simp only [upC, if_true])
    go_ret
    exact ⟨rfl, H.out, But.refl _ _⟩
theorem on_any (w : World) (g : Nat) (off : Bool) (fuse : Int) (v : Value) (kept : Int) (h : TapeBlk w g off fuse v kept) :
    Calls Try.prog 31 #[.pointer (some ⟨g, 0, none⟩)] w (BoolPost w (!off)) := by
  have U := Lib.hid (up_any w g off fuse v kept h)
  clear h
  cases off
  · go_enter Try.func31, Try.ntmps31
    go_wp2_with (go_at_call 49; refine U.out.mono ?_; rintro e w1 ⟨rfl, rfl⟩; simp only [upC, Bool.false_eq_true, if_false])
    go_ret
    exact ⟨rfl, rfl⟩
  · go_enter Try.func31, Try.ntmps31
    go_wp2_with (go_at_call 49; refine U.out.mono ?_; rintro e w1 ⟨rfl, rfl⟩; simp only [upC, if_true])
    go_ret
    exact ⟨rfl, rfl⟩
/-- A call on a tape that answers nothing. -/
def MutePost (w : World) (g : Nat) (off : Bool) (fuse : Int) (v : Value) (kept : Int) (e : Ending) (w' : World) : Prop :=
  e = .returned (.tuple #[]) ∧ TapeBlk w' g off fuse v kept ∧ But g w w'
theorem arm_any (w : World) (g : Nat) (off : Bool) (fuse : Int) (v : Value) (kept n : Int) (h : TapeBlk w g off fuse v kept) :
    Calls Try.prog 29 #[.pointer (some ⟨g, 0, none⟩), .int .i64 n] w (MutePost w g off (max n (-1)) v kept) := by
  have H := Lib.hid h
  obtain ⟨c0, c1, c2, -, -⟩ := h.cells
  have f2 := h.frozen 2
  clear h
  by_cases hn : n < -1
  · rw [show max n (-1) = -1 by omega]
    go_enter Try.func29, Try.ntmps29
    go_wp2_with fail
    go_end0
    exact ⟨rfl, H.out.set2 _, But.setCell _ _ _ _⟩
  · rw [show max n (-1) = n by omega]
    go_enter Try.func29, Try.ntmps29
    go_wp2_with fail
    go_end0
    exact ⟨rfl, H.out.set2 _, But.setCell _ _ _ _⟩
theorem sync_any (w : World) (g : Nat) (off : Bool) (fuse : Int) (ao : Option Addr) (n cap : Nat) (kept : Int) (h : TapeBlk w g off fuse (.slice ao n cap) kept) (h0 : -1 ≤ fuse) (h1 : fuse ≤ 9223372036854775807) :
    Calls Try.prog 44 #[.pointer (some ⟨g, 0, none⟩)] w (StepPost w g (fitsR off fuse 0 0).1 (fitsR off fuse 0 0).2.1 (fitsR off fuse 0 0).2.2 (.slice ao n cap) (if (fitsR off fuse 0 0).1 = 0 then n else kept)) := by
  have F := Lib.hid (fits_any w g off fuse (.slice ao n cap) kept 0 0 h h0 h1 (Int.le_refl _) (by omega))
  clear h
  generalize fitsR off fuse 0 0 = r at *
  obtain ⟨c, o', f'⟩ := r
  by_cases hc : c = 0
  · subst hc
    rw [if_pos rfl]
    go_enter Try.func44, Try.ntmps44
    go_wp2_with (go_at_call 50; refine F.out.mono ?_; rintro e w1 ⟨rfl, h5, h6⟩; have H5 := Lib.hid h5; have H6 := Lib.hid h6; obtain ⟨c0, c1, c2, c3, c4⟩ := h5.cells; have f4 := h5.frozen 4; clear h5 h6)
    go_ret
    exact ⟨rfl, H5.out.set4 _, H6.out.trans (But.setCell _ _ _ _)⟩
  · rw [if_neg hc]
    have hc' : (c == 0) = false := by simp [hc]
    go_enter Try.func44, Try.ntmps44
    go_wp2_with (go_at_call 50; refine F.out.mono ?_; rintro e w1 ⟨rfl, h5, h6⟩; have H5 := Lib.hid h5; have H6 := Lib.hid h6; clear h5 h6)
    go_ret
    exact ⟨rfl, H5.out, H6.out⟩
end Go.Proofs.Ytaniflbhkddlhaa
