/- Contracts of the tape's calls: what they answer, and what the tape has behind them. No condition. -/
import Derived.Test.YtaniflbhkddlhaaTb
namespace Go.Proofs.Ytaniflbhkddlhaa
open Go.RowKit
/-- A tape: whether its power is off, its fuse, its bytes, how many of these are kept. -/
structure TapeAt (w : World) (g : Nat) (off : Bool) (fuse : Int) (b : List Int) (k : Nat) : Prop where
  ex : ∃ ao cap, TapeBlk w g off fuse (.slice ao b.length cap) k ∧ Bs w ao cap b
  low : -1 ≤ fuse
  high : fuse ≤ 9223372036854775807
  len : b.length ≤ 1048576
  kept : k ≤ b.length
theorem TapeAt.below {w w' : World} {g : Nat} {off : Bool} {fuse : Int} {b : List Int} {k : Nat} (h : TapeAt w g off fuse b k) (hb : Below w.heap.size w w') : TapeAt w' g off fuse b k := by
  obtain ⟨⟨ao, cap, h1, h2⟩, h3, h4, h5, h6⟩ := h
  exact ⟨⟨ao, cap, h1.below hb, h2.below hb⟩, h3, h4, h5, h6⟩
theorem TapeAt.noBytes {w : World} {g : Nat} {off : Bool} {fuse : Int} {b : List Int} {k : Nat} (h : TapeAt w g off fuse b k) : NoBytes w g := by
  obtain ⟨⟨ao, cap, h1, h2⟩, h3, h4, h5, h6⟩ := h
  exact h1.noBytes
theorem TapeAt.byte {w : World} {g : Nat} {off : Bool} {fuse : Int} {b : List Int} {k : Nat} (h : TapeAt w g off fuse b k) : Byte b := by
  obtain ⟨⟨ao, cap, h1, h2⟩, h3, h4, h5, h6⟩ := h
  exact h2.byte
theorem TapeAt.lt {w : World} {g : Nat} {off : Bool} {fuse : Int} {b : List Int} {k : Nat} (h : TapeAt w g off fuse b k) : g < w.heap.size := by
  obtain ⟨⟨ao, cap, h1, h2⟩, h3, h4, h5, h6⟩ := h
  exact h1.lt
theorem fitsR_range (off : Bool) (fuse hv more : Int) (h0 : -1 ≤ fuse) (h1 : fuse ≤ 9223372036854775807) : -1 ≤ (fitsR off fuse hv more).2.2 ∧ (fitsR off fuse hv more).2.2 ≤ 9223372036854775807 := by
  unfold fitsR burnR
  repeat' split
  all_goals constructor <;> (simp only; omega)
theorem fitsR_ok (off : Bool) (fuse hv more : Int) (h : (fitsR off fuse hv more).1 = 0) : off = false ∧ more ≤ 1048576 - hv ∧ (fitsR off fuse hv more).2.1 = false := by
  unfold fitsR burnR at *
  cases off <;> simp only [Bool.false_eq_true, if_false, if_true] at h ⊢
  · repeat' split at h
    all_goals simp at h
    all_goals simp [*]
    all_goals omega
  · simp at h
def CallPost (w : World) (g : Nat) (c : Int) (off : Bool) (fuse : Int) (b : List Int) (k : Nat) (e : Ending) (w' : World) : Prop :=
  e = .returned (.int .i64 c) ∧ TapeAt w' g off fuse b k ∧ But g w w'
theorem tsync_any (w : World) (g : Nat) (off : Bool) (fuse : Int) (b : List Int) (k : Nat) (h : TapeAt w g off fuse b k) :
    Calls Try.prog 44 #[.pointer (some ⟨g, 0, none⟩)] w (CallPost w g (fitsR off fuse 0 0).1 (fitsR off fuse 0 0).2.1 (fitsR off fuse 0 0).2.2 b (if (fitsR off fuse 0 0).1 = 0 then b.length else k)) := by
  obtain ⟨⟨ao, cap, h1, h2⟩, h3, h4, h5, h6⟩ := h
  have hr := fitsR_range off fuse 0 0 h3 h4
  refine (sync_any w g off fuse ao b.length cap k h1 h3 h4).mono ?_
  rintro e w' ⟨rfl, hb, hB⟩
  refine ⟨rfl, ⟨⟨ao, cap, ?_, h2.but h1.noBytes hB⟩, hr.1, hr.2, h5, by split <;> omega⟩, hB⟩
  split
  · rw [if_pos (by assumption)] at hb; exact hb
  · rw [if_neg (by assumption)] at hb; exact hb
theorem tarm_any (w : World) (g : Nat) (off : Bool) (fuse n : Int) (b : List Int) (k : Nat) (h : TapeAt w g off fuse b k) (hn : n ≤ 9223372036854775807) :
    Calls Try.prog 29 #[.pointer (some ⟨g, 0, none⟩), .int .i64 n] w (fun e w' => e = .returned (.tuple #[]) ∧ TapeAt w' g off (max n (-1)) b k ∧ But g w w') := by
  obtain ⟨⟨ao, cap, h1, h2⟩, h3, h4, h5, h6⟩ := h
  refine (arm_any w g off fuse _ _ n h1).mono ?_
  rintro e w' ⟨rfl, hb, hB⟩
  exact ⟨rfl, ⟨⟨ao, cap, hb, h2.but h1.noBytes hB⟩, by omega, by omega, h5, h6⟩, hB⟩
theorem ton_any (w : World) (g : Nat) (off : Bool) (fuse : Int) (b : List Int) (k : Nat) (h : TapeAt w g off fuse b k) : Calls Try.prog 31 #[.pointer (some ⟨g, 0, none⟩)] w (BoolPost w (!off)) := by
  obtain ⟨⟨ao, cap, h1, h2⟩, h3, h4, h5, h6⟩ := h
  exact on_any w g off fuse _ _ h1
theorem Bs.clip {w : World} {ao : Option Addr} {cap : Nat} {l : List Int} (h : Bs w ao cap l) : Bs w ao l.length l :=
  ⟨h.cells, Nat.le_refl _, Nat.le_trans h.cap_le h.max, fun e => by have := h.nil e; have := h.cap_le; omega, h.byte⟩
theorem Bs.clip_n {w : World} {ao : Option Addr} {cap n : Nat} {l : List Int} (h : Bs w ao cap l) (hn : l.length = n) : Bs w ao n l := by
  subst hn; exact h.clip
set_option maxHeartbeats 8000000 in
set_option maxRecDepth 100000 in
theorem write_any (w : World) (g : Nat) (off : Bool) (fuse : Int) (b : List Int) (k : Nat) (h : TapeAt w g off fuse b k) (xo : Option Addr) (xc m : Nat) (x : List Int) (hx : Bs w xo xc x) (hm : x.length = m) :
    Calls Try.prog 43 #[.pointer (some ⟨g, 0, none⟩), .slice xo m xc] w (CallPost w g (fitsR off fuse b.length m).1 (fitsR off fuse b.length m).2.1 (fitsR off fuse b.length m).2.2 (if (fitsR off fuse b.length m).1 = 0 then b ++ x else b) k) := by
  obtain ⟨⟨ao, cap, h1, h2⟩, h3, h4, h5, h6⟩ := h
  have hr := fitsR_range off fuse b.length m h3 h4
  have hok := fitsR_ok off fuse b.length m
  have HF := Lib.hid (fits_any w g off fuse (.slice ao b.length cap) k b.length m h1 h3 h4 (by omega) (by omega))
  have HN := Lib.hid h1.noBytes
  have HLT := Lib.hid h1.lt
  obtain ⟨c0, c1, c2, c3, c4⟩ := h1.cells
  have hml := hx.len_le
  generalize fitsR off fuse b.length m = r at *
  obtain ⟨c, o', f'⟩ := r
  have H2 := Lib.hid h2
  have HX := Lib.hid hx
  have HM := Lib.hid hm
  have HR := Lib.hid hr
  have hbl := h2.cap_le
  have hbm := h2.max
  by_cases hc : c = 0
  · subst hc
    obtain ⟨h7, h8, h9⟩ := hok rfl
    rw [if_pos rfl]
    obtain ⟨n, hn⟩ : ∃ n, b.length = n := ⟨_, rfl⟩
    have HB := Lib.hid hn
    rw [hn] at HF c3 hbl h6 h8
    clear h1 h2 hx hm hok hn h9 hr
    go_enter Try.func43, Try.ntmps43
    go_wp2_with (go_at_call 50; refine HF.out.mono ?_; rintro e w1 ⟨rfl, h5, h6⟩; have H5 := Lib.hid h5; have H6 := Lib.hid h6; obtain ⟨d0, d1, d2, d3, d4⟩ := h5.cells; have HL1 := Lib.hid h5.lt; clear h5 h6)
    go_region_law (refine step_app_full rfl (.tmp 36) (.tmp 37) rfl ao n b (by simp [Act.eval, Act.put]) ((H2.out.but HN.out H6.out).clip_n HB.out).drew HB.out xo m xc x (by simp [Act.eval, Act.put]) (HX.out.but HN.out H6.out).drew HM.out (by omega) ?_; intro ao' cap' w2 hB hbw; have H7 := Lib.hid hB; have H8 := Lib.hid hbw; have h9 := TapeBlk.below H5.out.drew hbw; have f3 := h9.frozen 3; obtain ⟨e0, e1, e2, e3, e4⟩ := h9.cells; have H9 := Lib.hid h9; clear hB hbw h9 d0 d1 d2 d3 d4 c0 c1 c2 c3 c4)
    all_goals go_wp2_with fail
    all_goals go_ret
    all_goals have hbut : But g w (w2.setCell ⟨g, 3, none⟩ (.slice ao' (n + m) cap')) := (H6.out.trans ((But.drew g w1).trans (but_of H8.out))).trans (But.setCell _ _ _ _)
    all_goals exact ⟨rfl, ⟨⟨ao', cap', (by rw [List.length_append, HB.out, HM.out]; exact H9.out.set3 _), H7.out.but H9.out.noBytes (But.setCell _ _ _ _)⟩, HR.out.1, HR.out.2, (by rw [List.length_append, HB.out, HM.out]; omega), (by rw [List.length_append, HB.out]; omega)⟩, hbut⟩
  · rw [if_neg hc]
    have hc' : (c == 0) = false := by simp [hc]
    obtain ⟨n, hn⟩ : ∃ n, b.length = n := ⟨_, rfl⟩
    have HB := Lib.hid hn
    rw [hn] at HF c3 hbl h6
    clear h1 h2 hx hm hok hn hr
    go_enter Try.func43, Try.ntmps43
    go_wp2_with (go_at_call 50; refine HF.out.mono ?_; rintro e w1 ⟨rfl, h5, h6⟩; have H5 := Lib.hid h5; have H6 := Lib.hid h6; clear h5 h6)
    go_ret
    exact ⟨rfl, ⟨⟨ao, cap, HB.out.symm ▸ H5.out, H2.out.but HN.out H6.out⟩, HR.out.1, HR.out.2, h5, by have := HB.out; omega⟩, H6.out⟩
end Go.Proofs.Ytaniflbhkddlhaa
