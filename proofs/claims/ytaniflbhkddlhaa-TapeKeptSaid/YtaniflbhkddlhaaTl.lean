/- The tape's calls once more: where its bytes lie behind them. No condition. -/
import Derived.Test.YtaniflbhkddlhaaTj
namespace Go.Proofs.Ytaniflbhkddlhaa
open Go.RowKit
theorem TapeZ.below {w w' : World} {g : Nat} {off : Bool} {fuse : Int} {b : List Int} {k : Nat} {Z : Nat → Prop} (h : TapeZ w g off fuse b k Z) (hb : Below w.heap.size w w') : TapeZ w' g off fuse b k Z := by
  obtain ⟨⟨ao, cap, h1, h2, h2z⟩, h3, h4, h5, h6⟩ := h
  exact ⟨⟨ao, cap, h1.below hb, h2.below hb, h2z⟩, h3, h4, h5, h6⟩
theorem TapeAt.z {w : World} {g : Nat} {off : Bool} {fuse : Int} {b : List Int} {k : Nat} {Z : Nat → Prop} (h : TapeAt w g off fuse b k) (hz : ∀ q, Z q → w.heap.size ≤ q) : TapeZ w g off fuse b k Z := by
  obtain ⟨⟨ao, cap, h1, h2⟩, h3, h4, h5, h6⟩ := h
  refine ⟨⟨ao, cap, h1, h2, fun a ha hl hq => ?_⟩, h3, h4, h5, h6⟩
  obtain ⟨b', o', e', hc⟩ := h2.cells 0 (List.length_pos_iff.2 hl)
  rw [e'] at ha
  injection ha with ha
  subst ha
  have h1 := block_lt_of_cell hc
  have h2 := hz _ hq
  simp only at h1 h2
  omega
theorem TapeZ.weak {w : World} {g : Nat} {off : Bool} {fuse : Int} {b : List Int} {k : Nat} {Z Z' : Nat → Prop} (h : TapeZ w g off fuse b k Z) (hz : ∀ q, Z' q → Z q) : TapeZ w g off fuse b k Z' := by
  obtain ⟨⟨ao, cap, h1, h2, h2z⟩, h3, h4, h5, h6⟩ := h
  exact ⟨⟨ao, cap, h1, h2, fun a ha hl hq => h2z a ha hl (hz _ hq)⟩, h3, h4, h5, h6⟩
theorem sync_z (w : World) (g : Nat) (off : Bool) (fuse : Int) (b : List Int) (k : Nat) (Z : Nat → Prop) (h : TapeZ w g off fuse b k Z) :
    Calls Try.prog 44 #[.pointer (some ⟨g, 0, none⟩)] w (CallZ w g (fitsR off fuse 0 0).1 (fitsR off fuse 0 0).2.1 (fitsR off fuse 0 0).2.2 b (if (fitsR off fuse 0 0).1 = 0 then b.length else k) Z) := by
  obtain ⟨⟨ao, cap, h1, h2, h2z⟩, h3, h4, h5, h6⟩ := h
  have hr := fitsR_range off fuse 0 0 h3 h4
  refine (sync_any w g off fuse ao b.length cap k h1 h3 h4).mono ?_
  rintro e w' ⟨rfl, hb, hB⟩
  refine ⟨rfl, ⟨⟨ao, cap, ?_, h2.but h1.noBytes hB, h2z⟩, hr.1, hr.2, h5, by split <;> omega⟩, hB⟩
  split
  · rw [if_pos (by assumption)] at hb; exact hb
  · rw [if_neg (by assumption)] at hb; exact hb
def ArmZ (w : World) (g : Nat) (off : Bool) (fuse : Int) (b : List Int) (k : Nat) (Z : Nat → Prop) (e : Ending) (w' : World) : Prop := e = .returned (.tuple #[]) ∧ TapeZ w' g off fuse b k Z ∧ But g w w'
theorem arm_z (w : World) (g : Nat) (off : Bool) (fuse n : Int) (b : List Int) (k : Nat) (Z : Nat → Prop) (h : TapeZ w g off fuse b k Z) (hn : n ≤ 9223372036854775807) :
    Calls Try.prog 29 #[.pointer (some ⟨g, 0, none⟩), .int .i64 n] w (ArmZ w g off (max n (-1)) b k Z) := by
  obtain ⟨⟨ao, cap, h1, h2, h2z⟩, h3, h4, h5, h6⟩ := h
  refine (arm_any w g off fuse _ _ n h1).mono ?_
  rintro e w' ⟨rfl, hb, hB⟩
  exact ⟨rfl, ⟨⟨ao, cap, hb, h2.but h1.noBytes hB, h2z⟩, by omega, by omega, h5, h6⟩, hB⟩
def CloneZ (w : World) (l : List Int) (n : Nat) (e : Ending) (w' : World) : Prop := ∃ ao cap, e = .returned (.slice ao n cap) ∧ Bs w' ao cap l ∧ Below w.heap.size w w' ∧ ∀ a, ao = some a → w.heap.size ≤ a.block
theorem clone_z (ao : Option Addr) (cap n : Nat) (l : List Int) (w : World) (h : Bs w ao cap l) (hn : l.length = n) (hb : n ≤ 140737488355328) :
    Calls Try.prog 51 #[.slice ao n cap] w (CloneZ w l n) := by
  have H := Lib.hid h
  have HN := Lib.hid hn
  have q (w : World) (a : Option Addr) (n c : Nat) := Lib.run_eql_slice_nil (P := Try.prog) w 22 _ a n c 0 0 Try.underlying22
  cases ao with
  | none =>
    have h0 := h.nil rfl
    have h1 := h.cap_le
    obtain rfl : l = [] := List.eq_nil_of_length_eq_zero (by omega)
    subst h0 hn
    clear h
    go_enter Try.func51, Try.ntmps51
    go_wp2_with fail
    go_ret
    exact ⟨none, 0, rfl, H.out, Below.refl _ _, fun a ha => by cases ha⟩
  | some ad =>
    clear h hn
    go_enter Try.func51, Try.ntmps51
    go_wp2_with (at_builtin; refine wpList_app _ rfl (.tmp 5) (.tmp 6) rfl w.heap.size _ [] rfl (ownB_empty w) (some ad) n cap l rfl (H.out.alloc _) HN.out (by rw [HN.out]; simpa using hb) (by simp) ?_; intro v' w1 h1 h2 _; obtain ⟨ao', cap', e1, h3⟩ := h1.shape; rw [List.nil_append, HN.out] at e1; subst e1; rw [List.nil_append] at h3; have H3 := Lib.hid h3; have HLT := Lib.hid h1.lt; have HB := Lib.hid (below_grown (below_alloc w _) h2 (by simp) (ownB_empty w) (Nat.le_refl _)); clear h1 h2 h3)
    go_ret
    exact ⟨_, _, rfl, H3.out, HB.out, fun a ha => (HLT.out a ha).1⟩
set_option maxRecDepth 100000 in
theorem swap_z (w : World) (g : Nat) (b : List Int) (k : Nat) (Z : Nat → Prop) (h : TapeAt w g false (-1) b k) (hz : ∀ q, Z q → q < w.heap.size) (xo : Option Addr) (xc m : Nat) (x : List Int) (hx : Bs w xo xc x) (hm : x.length = m) (hfit : m ≤ 1048576) :
    Calls Try.prog 34 #[.pointer (some ⟨g, 0, none⟩), .slice xo m xc] w (CallZ w g 0 false (-1) x m Z) := by
  obtain ⟨⟨ao, cap, h1, h2⟩, h3, h4, h5, h6⟩ := h
  have hF := fits_any w g false (-1) (.slice ao b.length cap) k 0 m h1 h3 h4 (Int.le_refl _) (by omega)
  rw [show fitsR false (-1) 0 (m : Int) = (0, false, -1) by unfold fitsR burnR; simp; omega] at hF
  have HF := Lib.hid hF
  have HN := Lib.hid h1.noBytes
  have HX := Lib.hid hx
  have HM := Lib.hid hm
  have HZ := Lib.hid hz
  generalize b.length = n at *
  clear h1 h2 hx hm hF hz
  go_enter Try.func34, Try.ntmps34
  go_wp2_with (first
    | (go_at_call 50; refine HF.out.mono ?_; rintro e w1 ⟨rfl, h5, h6⟩; have H5 := Lib.hid h5; have H6 := Lib.hid h6; clear h5 h6)
    | (go_at_call 51; refine (clone_z xo xc m x w1 (HX.out.but HN.out H6.out) HM.out (by omega)).mono ?_; rintro e w2 ⟨ao', cap', rfl, hB, hbw, hfr⟩; have H7 := Lib.hid hB; have H8 := Lib.hid hbw; have HFR := Lib.hid hfr; have h9 := TapeBlk.below H5.out hbw; have f3 := h9.frozen 3; have f4 := h9.frozen 4; obtain ⟨e0, e1, e2, e3, e4⟩ := h9.cells; have H9 := Lib.hid h9; clear hB hbw h9 hfr))
  go_ret
  have hbut : But g w ((w2.setCell ⟨g, 3, none⟩ (.slice ao' m cap')).setCell ⟨g, 4, none⟩ (.int .i64 m)) := (((H6.out.trans (but_of H8.out))).trans (But.setCell _ _ _ _)).trans (But.setCell _ _ _ _)
  have hn1 := (H9.out.set3 (.slice ao' m cap')).noBytes
  exact ⟨rfl, ⟨⟨ao', cap', (by rw [HM.out]; exact (H9.out.set3 _).set4 _), (H7.out.but H9.out.noBytes (But.setCell _ _ _ _)).but hn1 (But.setCell _ _ _ _), fun a ha _ hq => by
    have q1 := HFR.out a ha
    have q2 := HZ.out _ hq
    have q3 := H6.out.size
    omega⟩, by omega, by omega, (by rw [HM.out]; omega), (by rw [HM.out]; omega)⟩, hbut⟩
set_option maxHeartbeats 8000000 in
set_option maxRecDepth 100000 in
theorem write_zz (w : World) (g : Nat) (off : Bool) (fuse : Int) (b : List Int) (k : Nat) (Z : Nat → Prop) (h : TapeZ w g off fuse b k Z) (hz : ∀ q, Z q → q < w.heap.size) (xo : Option Addr) (xc m : Nat) (x : List Int) (hx : Bs w xo xc x) (hm : x.length = m) :
    Calls Try.prog 43 #[.pointer (some ⟨g, 0, none⟩), .slice xo m xc] w (CallZ w g (fitsR off fuse b.length m).1 (fitsR off fuse b.length m).2.1 (fitsR off fuse b.length m).2.2 (if (fitsR off fuse b.length m).1 = 0 then b ++ x else b) k Z) := by
  obtain ⟨⟨ao, cap, h1, h2, h2z⟩, h3, h4, h5, h6⟩ := h
  have HZ := Lib.hid hz
  have H2Z := Lib.hid h2z
  clear hz h2z
  have hr := fitsR_range off fuse b.length m h3 h4
  have hok := fitsR_ok off fuse b.length m
  have HF := Lib.hid (fits_any w g off fuse (.slice ao b.length cap) k b.length m h1 h3 h4 (by omega) (by omega))
  have HN := Lib.hid h1.noBytes
  have HLT := Lib.hid h1.lt
  obtain ⟨c0, c1, c2, c3, c4⟩ := h1.cells
  have hml := hx.len_le
  generalize fitsR off fuse b.length m = r at *
  obtain ⟨c, o', f'⟩ := r
  have H2 := Lib.hid h2
  have HX := Lib.hid hx
  have HM := Lib.hid hm
  have HR := Lib.hid hr
  have hbl := h2.cap_le
  have hbm := h2.max
  by_cases hc : c = 0
  · subst hc
    obtain ⟨h7, h8, h9⟩ := hok rfl
    rw [if_pos rfl]
    obtain ⟨n, hn⟩ : ∃ n, b.length = n := ⟨_, rfl⟩
    have HB := Lib.hid hn
    rw [hn] at HF c3 hbl h6 h8
    clear h1 h2 hx hm hok hn h9 hr
    go_enter Try.func43, Try.ntmps43
    go_wp2_with (go_at_call 50; refine HF.out.mono ?_; rintro e w1 ⟨rfl, h5, h6⟩; have H5 := Lib.hid h5; have H6 := Lib.hid h6; obtain ⟨d0, d1, d2, d3, d4⟩ := h5.cells; have HL1 := Lib.hid h5.lt; clear h5 h6)
    go_region_law (refine step_app_z rfl (.tmp 36) (.tmp 37) rfl ao n b (by simp [Act.eval, Act.put]) ((H2.out.but HN.out H6.out).clip_n HB.out).drew HB.out xo m xc x (by simp [Act.eval, Act.put]) (HX.out.but HN.out H6.out).drew HM.out (by omega) ?_; intro ao' cap' w2 hB hbw hfr; have HFR := Lib.hid hfr; clear hfr; have H7 := Lib.hid hB; have H8 := Lib.hid hbw; have h9 := TapeBlk.below H5.out.drew hbw; have f3 := h9.frozen 3; obtain ⟨e0, e1, e2, e3, e4⟩ := h9.cells; have H9 := Lib.hid h9; clear hB hbw h9 d0 d1 d2 d3 d4 c0 c1 c2 c3 c4)
    all_goals go_wp2_with fail
    all_goals go_ret
    all_goals have hbut : But g w (w2.setCell ⟨g, 3, none⟩ (.slice ao' (n + m) cap')) := (H6.out.trans ((But.drew g w1).trans (but_of H8.out))).trans (But.setCell _ _ _ _)
    all_goals have hfr := fresh_z HFR.out H2Z.out HZ.out H6.out
    all_goals exact ⟨rfl, ⟨⟨ao', cap', (by rw [List.length_append, HB.out, HM.out]; exact H9.out.set3 _), H7.out.but H9.out.noBytes (But.setCell _ _ _ _), hfr⟩, HR.out.1, HR.out.2, (by rw [List.length_append, HB.out, HM.out]; omega), (by rw [List.length_append, HB.out]; omega)⟩, hbut⟩
  · rw [if_neg hc]
    have hc' : (c == 0) = false := by simp [hc]
    obtain ⟨n, hn⟩ : ∃ n, b.length = n := ⟨_, rfl⟩
    have HB := Lib.hid hn
    rw [hn] at HF c3 hbl h6
    clear h1 h2 hx hm hok hn hr
    go_enter Try.func43, Try.ntmps43
    go_wp2_with (go_at_call 50; refine HF.out.mono ?_; rintro e w1 ⟨rfl, h5, h6⟩; have H5 := Lib.hid h5; have H6 := Lib.hid h6; clear h5 h6)
    go_ret
    exact ⟨rfl, ⟨⟨ao, cap, HB.out.symm ▸ H5.out, H2.out.but HN.out H6.out, H2Z.out⟩, HR.out.1, HR.out.2, h5, by have := HB.out; omega⟩, H6.out⟩
def CallRZ (w : World) (g : Nat) (r : Int × Bool × Int × List Int × Nat) (Z : Nat → Prop) : Ending → World → Prop := CallZ w g r.1 r.2.1 r.2.2.1 r.2.2.2.1 r.2.2.2.2 Z
theorem log_z (w : World) (g : Nat) (fuse : Int) (b : List Int) (k : Nat) (Z : Nat → Prop) (h : TapeZ w g false fuse b k Z) (hz : ∀ q, Z q → q < w.heap.size) (ro : Option Addr) (rc n : Nat) (rs : List (List Int)) (hr : Rs w ro rc rs) (hn : rs.length = n) (hf : Few rs) :
    Calls Try.prog 30 #[.pointer (some ⟨g, 0, none⟩), .slice ro n rc] w (CallRZ w g (logR fuse b k (logB rs)) Z) := by
  refine log_core w g fuse b k h.at ro rc n rs hr hn n (Nat.le_refl _) (by rw [List.take_of_length_le (by omega)]; exact hf) (fun h => by omega) _ (fun h => by omega) ?_
  intro _ wr xo xc hb hx
  refine (write_zz wr g false fuse b k Z (h.below hb) (fun q hq => Nat.lt_of_lt_of_le (hz q hq) hb.size) xo xc _ (logB rs) hx rfl).mono ?_
  rintro e w1 ⟨rfl, ht, hbut⟩
  refine ⟨_, rfl, ?_⟩
  by_cases hc : (logC fuse b (logB rs)).1 = 0
  · right
    refine ⟨hc, ?_⟩
    rw [show (fitsR false fuse b.length (logB rs).length).1 = 0 from hc, if_pos rfl] at ht
    refine (sync_z w1 g _ _ _ _ Z ht).mono ?_
    rintro e w2 ⟨rfl, ht2, hbut2⟩
    refine ⟨_, rfl, ?_⟩
    unfold CallRZ logR
    rw [if_pos hc]
    exact ⟨rfl, ht2, ((but_of hb).trans hbut).trans hbut2⟩
  · left
    refine ⟨hc, ?_⟩
    rw [if_neg (show ¬ (fitsR false fuse b.length (logB rs).length).1 = 0 from hc)] at ht
    unfold CallRZ logR
    rw [if_neg hc]
    exact ⟨rfl, ht, (but_of hb).trans hbut⟩
end Go.Proofs.Ytaniflbhkddlhaa
