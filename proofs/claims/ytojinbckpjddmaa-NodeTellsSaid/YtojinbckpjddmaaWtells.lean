/- The walk of NodeTells: it returns true for every state, node and pair of times; no condition. -/
import Derived.Test.YtojinbckpjddmaaWu
import Derived.Test.YtojinbckpjddmaaWr
namespace Go.Proofs.Ytojinbckpjddmaa
open Go.RowKit

def RowAt (w : World) (ao : Option Addr) (l : List Int) : Prop :=
  ∀ i, i < l.length → ∃ g, ao = some ⟨g, 0, none⟩ ∧ g < w.heap.size ∧ w.cell? ⟨g, i, none⟩ = some (.int .i64 (l.getD i 0))
theorem RowAt.below {w w' : World} {ao : Option Addr} {l : List Int} (h : RowAt w ao l) (hb : Below w.heap.size w w') : RowAt w' ao l := fun i hi => by
  obtain ⟨g, rfl, hg, hc⟩ := h i hi
  exact ⟨g, rfl, Nat.lt_of_lt_of_le hg hb.size, by rw [hb.cell (by exact hg)]; exact hc⟩

set_option maxHeartbeats 400000 in
set_option maxRecDepth 100000 in
theorem ints_eq (l : List Int) (ao bo : Option Addr) (ca cb : Nat) (w : World) (hm : l.length ≤ maxLen) (ha : RowAt w ao l) (hb : RowAt w bo l) :
    Calls Try.prog 12 #[.slice ao l.length ca, .slice bo l.length cb] w (LatePost w true) := by
  unfold maxLen at hm
  have e0 : ((l.length : Int) != (l.length : Int)) = false := by simp
  have HA := Lib.hid ha
  have HB := Lib.hid hb
  clear ha hb
  go_enter Try.func12, Try.ntmps12
  go_wp2
  go_loopw [5] (fun i wr => ∃ k : Nat, k ≤ l.length ∧ i = .int .i64 k ∧ Below w.heap.size w wr) (fun i _ => l.length - (intOf i).toNat)
  case atStart => exact ⟨0, by omega, rfl, Below.refl _ _⟩
  case round =>
    obtain ⟨k, hk, rfl, hbel⟩ := hrel
    by_cases hlt : k < l.length
    · obtain ⟨g, rfl, hg, hc⟩ := (HA.out.below hbel) k hlt
      obtain ⟨g', rfl, hg', hc'⟩ := (HB.out.below hbel) k hlt
      have hk0 : (0 : Int) ≤ (k : Int) := by omega
      have hk1 : (k : Int) < (l.length : Int) := by omega
      go_wp2
      go_quiet (fail)
      go_wp2
      exact ⟨⟨k + 1, by omega, by go_num, ⟨hbel.os, hbel.tape, hbel.output, hbel.size, hbel.block⟩⟩, by simp [intOf]; omega⟩
    · obtain rfl : k = l.length := by omega
      go_wp2
      go_ret
      exact ⟨rfl, hbel⟩

def TheirsPost (w : World) (a b c : Int) (e : Ending) (w' : World) : Prop := e = .returned (.agg #[.int .i64 a, .int .i64 b, .int .i64 c]) ∧ Below w.heap.size w w'

theorem bstep {N : Nat} {w W w1 : World} (h : Below N w W ∧ N ≤ W.heap.size) (hb : Below W.heap.size W w1) : Below N w w1 ∧ N ≤ w1.heap.size :=
  ⟨h.1.trans (hb.mono h.2), Nat.le_trans h.2 hb.size⟩
theorem bdrew {N : Nat} {w W : World} (h : Below N w W ∧ N ≤ W.heap.size) : Below N w W.drew ∧ N ≤ W.drew.heap.size := ⟨h.1.drew, h.2⟩
theorem keep5 {N : Nat} {W w1 : World} (hb : Below W.heap.size W w1) {v0 v1 v2 v3 v4 : Value}
    (h : N + 1 < W.heap.size ∧ W.cell? ⟨N, 0, none⟩ = some v0 ∧ W.cell? ⟨N, 1, none⟩ = some v1 ∧ W.cell? ⟨N, 2, none⟩ = some v2 ∧ W.cell? ⟨N + 1, 0, none⟩ = some v3 ∧ W.cell? ⟨N + 1, 1, none⟩ = some v4) :
    N + 1 < w1.heap.size ∧ w1.cell? ⟨N, 0, none⟩ = some v0 ∧ w1.cell? ⟨N, 1, none⟩ = some v1 ∧ w1.cell? ⟨N, 2, none⟩ = some v2 ∧ w1.cell? ⟨N + 1, 0, none⟩ = some v3 ∧ w1.cell? ⟨N + 1, 1, none⟩ = some v4 := by
  obtain ⟨h0, h1, h2, h3, h4, h5⟩ := h
  have := hb.size
  refine ⟨by omega, ?_, ?_, ?_, ?_, ?_⟩
  · rw [hb.cell (by show N < _; omega)]; exact h1
  · rw [hb.cell (by show N < _; omega)]; exact h2
  · rw [hb.cell (by show N < _; omega)]; exact h3
  · rw [hb.cell (by show N + 1 < _; omega)]; exact h4
  · rw [hb.cell (by show N + 1 < _; omega)]; exact h5

set_option maxHeartbeats 4000000 in
set_option maxRecDepth 100000 in
theorem tells_any (s a b c x y : Int) (w : World) :
    Calls Try.prog 7 #[.int .i64 s, .agg #[.int .i64 a, .int .i64 b, .int .i64 c], .agg #[.int .i64 x, .int .i64 y]] w (LatePost w true) := by
  have hth : ∀ (W : World), Calls Try.prog 10 #[.agg #[.int .i64 a, .int .i64 b, .int .i64 c]] W (TheirsPost W a b c) := fun W => theirs_any a b c W
  have hal : ∀ (W : World), Calls Try.prog 9 #[] W (LatePost W true) := fun W => alive_any W
  have Hth := Lib.hid hth
  have Hal := Lib.hid hal
  clear hth hal
  go_enter Try.func7, Try.ntmps7
  go_wp2
  generalize hl : evL s = l
  have HE : Hid (∀ W, Calls Try.prog 11 #[.int .i64 s] W (EventsS W l)) := Lib.hid (fun W => hl ▸ events_s s W)
  have HR : Hid (∀ W, Calls Try.prog 13 #[.int .i64 s] W (EventsS W l)) := Lib.hid (fun W => hl ▸ refEvents_s s W)
  clear hl
  go_region_held3 (fun w' => w.heap.size + 1 < w'.heap.size ∧ w'.cell? ⟨w.heap.size, 0, none⟩ = some (.int .i64 a) ∧ w'.cell? ⟨w.heap.size, 1, none⟩ = some (.int .i64 b) ∧ w'.cell? ⟨w.heap.size, 2, none⟩ = some (.int .i64 c) ∧ w'.cell? ⟨w.heap.size + 1, 0, none⟩ = some (.int .i64 x) ∧ w'.cell? ⟨w.heap.size + 1, 1, none⟩ = some (.int .i64 y))
    (first | exact keep5 hb7 (by assumption) | exact keep5 hb6 (by assumption) | exact keep5 hb5 (by assumption) | exact keep5 hb4 (by assumption) | exact keep5 hb3 (by assumption) | exact keep5 hb2 (by assumption) | exact keep5 hb1 (by assumption) | go_keep)
    (first
      | (go_at_call 11; refine (HE.out _).mono ?_; rintro e w1 ⟨ao, ca, rfl, hm, hr1, hb1⟩)
      | (go_at_call 13; refine (HR.out _).mono ?_; rintro e w2 ⟨bo, cb, rfl, _, hr2, hb2⟩)
      | (go_at_call 12; refine (ints_eq l _ _ _ _ _ hm ?_ ?_).mono ?_; (exact (RowAt.below (fun i hi => by obtain ⟨g, h1, _, h2, h3⟩ := hr1 i hi; exact ⟨g, h1, h2, h3⟩) hb2)); (exact (fun i hi => by obtain ⟨g, h1, _, h2, h3⟩ := hr2 i hi; exact ⟨g, h1, h2, h3⟩)); rintro e w3 ⟨rfl, hb3⟩)
      | (go_at_call 14; refine (up_any _ _).mono ?_; rintro e w' ⟨rfl, rfl⟩)
      | (go_at_call 15; refine (refUp_any _ _).mono ?_; rintro e w' ⟨rfl, rfl⟩)
      | (go_at_call 16; refine (powered_any _ _).mono ?_; rintro e w' ⟨rfl, rfl⟩)
      | (go_at_call 17; refine (refPowered_any _ _).mono ?_; rintro e w' ⟨rfl, rfl⟩)
      | (go_at_call 10; refine (Hth.out _).mono ?_; rintro e w4 ⟨rfl, hb4⟩)
      | (go_at_call 18; refine (late_any _ _ _ _ _ _).mono ?_; rintro e w5 ⟨rfl, hb5⟩)
      | (go_at_call 19; refine (refLate_any _ _ _ _ _ _).mono ?_; rintro e w6 ⟨rfl, hb6⟩)
      | (go_at_call 9; refine (Hal.out _).mono ?_; rintro e w7 ⟨rfl, hb7⟩))
  go_wp2
  go_ret
  have h0 : Below w.heap.size w ((w.alloc (.cells #[.int .i64 a, .int .i64 b, .int .i64 c] 30)).alloc (.cells #[.int .i64 x, .int .i64 y] 37)).drew ∧ w.heap.size ≤ ((w.alloc (.cells #[.int .i64 a, .int .i64 b, .int .i64 c] 30)).alloc (.cells #[.int .i64 x, .int .i64 y] 37)).drew.heap.size := ⟨(below2 _ _ _).drew, by simp; omega⟩
  exact ⟨rfl, (bstep (bstep (bstep (bstep (bstep (bstep (bstep h0 hb1) hb2) hb3) hb4) hb5) hb6) hb7).1⟩
end Go.Proofs.Ytojinbckpjddmaa
