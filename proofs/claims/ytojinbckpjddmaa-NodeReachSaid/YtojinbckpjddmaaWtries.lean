/- The walk of NodeTries: it returns true for every retry and either flag; no condition. -/
import Derived.Test.YtojinbckpjddmaaWc
import Derived.Lib.Hide
namespace Go.Proofs.Ytojinbckpjddmaa
open Go.RowKit

/-- The node that a law keeps in a variable of its own, at block N: its three numbers; nothing below N has turned. -/
structure Nd (N : Nat) (w wr : World) (a b c : Int) : Prop where
  bel : Below N w wr
  sz : N < wr.heap.size
  blk : wr.heap[N]? = some (.cells #[.int .i64 a, .int .i64 b, .int .i64 c] 23 (0, 0))

theorem Nd.cells {N : Nat} {w wr : World} {a b c : Int} (h : Nd N w wr a b c) :
    (wr.cell? ⟨N, 0, none⟩ = some (.int .i64 a) ∧ wr.cell? ⟨N, 1, none⟩ = some (.int .i64 b) ∧ wr.cell? ⟨N, 2, none⟩ = some (.int .i64 c)) ∧
    (wr.frozen? ⟨N, 0, none⟩ = false ∧ wr.frozen? ⟨N, 1, none⟩ = false ∧ wr.frozen? ⟨N, 2, none⟩ = false) := by
  have hb := h.blk
  refine ⟨⟨?_, ?_, ?_⟩, ?_, ?_, ?_⟩ <;> simp [World.cell?, World.frozen?, hb]
theorem Nd.below {N : Nat} {w wr w1 : World} {a b c : Int} (h : Nd N w wr a b c) (hb : Below wr.heap.size wr w1) : Nd N w w1 a b c :=
  ⟨h.bel.trans (hb.mono (Nat.le_of_lt h.sz)), Nat.lt_of_lt_of_le h.sz hb.size, by rw [hb.block _ h.sz]; exact h.blk⟩
theorem Nd.alloc {N : Nat} {w wr : World} {a b c : Int} (h : Nd N w wr a b c) (o : Obj) : Nd N w (wr.alloc o) a b c :=
  h.below ((Below.refl _ _).alloc (Nat.le_refl _) o)
theorem Nd.store {N : Nat} {w wr : World} {a b c : Int} (h : Nd N w wr a b c) (a' b' c' : Int) :
    Nd N w (((wr.setCell ⟨N, 0, none⟩ (.int .i64 a')).setCell ⟨N, 1, none⟩ (.int .i64 b')).setCell ⟨N, 2, none⟩ (.int .i64 c')) a' b' c' :=
  ⟨((h.bel.setCell (p := ⟨N, 0, none⟩) (Nat.le_refl _) _).setCell (p := ⟨N, 1, none⟩) (Nat.le_refl _) _).setCell (p := ⟨N, 2, none⟩) (Nat.le_refl _) _,
    by have := h.sz; simpa [World.setCell] using this,
    by
      have h1 := heap_setCell_same _ _ 0 _ _ (.int .i64 a') h.blk
      have h2 := heap_setCell_same _ _ 1 _ _ (.int .i64 b') h1
      have h3 := heap_setCell_same _ _ 2 _ _ (.int .i64 c') h2
      simpa using h3⟩

/-- the first events, and the node behind k of them -/
def evs : List Int := [1, 3, 1, 2, 10, 11]
def stS (k : Nat) : Int := [0, 1, 0, 1, 2, 7, 0].getD k 0
def stT (k : Nat) : Int := [0, 0, 1, 1, 0, 0, 0].getD k 0

theorem evs_next (k : Nat) (h : k < 6) : nextF (stS k) 0 (stT k) (evs.getD k 0) 0 300 = (stS (k + 1), 0, stT (k + 1), 0) := by
  have h : k = 0 ∨ k = 1 ∨ k = 2 ∨ k = 3 ∨ k = 4 ∨ k = 5 := by omega
  rcases h with rfl | rfl | rfl | rfl | rfl | rfl <;> decide

theorem tries_on (s k r : Int) (h : 0 ≤ k) (hs : s ≤ k) : nextF 0 s k 1 k r = (1, k, k, 0) := by
  unfold nextF
  rw [if_neg (by omega), show tabT 0 1 = 1 by decide, if_neg (by omega), if_neg (by omega), if_neg (by omega)]
theorem tries_off (k r : Int) (h : 0 ≤ k) (hk : k < r) (hr : r ≤ 255) : nextF 1 k k 3 k r = (0, k, k + 1, 0) := by
  unfold nextF
  rw [if_neg (by omega), show tabT 1 3 = 0 by decide, if_neg (by omega), if_pos rfl, if_pos (show k ≤ 4611686018427387903 by omega), if_neg (by omega)]
theorem tries_down (k : Int) (h : 0 ≤ k) (hr : k ≤ 255) : nextF 1 k k 3 k k = (6, k, k + 1, 0) := by
  unfold nextF
  rw [if_neg (by omega), show tabT 1 3 = 0 by decide, if_neg (by omega), if_pos rfl, if_pos (show k ≤ 4611686018427387903 by omega), if_pos (by omega)]
theorem tries_mend (k : Int) (h : 0 ≤ k) (hr : k ≤ 255) : nextF 6 k (k + 1) 9 999 k = (0, 999, 0, 0) := by
  unfold nextF
  rw [if_neg (by omega), show tabT 6 9 = 0 by decide, if_neg (by omega), if_neg (by omega), if_pos (by omega)]
/-- The node at the head of round k of retry + 1. -/
def Rnd (N : Nat) (w wr : World) (k : Nat) (r : Int) : Prop := ∃ s : Int, s ≤ k ∧ (((k : Int) ≤ r ∧ Nd N w wr 0 s k) ∨ ((k : Int) = r + 1 ∧ Nd N w wr 6 r k))

set_option maxHeartbeats 400000 in
set_option maxRecDepth 100000 in
theorem tries_true (r : Int) (w : World) (h0 : 0 ≤ r) (h1 : r ≤ 255) :
    Calls Try.prog 3 #[.int .u8 r, .bool true] w fun e w' => e = .returned (.bool true) ∧ Below w.heap.size w w' := by
  go_enter Try.func3, Try.ntmps3
  go_wp2_with fail
  go_loopw [21] (fun i wr => ∃ k : Nat, k ≤ 6 ∧ i = .int .i64 k ∧ Nd w.heap.size w wr (stS k) 0 (stT k) ∧ w.heap.size + 1 < wr.heap.size ∧ ∀ j, j < 6 → wr.cell? ⟨w.heap.size + 1, j, none⟩ = some (.int .i64 (evs.getD j 0))) (fun i _ => 6 - (intOf i).toNat)
  case atStart =>
    refine ⟨0, by omega, rfl, ⟨below2 _ _ _, by simp; omega, heap_alloc2_old _ _ _⟩, by simp, ?_⟩
    intro j hj
    have h : j = 0 ∨ j = 1 ∨ j = 2 ∨ j = 3 ∨ j = 4 ∨ j = 5 := by omega
    rcases h with rfl | rfl | rfl | rfl | rfl | rfl <;> simp [evs]
  case round =>
    obtain ⟨k, hk, rfl, hN, hz, hE⟩ := hrel
    by_cases hlt : k < 6
    · have hnx := evs_next k hlt
      have ek := hE k hlt
      have hk0 : (0 : Int) ≤ k := by omega
      obtain ⟨⟨c0, c1, c2⟩, _⟩ := hN.cells
      generalize evs.getD k 0 = ev at hnx ek
      have HE := Lib.hid hE
      clear hE
      go_wp2_with fail
      refine (next_at _ hnx).mono ?_
      clear c0 c1 c2 ek
      rintro e w1 ⟨rfl, hb1⟩
      have hN1 := hN.below hb1
      obtain ⟨⟨c0, c1, c2⟩, f0, f1, f2⟩ := hN1.cells
      have hs1 := hN1.sz
      go_wp2
      go_roundw
      case rel =>
        have hs2 := hb1.size
        refine ⟨k + 1, by omega, by go_num, (hN1.store _ _ _).alloc _, by simp; omega, ?_⟩
        intro j hj
        rw [World.cell?_alloc_lt _ _ _ (by simp; omega), World.cell?_setCell_other _ _ _ _ (by simp), World.cell?_setCell_other _ _ _ _ (by simp), World.cell?_setCell_other _ _ _ _ (by simp), hb1.cell (by show _ < _; omega)]
        exact HE.out j hj
      case measure => simp [intOf]; omega
    · obtain rfl : k = 6 := by omega
      clear hE hlt hk
      rw [show ((6 : Nat) : Int) = 6 from rfl]
      go_wp2_with fail
      have HR : Rnd w.heap.size w wr 0 r := ⟨0, by omega, .inl ⟨by omega, hN⟩⟩
      clear hN
      go_loopw [10] (fun i wr => ∃ k : Nat, i = .int .i64 k ∧ Rnd w.heap.size w wr k r) (fun i _ => 257 - (intOf i).toNat)
      case atStart => exact ⟨0, rfl, HR⟩
      case round =>
        clear HR
        obtain ⟨k, rfl, s, hs, hN⟩ := hrel
        have hk0 : (0 : Int) ≤ k := by omega
        rcases hN with ⟨hk, hN⟩ | ⟨hk, hN⟩
        · obtain ⟨⟨c0, c1, c2⟩, _⟩ := hN.cells
          by_cases hlt : (k : Int) < r
          · have b1 : ((k : Int) == r) = false := by simp; omega
            have b2 : decide ((k : Int) ≤ r) = true := by simp; omega
            go_wp2_with fail
            refine (next_at _ (tries_on s k r hk0 hs)).mono ?_
            rintro e w1 ⟨rfl, hb1⟩
            go_wp2_with fail
            refine (next_at _ (tries_off k r hk0 hlt h1)).mono ?_
            rintro e w2 ⟨rfl, hb2⟩
            have hN2 := ((hN.below hb1).alloc _).below hb2
            clear c0 c1 c2
            obtain ⟨⟨c0, c1, c2⟩, f0, f1, f2⟩ := hN2.cells
            have hs2 := hN2.sz
            go_wp2
            go_roundw
            case rel => exact ⟨k + 1, by go_num, (k : Int), by omega, .inl ⟨by omega, (hN2.store _ _ _).alloc _⟩⟩
            case measure => simp [intOf]; omega
          · obtain rfl : r = (k : Int) := by omega
            clear hlt
            go_wp2_with fail
            refine (next_at _ (tries_on s k k hk0 hs)).mono ?_
            rintro e w1 ⟨rfl, hb1⟩
            go_wp2_with fail
            refine (next_at _ (tries_down k hk0 h1)).mono ?_
            rintro e w2 ⟨rfl, hb2⟩
            have hN2 := ((hN.below hb1).alloc _).below hb2
            clear c0 c1 c2
            obtain ⟨⟨c0, c1, c2⟩, f0, f1, f2⟩ := hN2.cells
            have hs2 := hN2.sz
            go_wp2
            go_roundw
            case rel => exact ⟨k + 1, by go_num, (k : Int), by omega, .inr ⟨by omega, (hN2.store _ _ _).alloc _⟩⟩
            case measure => simp [intOf]; omega
        · have b2 : decide ((k : Int) ≤ r) = false := by simp; omega
          obtain ⟨⟨c0, c1, c2⟩, _⟩ := hN.cells
          obtain rfl : r = (k : Int) - 1 := by omega
          have hm := tries_mend ((k : Int) - 1) h0 h1
          rw [show (k : Int) - 1 + 1 = (k : Int) by omega] at hm
          clear hk
          go_wp2_with fail
          refine (next_at _ hm).mono ?_
          rintro e w1 ⟨rfl, hb1⟩
          have hN1 := hN.below hb1
          clear c0 c1 c2
          obtain ⟨⟨c0, c1, c2⟩, f0, f1, f2⟩ := hN1.cells
          have hs1 := hN1.sz
          go_wp2_with (go_at_call 9; refine (alive_any _).mono ?_; rintro e w2 ⟨rfl, hb2⟩)
          go_ret
          exact ⟨rfl, ((hN1.alloc _).below hb2).bel⟩
set_option maxHeartbeats 400000 in
set_option maxRecDepth 100000 in
theorem tries_false (r : Int) (w : World) (h0 : 0 ≤ r) (h1 : r ≤ 255) :
    Calls Try.prog 3 #[.int .u8 r, .bool false] w fun e w' => e = .returned (.bool true) ∧ Below w.heap.size w w' := by
  go_enter Try.func3, Try.ntmps3
  go_wp2_with fail
  have HR : Rnd w.heap.size w (w.alloc (.cells #[.int .i64 0, .int .i64 0, .int .i64 0] 23)) 0 r :=
    ⟨0, by omega, .inl ⟨by omega, ⟨(Below.refl _ _).alloc (Nat.le_refl _) _, by simp, heap_alloc_new _ _⟩⟩⟩
  go_loopw [10] (fun i wr => ∃ k : Nat, i = .int .i64 k ∧ Rnd w.heap.size w wr k r) (fun i _ => 257 - (intOf i).toNat)
  case atStart => exact ⟨0, rfl, HR⟩
  case round =>
    clear HR
    obtain ⟨k, rfl, s, hs, hN⟩ := hrel
    have hk0 : (0 : Int) ≤ k := by omega
    rcases hN with ⟨hk, hN⟩ | ⟨hk, hN⟩
    · obtain ⟨⟨c0, c1, c2⟩, _⟩ := hN.cells
      by_cases hlt : (k : Int) < r
      · have b1 : ((k : Int) == r) = false := by simp; omega
        have b2 : decide ((k : Int) ≤ r) = true := by simp; omega
        go_wp2_with fail
        refine (next_at _ (tries_on s k r hk0 hs)).mono ?_
        rintro e w1 ⟨rfl, hb1⟩
        go_wp2_with fail
        refine (next_at _ (tries_off k r hk0 hlt h1)).mono ?_
        rintro e w2 ⟨rfl, hb2⟩
        have hN2 := ((hN.below hb1).alloc _).below hb2
        clear c0 c1 c2
        obtain ⟨⟨c0, c1, c2⟩, f0, f1, f2⟩ := hN2.cells
        have hs2 := hN2.sz
        go_wp2
        go_roundw
        case rel => exact ⟨k + 1, by go_num, (k : Int), by omega, .inl ⟨by omega, (hN2.store _ _ _).alloc _⟩⟩
        case measure => simp [intOf]; omega
      · obtain rfl : r = (k : Int) := by omega
        clear hlt
        go_wp2_with fail
        refine (next_at _ (tries_on s k k hk0 hs)).mono ?_
        rintro e w1 ⟨rfl, hb1⟩
        go_wp2_with fail
        refine (next_at _ (tries_down k hk0 h1)).mono ?_
        rintro e w2 ⟨rfl, hb2⟩
        have hN2 := ((hN.below hb1).alloc _).below hb2
        clear c0 c1 c2
        obtain ⟨⟨c0, c1, c2⟩, f0, f1, f2⟩ := hN2.cells
        have hs2 := hN2.sz
        go_wp2
        go_roundw
        case rel => exact ⟨k + 1, by go_num, (k : Int), by omega, .inr ⟨by omega, (hN2.store _ _ _).alloc _⟩⟩
        case measure => simp [intOf]; omega
    · have b2 : decide ((k : Int) ≤ r) = false := by simp; omega
      obtain ⟨⟨c0, c1, c2⟩, _⟩ := hN.cells
      obtain rfl : r = (k : Int) - 1 := by omega
      have hm := tries_mend ((k : Int) - 1) h0 h1
      rw [show (k : Int) - 1 + 1 = (k : Int) by omega] at hm
      clear hk
      go_wp2_with fail
      refine (next_at _ hm).mono ?_
      rintro e w1 ⟨rfl, hb1⟩
      have hN1 := hN.below hb1
      clear c0 c1 c2
      obtain ⟨⟨c0, c1, c2⟩, f0, f1, f2⟩ := hN1.cells
      have hs1 := hN1.sz
      go_wp2_with (go_at_call 9; refine (alive_any _).mono ?_; rintro e w2 ⟨rfl, hb2⟩)
      go_ret
      exact ⟨rfl, ((hN1.alloc _).below hb2).bel⟩
end Go.Proofs.Ytojinbckpjddmaa
