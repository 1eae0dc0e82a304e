/- The contracts of node.Up and of the probe that each statement holds (alive); no condition. -/
import Derived.Test.YtojinbckpjddmaaWn
namespace Go.Proofs.Ytojinbckpjddmaa
open Go.RowKit

theorem next_at {s since tries ev now retry a b c d : Int} (w : World) (h : nextF s since tries ev now retry = (a, b, c, d)) :
    Calls Try.prog 8 #[.agg #[.int .i64 s, .int .i64 since, .int .i64 tries], .int .i64 ev, .int .i64 now, .int .i64 retry] w (NextPost w a b c d) := by
  have := next_any s since tries ev now retry w
  rw [h] at this
  exact this

theorem bcell {W w1 : World} (hb : Below W.heap.size W w1) : (∀ b o, b < W.heap.size → w1.cell? ⟨b, o, none⟩ = W.cell? ⟨b, o, none⟩) ∧ (∀ b o, b < W.heap.size → w1.frozen? ⟨b, o, none⟩ = W.frozen? ⟨b, o, none⟩) :=
  ⟨fun b o h => hb.cell (p := ⟨b, o, none⟩) h, fun b o h => hb.frozen (p := ⟨b, o, none⟩) h⟩

/-- which states are told by the bits -/
def bitN (set s : Nat) : Bool := (set >>> s) % 2 == 1

set_option maxHeartbeats 400000 in
theorem bit_in (set s : Nat) (w : World) (h1 : s < 8) (hs : set = 60 ∨ set = 130) :
    Calls Try.prog 23 #[.int .u64 set, .int .i64 s] w fun e w' => e = .returned (.bool (bitN set s)) ∧ w = w' := by
  have h : s = 0 ∨ s = 1 ∨ s = 2 ∨ s = 3 ∨ s = 4 ∨ s = 5 ∨ s = 6 ∨ s = 7 := by omega
  rcases hs with rfl | rfl <;> rcases h with rfl | rfl | rfl | rfl | rfl | rfl | rfl | rfl
  all_goals
    go_enter Try.func23, Try.ntmps23
    go_wp2_with (go_at_call 20; refine (isState_yes _ _ (by omega) (by omega)).mono ?_; rintro e w' ⟨rfl, rfl⟩)
    go_ret
    exact ⟨rfl, rfl⟩

set_option maxHeartbeats 400000 in
theorem bit_out (set s : Int) (w : World) (h : s < 0 ∨ 8 ≤ s) :
    Calls Try.prog 23 #[.int .u64 set, .int .i64 s] w fun e w' => e = .returned (.bool false) ∧ w = w' := by
  go_enter Try.func23, Try.ntmps23
  go_wp2_with (go_at_call 20; refine (isState_no _ _ h).mono ?_; rintro e w' ⟨rfl, rfl⟩)
  go_ret
  exact ⟨rfl, rfl⟩

def upB (s : Int) : Bool := decide (2 ≤ s ∧ s ≤ 5)
set_option maxHeartbeats 400000 in
theorem up_any (s : Int) (w : World) :
    Calls Try.prog 14 #[.int .i64 s] w fun e w' => e = .returned (.bool (upB s)) ∧ w = w' := by
  by_cases h : s < 0 ∨ 8 ≤ s
  · go_enter Try.func14, Try.ntmps14
    go_wp2_with (go_at_call 23; refine (bit_out _ _ _ h).mono ?_; rintro e w' ⟨rfl, rfl⟩)
    go_ret
    have e : upB s = false := by simp [upB]; omega
    exact ⟨by rw [e]; rfl, rfl⟩
  · obtain ⟨n, rfl⟩ := Int.eq_ofNat_of_zero_le (by omega : 0 ≤ s)
    have hn : n < 8 := by omega
    clear h
    go_enter Try.func14, Try.ntmps14
    go_wp2_with (go_at_call 23; refine (bit_in 60 n _ hn (.inl rfl)).mono ?_; rintro e w' ⟨rfl, rfl⟩)
    go_ret
    have e : upB (n : Int) = bitN 60 n := by
      have h : n = 0 ∨ n = 1 ∨ n = 2 ∨ n = 3 ∨ n = 4 ∨ n = 5 ∨ n = 6 ∨ n = 7 := by omega
      rcases h with rfl | rfl | rfl | rfl | rfl | rfl | rfl | rfl <;> rfl
    exact ⟨by rw [e]; rfl, rfl⟩

/-- What a struct's block of three cells, laid just ahead of a call, holds behind it. -/
theorem kept3 {w1 w2 : World} {a b c : Value} {t : TypeId} (hb : Below (w1.alloc (.cells #[a, b, c] t)).heap.size (w1.alloc (.cells #[a, b, c] t)) w2) :
    w1.heap.size < w2.heap.size ∧ w2.cell? ⟨w1.heap.size, 0, none⟩ = some a ∧ w2.cell? ⟨w1.heap.size, 1, none⟩ = some b ∧ w2.cell? ⟨w1.heap.size, 2, none⟩ = some c := by
  have hz := hb.size
  simp at hz
  refine ⟨by omega, ?_, ?_, ?_⟩
  · rw [hb.cell (by simp)]; simp
  · rw [hb.cell (by simp)]; simp
  · rw [hb.cell (by simp)]; simp

set_option maxHeartbeats 400000 in
set_option maxRecDepth 100000 in
theorem alive_any (w : World) :
    Calls Try.prog 9 #[] w fun e w' => e = .returned (.bool true) ∧ Below w.heap.size w w' := by
  go_enter Try.func9, Try.ntmps9
  go_wp2_with fail
  refine (next_at _ (a := 1) (b := 5) (c := 0) (d := 0) (by decide)).mono ?_
  rintro e w1 ⟨rfl, hb1⟩
  go_wp2_with fail
  refine (next_at _ (a := 2) (b := 9) (c := 0) (d := 0) (by decide)).mono ?_
  rintro e w2 ⟨rfl, hb2⟩
  obtain ⟨hz2, k0, k1, k2⟩ := kept3 hb2
  go_wp2_with (go_at_call 14; refine (up_any _ _).mono ?_; rintro e w' ⟨rfl, rfl⟩)
  go_ret
  have b1 := hb1.alloc hb1.size (.cells #[.int .i64 1, .int .i64 5, .int .i64 0] 23)
  have b2 := b1.trans (hb2.mono (by simp; have := hb1.size; omega))
  exact ⟨rfl, b2.alloc b2.size _⟩
end Go.Proofs.Ytojinbckpjddmaa
