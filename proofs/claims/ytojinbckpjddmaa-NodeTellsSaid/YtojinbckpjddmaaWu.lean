/- Contracts of Up, Powered, Late and of the references' like; no condition. -/
import Derived.Test.YtojinbckpjddmaaWe
namespace Go.Proofs.Ytojinbckpjddmaa
open Go.RowKit

set_option maxHeartbeats 400000 in
theorem refUp_any (s : Int) (w : World) : Calls Try.prog 15 #[.int .i64 s] w fun e w' => e = .returned (.bool (upB s)) ∧ w = w' := by
  by_cases h : 2 ≤ s ∧ s ≤ 5
  · have e0 : upB s = true := by simp [upB]; omega
    rw [e0]
    have h : s = 2 ∨ s = 3 ∨ s = 4 ∨ s = 5 := by omega
    clear e0
    rcases h with rfl | rfl | rfl | rfl
    all_goals
      go_enter Try.func15, Try.ntmps15
      go_wp2
      go_ret
      exact ⟨rfl, rfl⟩
  · have e0 : upB s = false := by simp [upB]; omega
    rw [e0]
    have e2 : (s == 2) = false := by simp; omega
    have e3 : (s == 3) = false := by simp; omega
    have e4 : (s == 4) = false := by simp; omega
    have e5 : (s == 5) = false := by simp; omega
    clear e0 h
    go_enter Try.func15, Try.ntmps15
    go_wp2
    go_ret
    exact ⟨rfl, rfl⟩

def pwB (s : Int) : Bool := decide (1 ≤ s ∧ s ≤ 5 ∨ s = 7)
set_option maxHeartbeats 400000 in
theorem powered_any (s : Int) (w : World) : Calls Try.prog 16 #[.int .i64 s] w fun e w' => e = .returned (.bool (pwB s)) ∧ w = w' := by
  by_cases h : s < 0 ∨ 8 ≤ s
  · have e1 : upB s = false := by simp [upB]; omega
    have e : pwB s = false := by simp [pwB]; omega
    rw [e]
    have E1 := Lib.hid e1
    clear e e1
    go_enter Try.func16, Try.ntmps16
    go_wp2_with (first | (go_at_call 14; refine (up_any _ _).mono ?_; rw [E1.out]; rintro e w' ⟨rfl, rfl⟩) | (go_at_call 23; refine (bit_out _ _ _ h).mono ?_; rintro e w' ⟨rfl, rfl⟩))
    go_ret
    exact ⟨rfl, rfl⟩
  · obtain ⟨n, rfl⟩ := Int.eq_ofNat_of_zero_le (by omega : 0 ≤ s)
    have hn : n < 8 := by omega
    have h : n = 0 ∨ n = 1 ∨ n = 2 ∨ n = 3 ∨ n = 4 ∨ n = 5 ∨ n = 6 ∨ n = 7 := by omega
    rcases h with rfl | rfl | rfl | rfl | rfl | rfl | rfl | rfl
    all_goals
      go_enter Try.func16, Try.ntmps16
      go_wp2_with (first | (go_at_call 14; refine (up_any _ _).mono ?_; rintro e w' ⟨rfl, rfl⟩) | (go_at_call 23; refine (bit_in 130 _ _ hn (.inr rfl)).mono ?_; rintro e w' ⟨rfl, rfl⟩))
      go_ret
      exact ⟨rfl, rfl⟩

set_option maxHeartbeats 400000 in
theorem refPowered_any (s : Int) (w : World) : Calls Try.prog 17 #[.int .i64 s] w fun e w' => e = .returned (.bool (pwB s)) ∧ w = w' := by
  by_cases h : 2 ≤ s ∧ s ≤ 5
  · have e1 : upB s = true := by simp [upB]; omega
    have e : pwB s = true := by simp [pwB]; omega
    rw [e]
    have E1 := Lib.hid e1
    clear e e1
    go_enter Try.func17, Try.ntmps17
    go_wp2_with (first | (go_at_call 15; refine (refUp_any _ _).mono ?_; rw [E1.out]; rintro e w' ⟨rfl, rfl⟩))
    go_ret
    exact ⟨rfl, rfl⟩
  · have e1 : upB s = false := by simp [upB]; omega
    have E1 := Lib.hid e1
    by_cases h1 : s = 1
    · subst h1
      go_enter Try.func17, Try.ntmps17
      go_wp2_with (first | (go_at_call 15; refine (refUp_any _ _).mono ?_; rw [E1.out]; rintro e w' ⟨rfl, rfl⟩))
      go_ret
      exact ⟨rfl, rfl⟩
    · by_cases h7 : s = 7
      · subst h7
        go_enter Try.func17, Try.ntmps17
        go_wp2_with (first | (go_at_call 15; refine (refUp_any _ _).mono ?_; rw [E1.out]; rintro e w' ⟨rfl, rfl⟩))
        go_ret
        exact ⟨rfl, rfl⟩
      · have e : pwB s = false := by simp [pwB]; omega
        rw [e]
        have e2 : (s == 1) = false := by simpa using h1
        have e3 : (s == 7) = false := by simpa using h7
        clear e e1 h h1 h7
        go_enter Try.func17, Try.ntmps17
        go_wp2_with (first | (go_at_call 15; refine (refUp_any _ _).mono ?_; rw [E1.out]; rintro e w' ⟨rfl, rfl⟩))
        go_ret
        exact ⟨rfl, rfl⟩

def lateB (st since now boot : Int) : Bool :=
  decide (st = 1 ∧ since ≤ now ∧ 0 ≤ boot ∧ IntKind.u64.wrap (IntKind.u64.wrap boot * 2) < IntKind.u64.wrap (IntKind.u64.wrap now - IntKind.u64.wrap since))
def LatePost (w : World) (b : Bool) (e : Ending) (w' : World) : Prop := e = .returned (.bool b) ∧ Below w.heap.size w w'

set_option maxHeartbeats 400000 in
theorem late_any (st since tries now boot : Int) (w : World) :
    Calls Try.prog 18 #[.agg #[.int .i64 st, .int .i64 since, .int .i64 tries], .int .i64 now, .int .i64 boot] w (LatePost w (lateB st since now boot)) := by
  have bel : Below w.heap.size w (w.alloc (.cells #[.int .i64 st, .int .i64 since, .int .i64 tries] 23)) := (Below.refl _ _).alloc (Nat.le_refl _) _
  by_cases h : st = 1
  · subst h
    by_cases h1 : since ≤ now
    · have e1 : decide (since ≤ now) = true := by simp; omega
      by_cases h2 : 0 ≤ boot
      · have e2 : decide (0 ≤ boot) = true := by simp; omega
        have hq : lateB 1 since now boot = decide (IntKind.u64.wrap (IntKind.u64.wrap boot * 2) < IntKind.u64.wrap (IntKind.u64.wrap now - IntKind.u64.wrap since)) := by
          unfold lateB; simp [h1, h2]
        rw [hq]
        clear hq
        go_enter Try.func18, Try.ntmps18
        go_wp2
        go_ret
        exact ⟨rfl, bel⟩
      · have e2 : decide (0 ≤ boot) = false := by simp; omega
        rw [show lateB 1 since now boot = false by unfold lateB; simp [h2]]
        clear h2
        go_enter Try.func18, Try.ntmps18
        go_wp2
        go_ret
        exact ⟨rfl, bel⟩
    · have e1 : decide (since ≤ now) = false := by simp; omega
      rw [show lateB 1 since now boot = false by unfold lateB; simp [h1]]
      clear h1
      go_enter Try.func18, Try.ntmps18
      go_wp2
      go_ret
      exact ⟨rfl, bel⟩
  · have e1 : (st == 1) = false := by simpa using h
    rw [show lateB st since now boot = false by unfold lateB; simp [h]]
    clear h
    go_enter Try.func18, Try.ntmps18
    go_wp2
    go_ret
    exact ⟨rfl, bel⟩

set_option maxHeartbeats 400000 in
theorem refLate_any (st since tries now boot : Int) (w : World) :
    Calls Try.prog 19 #[.agg #[.int .i64 st, .int .i64 since, .int .i64 tries], .int .i64 now, .int .i64 boot] w (LatePost w (lateB st since now boot)) := by
  have bel : Below w.heap.size w (w.alloc (.cells #[.int .i64 st, .int .i64 since, .int .i64 tries] 30)) := (Below.refl _ _).alloc (Nat.le_refl _) _
  by_cases h : st = 1
  · subst h
    by_cases h1 : since ≤ now
    · have e1 : decide (now < since) = false := by simp; omega
      by_cases h2 : 0 ≤ boot
      · have e2 : decide (boot < 0) = false := by simp; omega
        have hq : lateB 1 since now boot = decide (IntKind.u64.wrap (IntKind.u64.wrap boot * 2) < IntKind.u64.wrap (IntKind.u64.wrap now - IntKind.u64.wrap since)) := by
          unfold lateB; simp [h1, h2]
        rw [hq]
        clear hq
        go_enter Try.func19, Try.ntmps19
        go_wp2
        go_ret
        exact ⟨by rw [Int.mul_comm]; rfl, bel⟩
      · have e2 : decide (boot < 0) = true := by simp; omega
        rw [show lateB 1 since now boot = false by unfold lateB; simp [h2]]
        clear h2
        go_enter Try.func19, Try.ntmps19
        go_wp2
        go_ret
        exact ⟨rfl, bel⟩
    · have e1 : decide (now < since) = true := by simp; omega
      rw [show lateB 1 since now boot = false by unfold lateB; simp [h1]]
      clear h1
      go_enter Try.func19, Try.ntmps19
      go_wp2
      go_ret
      exact ⟨rfl, bel⟩
  · have e1 : (st != 1) = true := by simpa using h
    rw [show lateB st since now boot = false by unfold lateB; simp [h]]
    clear h
    go_enter Try.func19, Try.ntmps19
    go_wp2
    go_ret
    exact ⟨rfl, bel⟩
end Go.Proofs.Ytojinbckpjddmaa
