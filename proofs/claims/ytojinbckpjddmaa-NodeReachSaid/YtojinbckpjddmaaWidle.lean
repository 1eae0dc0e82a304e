/- The walk of NodeIdle: it returns true for every node and every list of events; no condition. -/
import Derived.Test.YtojinbckpjddmaaWtries
import Derived.Test.YtojinbckpjddmaaWo
namespace Go.Proofs.Ytojinbckpjddmaa
open Go.RowKit

set_option maxHeartbeats 400000 in
theorem theirs_any (a b c : Int) (w : World) :
    Calls Try.prog 10 #[.agg #[.int .i64 a, .int .i64 b, .int .i64 c]] w fun e w' => e = .returned (.agg #[.int .i64 a, .int .i64 b, .int .i64 c]) ∧ Below w.heap.size w w' := by
  go_enter Try.func10, Try.ntmps10
  go_wp2
  refine bodyPost_ret (v := .agg #[.int .i64 a, .int .i64 b, .int .i64 c]) (by simp [results, Try.results10, go_sem]) rfl ⟨rfl, below2 _ _ _⟩

def IdleOk (s ev : Int) (r : Int × Int × Int × Int) : Prop :=
  r.2.2.2 ≠ 0 ∨ (r.2.2.2 = 0 ∧ (r.1 = 7 → s = 2) ∧ (r.1 = 3 → s = 2 ∨ s = 4) ∧ (ev = 8 → r.1 = 6) ∧ (s = 6 → ev = 9))
/-- What the table says, entry by entry. -/
def TabFacts (s e : Nat) (t : Int) : Prop := (t = 7 → s = 2) ∧ (t = 3 → s = 2 ∨ s = 4) ∧ (e = 8 → t = 6 ∨ t = -1) ∧ (s = 6 → e = 9 ∨ t = -1) ∧ -1 ≤ t ∧ t ≤ 7 ∧ t ≠ s ∧ (e = 3 → t = 0 ∨ t = -1) ∧ (e = 3 → s = 1 ∨ t = -1) ∧ (e = 0 → t = -1)
instance (s e : Nat) (t : Int) : Decidable (TabFacts s e t) := by unfold TabFacts; infer_instance
theorem tab_facts_nat : ∀ s, s < 8 → ∀ e, e < 12 → TabFacts s e (tabF (s * 12 + e)) := by
  decide
theorem tab_facts (s ev : Int) (h0 : 0 ≤ s) (h1 : s < 8) (h2 : 0 ≤ ev) (h3 : ev < 12) : TabFacts s.toNat ev.toNat (tabT s ev) :=
  tab_facts_nat s.toNat (by omega) ev.toNat (by omega)
theorem idle_ok (s since tries ev now : Int) : IdleOk s ev (nextF s since tries ev now 3) := by
  unfold nextF
  by_cases h : s < 0 ∨ 8 ≤ s ∨ ev < 1 ∨ 11 < ev ∨ tries < 0 ∨ now < since
  · rw [if_pos h]; left; simp
  · rw [if_neg h]
    have T := tab_facts s ev (by omega) (by omega) (by omega) (by omega)
    unfold TabFacts at T
    generalize tabT s ev = t at T
    by_cases h1 : t = -1
    · rw [if_pos h1]; left; simp
    · rw [if_neg h1]
      right
      by_cases h2 : ev = 3
      · rw [if_pos h2]
        generalize (if tries ≤ 4611686018427387903 then tries + 1 else tries) = m
        by_cases h3 : 3 < m
        · rw [if_pos h3]; dsimp only; refine ⟨rfl, ?_, ?_, ?_, ?_⟩ <;> intro hx <;> omega
        · rw [if_neg h3]; dsimp only; refine ⟨rfl, ?_, ?_, ?_, ?_⟩ <;> intro hx <;> omega
      · rw [if_neg h2]
        by_cases h3 : ev = 2 ∨ ev = 9
        · rw [if_pos h3]; dsimp only; refine ⟨rfl, ?_, ?_, ?_, ?_⟩ <;> intro hx <;> omega
        · rw [if_neg h3]; dsimp only; refine ⟨rfl, ?_, ?_, ?_, ?_⟩ <;> intro hx <;> omega

def IdlePost (w : World) (s ev : Int) (e : Ending) (w' : World) : Prop :=
  ∃ a b c d : Int, e = .returned (.tuple #[.agg #[.int .i64 a, .int .i64 b, .int .i64 c], .int .i64 d]) ∧ Below w.heap.size w w' ∧ IdleOk s ev (a, b, c, d)
theorem next_idle (s since tries ev now : Int) (w : World) :
    Calls Try.prog 8 #[.agg #[.int .i64 s, .int .i64 since, .int .i64 tries], .int .i64 ev, .int .i64 now, .int .i64 3] w (IdlePost w s ev) :=
  (next_any s since tries ev now 3 w).mono fun _ _ ⟨he, hb⟩ => ⟨_, _, _, _, he, hb, idle_ok s since tries ev now⟩
/-- The ways on from a state, as the tests read them. -/
theorem idle_ways {s ev a b c d : Int} (h : IdleOk s ev (a, b, c, d)) :
    (d ≠ 0) ∨ (d = 0 ∧ ((a = 7 ∧ s = 2 ∧ ev ≠ 8) ∨ (a = 3 ∧ s = 2 ∧ ev ≠ 8) ∨ (a = 3 ∧ s = 4 ∧ ev ≠ 8) ∨ (a = 6 ∧ ev = 8 ∧ s ≠ 6) ∨ (a ≠ 7 ∧ a ≠ 3 ∧ ev = 9 ∧ s = 6) ∨ (a ≠ 7 ∧ a ≠ 3 ∧ ev ≠ 8 ∧ s ≠ 6))) := by
  unfold IdleOk at h
  dsimp only at h
  omega

set_option maxHeartbeats 400000 in
set_option maxRecDepth 100000 in
theorem idle_any (s0 b0 c0 : Int) (a0 : Option Addr) (len cap : Nat) (zs : List Int) (w : World) (hr : IsRow .i64 w a0 len cap zs) :
    Calls Try.prog 4 #[.agg #[.int .i64 s0, .int .i64 b0, .int .i64 c0], .slice a0 len cap] w fun e w' => e = .returned (.bool true) ∧ Below w.heap.size w w' := by
  have hlen := hr.len_le
  go_enter Try.func4, Try.ntmps4
  go_wp2_with (go_at_call 10; refine (theirs_any _ _ _ _).mono ?_; rintro e w1 ⟨rfl, hb1⟩)
  have hbw : Below w.heap.size w w1 := ((Below.refl _ _).alloc (Nat.le_refl _) _).trans (hb1.mono (by simp))
  have hN : Nd w1.heap.size w1 (w1.alloc (.cells #[.int .i64 s0, .int .i64 b0, .int .i64 c0] 23)) s0 b0 c0 := ⟨(Below.refl _ _).alloc (Nat.le_refl _) _, by simp, heap_alloc_new _ _⟩
  clear hb1
  go_loopw [14] (fun i wr => ∃ k : Nat, k ≤ len ∧ i = .int .i64 k ∧ ∃ s b c, Nd w1.heap.size w1 wr s b c) (fun i _ => len - (intOf i).toNat)
  case atStart => exact ⟨0, by omega, rfl, _, _, _, hN⟩
  case round =>
    clear hN
    obtain ⟨k, hk, rfl, s, b, c, hN⟩ := hrel
    by_cases hlt : k < len
    · obtain ⟨bb, oo, rfl, hbb, hlc, hcm, hcell⟩ := hr.at k hlt
      generalize zs.getD k 0 = ev at hcell
      have hcr : wr.cell? ⟨bb, oo + k, none⟩ = some (.int .i64 ev) := by
        rw [hN.bel.cell (by have := hbw.size; show bb < _; omega), hbw.cell (by exact hbb)]; exact hcell
      clear hcell
      obtain ⟨⟨c0, c1, c2⟩, f0, f1, f2⟩ := hN.cells
      go_wp2_with fail
      all_goals
        refine (next_idle _ _ _ _ _ _).mono ?_
        clear c0 c1 c2 f0 f1 f2
        rintro e w2 ⟨a', b', c', d', rfl, hb2, hok⟩
        have hN2 := hN.below hb2
        obtain ⟨⟨c0, c1, c2⟩, f0, f1, f2⟩ := hN2.cells
        have hs2 := hN2.sz
        rcases idle_ways hok with hd | ⟨rfl, hd⟩
        · have e1 : (d' == 0) = false := by simpa using hd
          clear hd hok
          go_wp2
          go_roundw
          case rel => exact ⟨k + 1, by omega, by go_num, _, _, _, hN2.alloc _⟩
          case measure => simp [intOf]; omega
        · clear hok
          rcases hd with ⟨rfl, rfl, hd⟩ | ⟨rfl, rfl, hd⟩ | ⟨rfl, rfl, hd⟩ | ⟨rfl, rfl, hd⟩ | ⟨hd1, hd2, rfl, rfl⟩ | ⟨hd1, hd2, hd3, hd4⟩
          · have e1 : (ev == 8) = false := by simpa using hd
            clear hd
            go_wp2
            go_roundw
            case rel => exact ⟨k + 1, by omega, by go_num, _, _, _, (hN2.store _ _ _).alloc _⟩
            case measure => simp [intOf]; omega
          · have e1 : (ev == 8) = false := by simpa using hd
            clear hd
            go_wp2
            go_roundw
            case rel => exact ⟨k + 1, by omega, by go_num, _, _, _, (hN2.store _ _ _).alloc _⟩
            case measure => simp [intOf]; omega
          · have e1 : (ev == 8) = false := by simpa using hd
            clear hd
            go_wp2
            go_roundw
            case rel => exact ⟨k + 1, by omega, by go_num, _, _, _, (hN2.store _ _ _).alloc _⟩
            case measure => simp [intOf]; omega
          · have e1 : (s == 6) = false := by simpa using hd
            clear hd
            go_wp2
            go_roundw
            case rel => exact ⟨k + 1, by omega, by go_num, _, _, _, (hN2.store _ _ _).alloc _⟩
            case measure => simp [intOf]; omega
          · have e1 : (a' == 7) = false := by simpa using hd1
            have e2 : (a' == 3) = false := by simpa using hd2
            clear hd1 hd2
            go_wp2
            go_roundw
            case rel => exact ⟨k + 1, by omega, by go_num, _, _, _, (hN2.store _ _ _).alloc _⟩
            case measure => simp [intOf]; omega
          · have e1 : (a' == 7) = false := by simpa using hd1
            have e2 : (a' == 3) = false := by simpa using hd2
            have e3 : (ev == 8) = false := by simpa using hd3
            have e4 : (s == 6) = false := by simpa using hd4
            clear hd1 hd2 hd3 hd4
            go_wp2
            go_roundw
            case rel => exact ⟨k + 1, by omega, by go_num, _, _, _, (hN2.store _ _ _).alloc _⟩
            case measure => simp [intOf]; omega
    · obtain rfl : k = len := by omega
      go_wp2_with (go_at_call 9; refine (alive_any _).mono ?_; rintro e w2 ⟨rfl, hb2⟩)
      go_ret
      exact ⟨rfl, hbw.trans ((hN.below hb2).bel.mono hbw.size)⟩
end Go.Proofs.Ytojinbckpjddmaa
