/- The contract of node.Events; no condition. -/
import Derived.Test.YtojinbckpjddmaaWo
import Derived.Test.YtojinbckpjddmaaWidle
namespace Go.Proofs.Ytojinbckpjddmaa
open Go.RowKit

def evIs (s e : Nat) : Bool := decide (1 ≤ e) && (tabF (s * 12 + e) != -1)
/-- The events below k that the table has of a state. -/
def evK (s k : Nat) : List Int := ((List.range k).filter (evIs s)).map fun e : Nat => (e : Int)
theorem evK_yes (s k : Nat) (h : evIs s k = true) : evK s (k + 1) = evK s k ++ [(k : Int)] := by
  unfold evK; rw [List.range_succ, List.filter_append]; simp [h]
theorem evK_no (s k : Nat) (h : evIs s k = false) : evK s (k + 1) = evK s k := by
  unfold evK; rw [List.range_succ, List.filter_append]; simp [h]
theorem evK_len (s k : Nat) : (evK s k).length ≤ k := by
  unfold evK; simpa using List.length_filter_le (evIs s) (List.range k)
def evL (s : Int) : List Int := if 0 ≤ s ∧ s < 8 then evK s.toNat 12 else []
theorem info3 : (Try.prog.info? 3).map (fun i => (i.zero, i.size, i.bytes)) = some (some (.int .i64 0), 1, 8) := by kernel_rfl

def EventsPost (w : World) (l : List Int) (e : Ending) (w' : World) : Prop :=
  ∃ v, e = .returned v ∧ w'.ownsRow w.heap.size 3 1 v l.length (l.map (Value.int .i64)) ∧ Below w.heap.size w w'

set_option maxHeartbeats 400000 in
theorem events_bad (s : Int) (w : World) (h : s < 0 ∨ 8 ≤ s) : Calls Try.prog 11 #[.int .i64 s] w (EventsPost w (evL s)) := by
  have e0 : evL s = [] := if_neg (by omega)
  rw [e0]
  go_enter Try.func11, Try.ntmps11
  go_wp2_with (go_at_call 20; refine (isState_no _ _ h).mono ?_; rintro e w' ⟨rfl, rfl⟩)
  go_ret
  exact ⟨_, rfl, ⟨by simp, .inl ⟨rfl, rfl⟩⟩, Below.refl _ _⟩

set_option maxHeartbeats 400000 in
set_option maxRecDepth 100000 in
theorem events_good (s : Int) (w : World) (h0 : 0 ≤ s) (h1 : s < 8) : Calls Try.prog 11 #[.int .i64 s] w (EventsPost w (evL s)) := by
  have e0 : evL s = evK s.toNat 12 := if_pos ⟨h0, h1⟩
  rw [e0]
  clear e0
  obtain ⟨i0, hi, hz0, hz1, hz2⟩ := info_parts info3
  have hi1 := fun w => idx44 s h0 h1 w
  go_enter Try.func11, Try.ntmps11
  go_wp2_with (first | (go_at_call 20; refine (isState_yes _ _ h0 h1).mono ?_; rintro e w' ⟨rfl, rfl⟩) | (go_at_call 21; refine (table_any _).mono ?_; rintro e w1 ⟨rfl, rfl⟩))
  clear hi1
  have hb : Below w.heap.size w ((w.alloc (.cells (tabA tabF) 44)).alloc (.cells (tabA tabF) 44)) := below2 _ _ _
  go_loopw [3, 12] (fun v i wr => ∃ k : Nat, k ≤ 12 ∧ i = .int .i64 k ∧ wr.ownsRow w.heap.size 3 1 v (evK s.toNat k).length ((evK s.toNat k).map (Value.int .i64)) ∧ Below w.heap.size w wr) (fun _ i _ => 12 - (intOf i).toNat)
  case atStart => exact ⟨0, by omega, rfl, ⟨by simp [evK], .inl ⟨rfl, by simp [evK]⟩⟩, hb⟩
  case round =>
    clear hb
    obtain ⟨k, hk, rfl, hown, hb⟩ := hrel
    have hkl := evK_len s.toNat k
    by_cases hlt : k < 12
    · have hi2 := fun w => idx43 s.toNat (k : Int) (by omega) (by omega) w
      simp only [Int.toNat_natCast] at hi2
      have hyes := evK_yes s.toNat k
      have hno := evK_no s.toNat k
      unfold evIs at hyes hno
      generalize tabF (s.toNat * 12 + k) = t at hi2 hyes hno
      have Hyes := Lib.hid hyes
      have Hno := Lib.hid hno
      clear hyes hno
      have hbs := hb.size
      by_cases ht : t = -1
      · subst ht
        have hn : evK s.toNat (k + 1) = evK s.toNat k := Hno.out (by simp)
        have HN := Lib.hid hn
        clear hn
        go_wp2
        all_goals exact ⟨⟨k + 1, by omega, by go_num, by rw [HN.out]; exact hown, hb⟩, by simp [intOf]; omega⟩
      · have e1 : (t == -1) = false := by simpa using ht
        have e1' : (t != -1) = true := by simpa using ht
        by_cases hk1 : 1 ≤ k
        · have e2 : decide ((1 : Int) ≤ (k : Int)) = true := by simp; omega
          have hn : evK s.toNat (k + 1) = evK s.toNat k ++ [(k : Int)] := Hyes.out (by simp [ht, hk1])
          have HN := Lib.hid hn
          clear hn ht
          go_wp2_with (at_builtin; refine wpList_append_own _ rfl _ _ 24 rfl w.heap.size 3 i0 (.int .i64 0) 1 8 Try.underlying24 hi hz0 hz1 hz2 rfl (by decide) _ _ _ rfl (hown.alloc _) ⟨wr.heap.size, 0, none⟩ 1 1 [.int .i64 (k : Int)] rfl rfl ?c1 ?c2 ?c3 ?c4 ?c5 ?_)
          case c1 => exact cell_one_new _ _ _
          case c2 => simp [Value.oneCell']
          case c3 => simp only [maxLen]; omega
          case c4 => omega
          case c5 => simp; omega
          intro v' w1 hown1 hgrow _
          have hb1 := (hb.alloc hbs (.cells #[.int .i64 (k : Int)] 3)).grown hgrow (by simp; omega) (fun q hq => (hown.lt q hq).1)
          clear hgrow
          go_wp2
          all_goals exact ⟨⟨k + 1, by omega, by go_num, by rw [HN.out]; simpa using hown1, hb1⟩, by simp [intOf]; omega⟩
        · have e2 : decide ((1 : Int) ≤ (k : Int)) = false := by simp; omega
          have hn : evK s.toNat (k + 1) = evK s.toNat k := Hno.out (by simp [hk1])
          have HN := Lib.hid hn
          clear hn ht
          go_wp2
          all_goals exact ⟨⟨k + 1, by omega, by go_num, by rw [HN.out]; exact hown, hb⟩, by simp [intOf]; omega⟩
    · obtain rfl : k = 12 := by omega
      go_wp2
      go_ret
      exact ⟨_, rfl, hown, hb⟩
theorem events_any (s : Int) (w : World) : Calls Try.prog 11 #[.int .i64 s] w (EventsPost w (evL s)) := by
  by_cases h : s < 0 ∨ 8 ≤ s
  · exact events_bad s w h
  · exact events_good s w (by omega) (by omega)
end Go.Proofs.Ytojinbckpjddmaa
