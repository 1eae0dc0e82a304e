/- Contracts of the reference's table and of its list of events; no condition. -/
import Derived.Test.YtojinbckpjddmaaWmay
namespace Go.Proofs.Ytojinbckpjddmaa
open Go.RowKit
def ToPost (w : World) (t : Int) (e : Ending) (w' : World) : Prop := e = .returned (.int .i64 t) ∧ w = w'
theorem ev_cases {ev : Int} (h2 : 1 ≤ ev) (h3 : ev ≤ 11) : ev = 1 ∨ ev = 2 ∨ ev = 3 ∨ ev = 4 ∨ ev = 5 ∨ ev = 6 ∨ ev = 7 ∨ ev = 8 ∨ ev = 9 ∨ ev = 10 ∨ ev = 11 := by omega
set_option maxHeartbeats 1000000 in
theorem to_0 (ev : Int) (w : World) (h2 : 1 ≤ ev) (h3 : ev ≤ 11) : Calls Try.prog 22 #[.int .i64 0, .int .i64 ev] w (ToPost w (tabT 0 ev)) := by
  rcases ev_cases h2 h3 with rfl | rfl | rfl | rfl | rfl | rfl | rfl | rfl | rfl | rfl | rfl
  all_goals
    go_enter Try.func22, Try.ntmps22
    go_wp2
    go_ret
    exact ⟨rfl, rfl⟩
set_option maxHeartbeats 1000000 in
theorem to_1 (ev : Int) (w : World) (h2 : 1 ≤ ev) (h3 : ev ≤ 11) : Calls Try.prog 22 #[.int .i64 1, .int .i64 ev] w (ToPost w (tabT 1 ev)) := by
  rcases ev_cases h2 h3 with rfl | rfl | rfl | rfl | rfl | rfl | rfl | rfl | rfl | rfl | rfl
  all_goals
    go_enter Try.func22, Try.ntmps22
    go_wp2
    go_ret
    exact ⟨rfl, rfl⟩
set_option maxHeartbeats 1000000 in
theorem to_2 (ev : Int) (w : World) (h2 : 1 ≤ ev) (h3 : ev ≤ 11) : Calls Try.prog 22 #[.int .i64 2, .int .i64 ev] w (ToPost w (tabT 2 ev)) := by
  rcases ev_cases h2 h3 with rfl | rfl | rfl | rfl | rfl | rfl | rfl | rfl | rfl | rfl | rfl
  all_goals
    go_enter Try.func22, Try.ntmps22
    go_wp2
    go_ret
    exact ⟨rfl, rfl⟩
set_option maxHeartbeats 1000000 in
theorem to_3 (ev : Int) (w : World) (h2 : 1 ≤ ev) (h3 : ev ≤ 11) : Calls Try.prog 22 #[.int .i64 3, .int .i64 ev] w (ToPost w (tabT 3 ev)) := by
  rcases ev_cases h2 h3 with rfl | rfl | rfl | rfl | rfl | rfl | rfl | rfl | rfl | rfl | rfl
  all_goals
    go_enter Try.func22, Try.ntmps22
    go_wp2
    go_ret
    exact ⟨rfl, rfl⟩
set_option maxHeartbeats 1000000 in
theorem to_4 (ev : Int) (w : World) (h2 : 1 ≤ ev) (h3 : ev ≤ 11) : Calls Try.prog 22 #[.int .i64 4, .int .i64 ev] w (ToPost w (tabT 4 ev)) := by
  rcases ev_cases h2 h3 with rfl | rfl | rfl | rfl | rfl | rfl | rfl | rfl | rfl | rfl | rfl
  all_goals
    go_enter Try.func22, Try.ntmps22
    go_wp2
    go_ret
    exact ⟨rfl, rfl⟩
set_option maxHeartbeats 1000000 in
theorem to_5 (ev : Int) (w : World) (h2 : 1 ≤ ev) (h3 : ev ≤ 11) : Calls Try.prog 22 #[.int .i64 5, .int .i64 ev] w (ToPost w (tabT 5 ev)) := by
  rcases ev_cases h2 h3 with rfl | rfl | rfl | rfl | rfl | rfl | rfl | rfl | rfl | rfl | rfl
  all_goals
    go_enter Try.func22, Try.ntmps22
    go_wp2
    go_ret
    exact ⟨rfl, rfl⟩
set_option maxHeartbeats 1000000 in
theorem to_6 (ev : Int) (w : World) (h2 : 1 ≤ ev) (h3 : ev ≤ 11) : Calls Try.prog 22 #[.int .i64 6, .int .i64 ev] w (ToPost w (tabT 6 ev)) := by
  rcases ev_cases h2 h3 with rfl | rfl | rfl | rfl | rfl | rfl | rfl | rfl | rfl | rfl | rfl
  all_goals
    go_enter Try.func22, Try.ntmps22
    go_wp2
    go_ret
    exact ⟨rfl, rfl⟩
set_option maxHeartbeats 1000000 in
theorem to_7 (ev : Int) (w : World) (h2 : 1 ≤ ev) (h3 : ev ≤ 11) : Calls Try.prog 22 #[.int .i64 7, .int .i64 ev] w (ToPost w (tabT 7 ev)) := by
  rcases ev_cases h2 h3 with rfl | rfl | rfl | rfl | rfl | rfl | rfl | rfl | rfl | rfl | rfl
  all_goals
    go_enter Try.func22, Try.ntmps22
    go_wp2
    go_ret
    exact ⟨rfl, rfl⟩
theorem to_any (s ev : Int) (w : World) (h0 : 0 ≤ s) (h1 : s < 8) (h2 : 1 ≤ ev) (h3 : ev ≤ 11) : Calls Try.prog 22 #[.int .i64 s, .int .i64 ev] w (ToPost w (tabT s ev)) := by
  have h : s = 0 ∨ s = 1 ∨ s = 2 ∨ s = 3 ∨ s = 4 ∨ s = 5 ∨ s = 6 ∨ s = 7 := by omega
  rcases h with rfl | rfl | rfl | rfl | rfl | rfl | rfl | rfl
  · exact to_0 ev w h2 h3
  · exact to_1 ev w h2 h3
  · exact to_2 ev w h2 h3
  · exact to_3 ev w h2 h3
  · exact to_4 ev w h2 h3
  · exact to_5 ev w h2 h3
  · exact to_6 ev w h2 h3
  · exact to_7 ev w h2 h3

theorem tabT_ge (s k : Nat) (hs : s < 8) (hk : k < 12) : (0 ≤ tabF (s * 12 + k)) ↔ tabF (s * 12 + k) ≠ -1 := by
  have := (tab_facts_nat s hs k hk)
  unfold TabFacts at this
  omega

set_option maxHeartbeats 400000 in
set_option maxRecDepth 100000 in
theorem refEvents_bad (s : Int) (w : World) (h : s < 0 ∨ 7 < s) : Calls Try.prog 13 #[.int .i64 s] w (EventsPost w (evL s)) := by
  have e0 : evL s = [] := if_neg (by omega)
  rw [e0]
  clear e0
  by_cases h0 : 0 ≤ s
  · have e1 : decide (0 ≤ s) = true := by simpa using h0
    have e2 : decide (s ≤ 7) = false := by simp; omega
    go_enter Try.func13, Try.ntmps13
    go_wp2
    go_loop [3, 4] (fun v i => v = .slice none 0 0 ∧ ∃ k : Nat, 1 ≤ k ∧ k ≤ 12 ∧ i = .int .i64 k) (fun _ i => 12 - (intOf i).toNat)
    case atStart => exact ⟨rfl, 1, by omega, by omega, rfl⟩
    case round =>
      obtain ⟨rfl, k, hk1, hk, rfl⟩ := hrel
      by_cases hlt : k < 12
      · have e3 : decide ((k : Int) ≤ 11) = true := by simp; omega
        go_wp2
        all_goals exact ⟨⟨rfl, k + 1, by omega, by omega, by go_num⟩, by simp [intOf]; omega⟩
      · have e3 : decide ((k : Int) ≤ 11) = false := by simp; omega
        go_wp2
        go_ret
        exact ⟨_, rfl, ⟨by simp, .inl ⟨rfl, rfl⟩⟩, Below.refl _ _⟩
  · have e1 : decide (0 ≤ s) = false := by simpa using h0
    clear h h0
    go_enter Try.func13, Try.ntmps13
    go_wp2
    go_loop [3, 4] (fun v i => v = .slice none 0 0 ∧ ∃ k : Nat, 1 ≤ k ∧ k ≤ 12 ∧ i = .int .i64 k) (fun _ i => 12 - (intOf i).toNat)
    case atStart => exact ⟨rfl, 1, by omega, by omega, rfl⟩
    case round =>
      obtain ⟨rfl, k, hk1, hk, rfl⟩ := hrel
      by_cases hlt : k < 12
      · have e3 : decide ((k : Int) ≤ 11) = true := by simp; omega
        go_wp2
        all_goals exact ⟨⟨rfl, k + 1, by omega, by omega, by go_num⟩, by simp [intOf]; omega⟩
      · have e3 : decide ((k : Int) ≤ 11) = false := by simp; omega
        go_wp2
        go_ret
        exact ⟨_, rfl, ⟨by simp, .inl ⟨rfl, rfl⟩⟩, Below.refl _ _⟩

set_option maxHeartbeats 400000 in
set_option maxRecDepth 100000 in
theorem refEvents_good (s : Int) (w : World) (h0 : 0 ≤ s) (h1 : s < 8) : Calls Try.prog 13 #[.int .i64 s] w (EventsPost w (evL s)) := by
  have e0 : evL s = evK s.toNat 12 := if_pos ⟨h0, h1⟩
  rw [e0]
  clear e0
  obtain ⟨i0, hi, hz0, hz1, hz2⟩ := info_parts info3
  have e1 : decide (0 ≤ s) = true := by simpa using h0
  have e2 : decide (s ≤ 7) = true := by simp; omega
  go_enter Try.func13, Try.ntmps13
  go_wp2_with fail
  go_loopw [3, 4] (fun v i wr => ∃ k : Nat, 1 ≤ k ∧ k ≤ 12 ∧ i = .int .i64 k ∧ wr.ownsRow w.heap.size 3 1 v (evK s.toNat k).length ((evK s.toNat k).map (Value.int .i64)) ∧ Below w.heap.size w wr) (fun _ i _ => 12 - (intOf i).toNat)
  case atStart => exact ⟨1, by omega, by omega, rfl, ⟨by simp [evK, evIs, List.range_succ], .inl ⟨rfl, by simp [evK, evIs, List.range_succ]⟩⟩, Below.refl _ _⟩
  case round =>
    obtain ⟨k, hk1, hk, rfl, hown, hb⟩ := hrel
    have hkl := evK_len s.toNat k
    by_cases hlt : k < 12
    · have e3 : decide ((k : Int) ≤ 11) = true := by simp; omega
      have hto := fun w => to_any s (k : Int) w h0 h1 (by omega) (by omega)
      have hge := tabT_ge s.toNat k (by omega) hlt
      have hyes := evK_yes s.toNat k
      have hno := evK_no s.toNat k
      unfold evIs at hyes hno
      unfold tabT at hto
      simp only [Int.toNat_natCast] at hto
      generalize tabF (s.toNat * 12 + k) = t at hto hyes hno hge
      have Hto := Lib.hid hto
      have hbs := hb.size
      by_cases ht : t = -1
      · subst ht
        have hn : evK s.toNat (k + 1) = evK s.toNat k := hno (by simp)
        have HN := Lib.hid hn
        clear hn hyes hno hto hge
        go_wp2_with (go_at_call 22; refine (Hto.out _).mono ?_; rintro e w' ⟨rfl, rfl⟩)
        all_goals exact ⟨⟨k + 1, by omega, by omega, by go_num, by rw [HN.out]; exact hown, hb⟩, by simp [intOf]; omega⟩
      · have hn : evK s.toNat (k + 1) = evK s.toNat k ++ [(k : Int)] := hyes (by simp [ht, hk1])
        have e4 : decide (0 ≤ t) = true := by simpa using hge.2 ht
        have HN := Lib.hid hn
        clear hn hyes hno hto hge ht
        go_wp2_with (first | (go_at_call 22; refine (Hto.out _).mono ?_; rintro e w' ⟨rfl, rfl⟩) | (at_builtin; refine wpList_append_own _ rfl _ _ 24 rfl w.heap.size 3 i0 (.int .i64 0) 1 8 Try.underlying24 hi hz0 hz1 hz2 rfl (by decide) _ _ _ rfl (hown.alloc _) ⟨wr.heap.size, 0, none⟩ 1 1 [.int .i64 (k : Int)] rfl rfl ?c1 ?c2 ?c3 ?c4 ?c5 ?_))
        case c1 => exact cell_one_new _ _ _
        case c2 => simp [Value.oneCell']
        case c3 => simp only [maxLen]; omega
        case c4 => omega
        case c5 => simp; omega
        intro v' w1 hown1 hgrow _
        have hb1 := (hb.alloc hbs (.cells #[.int .i64 (k : Int)] 3)).grown hgrow (by simp; omega) (fun q hq => (hown.lt q hq).1)
        clear hgrow
        go_wp2_with fail
        all_goals exact ⟨⟨k + 1, by omega, by omega, by go_num, by rw [HN.out]; simpa using hown1, hb1⟩, by simp [intOf]; omega⟩
    · obtain rfl : k = 12 := by omega
      go_wp2
      go_ret
      exact ⟨_, rfl, hown, hb⟩
theorem refEvents_s (s : Int) (w : World) : Calls Try.prog 13 #[.int .i64 s] w (EventsS w (evL s)) := by
  have h : Calls Try.prog 13 #[.int .i64 s] w (EventsPost w (evL s)) := by
    by_cases h : s < 0 ∨ 7 < s
    · exact refEvents_bad s w h
    · exact refEvents_good s w (by omega) (by omega)
  exact h.mono fun _ _ ⟨_, he, hown, hb⟩ => by
    obtain ⟨ao, cap, rfl, hm, hc⟩ := own_shape hown
    exact ⟨ao, cap, he, hm, hc, hb⟩
end Go.Proofs.Ytojinbckpjddmaa
