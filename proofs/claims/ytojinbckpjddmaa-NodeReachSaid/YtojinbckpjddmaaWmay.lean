/- The walk of NodeMay: it returns true for every node, event and time; no condition. -/
import Derived.Test.YtojinbckpjddmaaWe
namespace Go.Proofs.Ytojinbckpjddmaa
open Go.RowKit

/-- Is the event among the first k of the list? -/
def inB (l : List Int) (ev : Int) (k : Nat) : Bool := (l.take k).any (· == ev)
theorem inB_succ (l : List Int) (ev : Int) (k : Nat) (h : k < l.length) : inB l ev (k + 1) = (inB l ev k || (l.getD k 0 == ev)) := by
  unfold inB
  rw [List.take_succ_eq_append_getElem h, List.any_append]
  simp [List.getD, h]
theorem inB_all (l : List Int) (ev : Int) : inB l ev l.length = true ↔ ev ∈ l := by
  unfold inB; simp
theorem mem_evK (s k : Nat) (ev : Int) : ev ∈ evK s k ↔ 0 ≤ ev ∧ ev < k ∧ evIs s ev.toNat = true := by
  unfold evK
  simp only [List.mem_map, List.mem_filter, List.mem_range]
  constructor
  · rintro ⟨n, ⟨hn, he⟩, rfl⟩
    exact ⟨by omega, by omega, by simpa using he⟩
  · rintro ⟨h0, h1, h2⟩
    exact ⟨ev.toNat, ⟨by omega, h2⟩, by omega⟩

/-- What NodeMay asks of Next's answer and of the list. -/
def MayOk (s since tries ev now : Int) (q : Bool) (a b c d : Int) : Prop :=
  (d = 1 ∧ a = 0 ∧ b = 0 ∧ c = 0 ∧ (s < 0 ∨ 7 < s ∨ ev < 1 ∨ 11 < ev ∨ tries < 0 ∨ now < since)) ∨
  (d = 11 ∧ a = 0 ∧ b = 0 ∧ c = 0 ∧ q = false) ∨ (d = 0 ∧ b = now ∧ q = true ∧ 0 ≤ a ∧ a ≤ 7 ∧ a ≠ s)
theorem may_ok (s since tries ev now : Int) (r : Int × Int × Int × Int) (hr : nextF s since tries ev now 3 = r) : MayOk s since tries ev now (inB (evL s) ev (evL s).length) r.1 r.2.1 r.2.2.1 r.2.2.2 := by
  subst hr
  unfold nextF
  by_cases h : s < 0 ∨ 8 ≤ s ∨ ev < 1 ∨ 11 < ev ∨ tries < 0 ∨ now < since
  · rw [if_pos h]; exact .inl ⟨rfl, rfl, rfl, rfl, by omega⟩
  · rw [if_neg h]
    have T := tab_facts s ev (by omega) (by omega) (by omega) (by omega)
    have hq : inB (evL s) ev (evL s).length = decide (tabT s ev ≠ -1) := by
      rw [Bool.eq_iff_iff, inB_all, show evL s = evK s.toNat 12 from if_pos ⟨by omega, by omega⟩, mem_evK]
      unfold evIs
      simp only [Bool.and_eq_true, decide_eq_true_eq, bne_iff_ne]
      unfold tabT
      constructor
      · rintro ⟨_, _, _, h⟩; exact h
      · intro h; exact ⟨by omega, by omega, by omega, h⟩
    rw [hq]
    unfold TabFacts at T
    generalize tabT s ev = t at T
    by_cases h1 : t = -1
    · rw [if_pos h1]; exact .inr (.inl ⟨rfl, rfl, rfl, rfl, by simp [h1]⟩)
    · rw [if_neg h1]
      right; right
      have hd : decide (t ≠ -1) = true := by simp [h1]
      rw [hd]
      by_cases h2 : ev = 3
      · rw [if_pos h2]
        generalize (if tries ≤ 4611686018427387903 then tries + 1 else tries) = m
        by_cases h3 : 3 < m
        · rw [if_pos h3]; exact ⟨rfl, rfl, rfl, by dsimp only; omega, by dsimp only; omega, by dsimp only; omega⟩
        · rw [if_neg h3]; exact ⟨rfl, rfl, rfl, by dsimp only; omega, by dsimp only; omega, by dsimp only; omega⟩
      · rw [if_neg h2]
        by_cases h3 : ev = 2 ∨ ev = 9
        · rw [if_pos h3]; exact ⟨rfl, rfl, rfl, by dsimp only; omega, by dsimp only; omega, by dsimp only; omega⟩
        · rw [if_neg h3]; exact ⟨rfl, rfl, rfl, by dsimp only; omega, by dsimp only; omega, by dsimp only; omega⟩

def MayPost (w : World) (s since tries ev now : Int) (e : Ending) (w' : World) : Prop :=
  ∃ a b c d : Int, e = .returned (.tuple #[.agg #[.int .i64 a, .int .i64 b, .int .i64 c], .int .i64 d]) ∧ Below w.heap.size w w' ∧ MayOk s since tries ev now (inB (evL s) ev (evL s).length) a b c d
theorem next_may (s since tries ev now : Int) (w : World) :
    Calls Try.prog 8 #[.agg #[.int .i64 s, .int .i64 since, .int .i64 tries], .int .i64 ev, .int .i64 now, .int .i64 3] w (MayPost w s since tries ev now) :=
  (next_any s since tries ev now 3 w).mono fun _ _ ⟨he, hb⟩ => ⟨_, _, _, _, he, hb, may_ok s since tries ev now _ rfl⟩

/-- A row of numbers that a call made, as a slice value. -/
theorem own_shape {w : World} {base : Nat} {v : Value} {l : List Int} (h : w.ownsRow base 3 1 v l.length (l.map (Value.int .i64))) :
    ∃ ao cap, v = .slice ao l.length cap ∧ l.length ≤ maxLen ∧ ∀ i, i < l.length → ∃ g, ao = some ⟨g, 0, none⟩ ∧ base ≤ g ∧ g < w.heap.size ∧ w.cell? ⟨g, i, none⟩ = some (.int .i64 (l.getD i 0)) := by
  obtain ⟨hlen, ⟨rfl, h0⟩ | ⟨g, cap, cur, rfl, hb, hg, hn, hm, hs, ht⟩⟩ := h
  · refine ⟨none, 0, by rw [h0], by rw [h0]; exact Nat.zero_le _, fun i hi => by omega⟩
  · refine ⟨_, cap, rfl, by omega, fun i hi => ⟨g, rfl, hb, (Array.getElem?_eq_some_iff.1 hg).1, ?_⟩⟩
    have hown : w.ownsRow base 3 1 (.slice (some ⟨g, 0, none⟩) l.length cap) l.length (l.map (Value.int .i64)) := ⟨hlen, .inr ⟨g, cap, cur, rfl, hb, hg, hn, hm, hs, ht⟩⟩
    rw [hown.cellAt i (by omega)]
    simp [List.getD, hi]

/-- Events' answer, its slice written out. -/
def EventsS (w : World) (l : List Int) (e : Ending) (w' : World) : Prop :=
  ∃ ao cap, e = .returned (.slice ao l.length cap) ∧ l.length ≤ maxLen ∧
    (∀ i, i < l.length → ∃ g, ao = some ⟨g, 0, none⟩ ∧ w.heap.size ≤ g ∧ g < w'.heap.size ∧ w'.cell? ⟨g, i, none⟩ = some (.int .i64 (l.getD i 0))) ∧ Below w.heap.size w w'
theorem events_s (s : Int) (w : World) : Calls Try.prog 11 #[.int .i64 s] w (EventsS w (evL s)) :=
  (events_any s w).mono fun _ _ ⟨_, he, hown, hb⟩ => by
    obtain ⟨ao, cap, rfl, hm, hc⟩ := own_shape hown
    exact ⟨ao, cap, he, hm, hc, hb⟩

set_option maxHeartbeats 400000 in
set_option maxRecDepth 100000 in
theorem may_any (s since tries ev now : Int) (w : World) :
    Calls Try.prog 5 #[.agg #[.int .i64 s, .int .i64 since, .int .i64 tries], .int .i64 ev, .int .i64 now] w fun e w' => e = .returned (.bool true) ∧ Below w.heap.size w w' := by
  go_enter Try.func5, Try.ntmps5
  go_wp2_with (go_at_call 10; refine (theirs_any _ _ _ _).mono ?_; rintro e w1 ⟨rfl, hb1⟩)
  refine (next_may _ _ _ _ _ _).mono ?_
  rintro e w2 ⟨a, b, c, d, rfl, hb2, hok⟩
  have HOK := Lib.hid hok
  clear hok
  have hz1 := (kept3 hb1).1
  have hz2 := hb2.size
  have hc0 : w2.cell? ⟨w.heap.size, 0, none⟩ = some (.int .i64 s) := by rw [hb2.cell (by show _ < _; omega)]; exact (kept3 hb1).2.1
  have hc1 : w2.cell? ⟨w.heap.size, 1, none⟩ = some (.int .i64 since) := by rw [hb2.cell (by show _ < _; omega)]; exact (kept3 hb1).2.2.1
  have hc2 : w2.cell? ⟨w.heap.size, 2, none⟩ = some (.int .i64 tries) := by rw [hb2.cell (by show _ < _; omega)]; exact (kept3 hb1).2.2.2
  have hbw : Below w.heap.size w w2 := (((Below.refl _ _).alloc (Nat.le_refl _) _).trans (hb1.mono (by simp))).trans (hb2.mono (by omega))
  have hzz : w.heap.size < w2.heap.size := by omega
  clear hb1 hb2
  go_wp2_with fail
  refine (events_s _ _).mono ?_
  rintro e w3 ⟨ao, cap, rfl, hm, hcells, hb3⟩
  unfold maxLen at hm
  have hz3 := hb3.size
  simp at hz3
  have gc0 : w3.cell? ⟨w.heap.size, 0, none⟩ = some (.int .i64 s) := by rw [hb3.cell (by simp; omega), World.cell?_alloc_lt _ _ _ (by exact hzz)]; exact hc0
  have gc1 : w3.cell? ⟨w.heap.size, 1, none⟩ = some (.int .i64 since) := by rw [hb3.cell (by simp; omega), World.cell?_alloc_lt _ _ _ (by exact hzz)]; exact hc1
  have gc2 : w3.cell? ⟨w.heap.size, 2, none⟩ = some (.int .i64 tries) := by rw [hb3.cell (by simp; omega), World.cell?_alloc_lt _ _ _ (by exact hzz)]; exact hc2
  obtain ⟨_, ga0, ga1, ga2⟩ := kept3 hb3
  have hbe : Below w.heap.size w w3 := (hbw.alloc (by omega) _).trans (hb3.mono (by simp; omega))
  clear hb3 hc0 hc1 hc2 hbw
  have hsucc := inB_succ (evL s) ev
  generalize evL s = l at *
  have HS := Lib.hid hsucc
  have HC := Lib.hid hcells
  clear hsucc hcells
  go_wp2_with fail
  go_loop [9, 24] (fun q i => ∃ k : Nat, k ≤ l.length ∧ i = .int .i64 k ∧ q = .bool (inB l ev k)) (fun _ i => l.length - (intOf i).toNat)
  case atStart => exact ⟨0, by omega, rfl, by simp [inB]⟩
  case round =>
    obtain ⟨k, hk, rfl, rfl⟩ := hrel
    by_cases hlt : k < l.length
    · have hn := HS.out k hlt
      obtain ⟨g, rfl, _, hgl, hcell⟩ := HC.out k hlt
      generalize inB l ev k = q at hn
      generalize l.getD k 0 = x at hn hcell
      have hk0 : (0 : Int) ≤ (k : Int) := by omega
      cases q with
      | true =>
        have HN := Lib.hid hn
        clear hn
        go_wp2
        all_goals exact ⟨⟨k + 1, by omega, by go_num, by rw [HN.out]; simp⟩, by simp [intOf]; omega⟩
      | false =>
        cases hx : (x == ev) with
        | true =>
          rw [hx] at hn
          have HN := Lib.hid hn
          clear hn
          go_wp2
          all_goals exact ⟨⟨k + 1, by omega, by go_num, by rw [HN.out]; rfl⟩, by simp [intOf]; omega⟩
        | false =>
          rw [hx] at hn
          have HN := Lib.hid hn
          clear hn
          go_wp2
          all_goals exact ⟨⟨k + 1, by omega, by go_num, by rw [HN.out]; rfl⟩, by simp [intOf]; omega⟩
    · obtain rfl : k = l.length := by omega
      have hok := HOK.out
      generalize inB l ev l.length = q at hok
      unfold MayOk at hok
      clear HOK HS HC
      rcases hok with ⟨rfl, rfl, rfl, rfl, hh⟩ | ⟨rfl, rfl, rfl, rfl, rfl⟩ | ⟨rfl, rfl, rfl, ha0, ha7, has⟩
      · by_cases g1 : s < 0
        · have e1 : decide (s < 0) = true := by simpa using g1
          clear hh
          go_wp2_with (go_at_call 9; refine (alive_any _).mono ?_; rintro e w4 ⟨rfl, hb4⟩)
          go_ret
          exact ⟨rfl, hbe.trans (hb4.mono hbe.size)⟩
        · have e1 : decide (s < 0) = false := by simpa using g1
          by_cases g2 : 7 < s
          · have e2 : decide (7 < s) = true := by simpa using g2
            clear hh
            go_wp2_with (go_at_call 9; refine (alive_any _).mono ?_; rintro e w4 ⟨rfl, hb4⟩)
            go_ret
            exact ⟨rfl, hbe.trans (hb4.mono hbe.size)⟩
          · have e2 : decide (7 < s) = false := by simpa using g2
            by_cases g3 : ev < 1
            · have e3 : decide (ev < 1) = true := by simpa using g3
              clear hh
              go_wp2_with (go_at_call 9; refine (alive_any _).mono ?_; rintro e w4 ⟨rfl, hb4⟩)
              go_ret
              exact ⟨rfl, hbe.trans (hb4.mono hbe.size)⟩
            · have e3 : decide (ev < 1) = false := by simpa using g3
              by_cases g4 : 11 < ev
              · have e4 : decide (11 < ev) = true := by simpa using g4
                clear hh
                go_wp2_with (go_at_call 9; refine (alive_any _).mono ?_; rintro e w4 ⟨rfl, hb4⟩)
                go_ret
                exact ⟨rfl, hbe.trans (hb4.mono hbe.size)⟩
              · have e4 : decide (11 < ev) = false := by simpa using g4
                by_cases g5 : tries < 0
                · have e5 : decide (tries < 0) = true := by simpa using g5
                  clear hh
                  go_wp2_with (go_at_call 9; refine (alive_any _).mono ?_; rintro e w4 ⟨rfl, hb4⟩)
                  go_ret
                  exact ⟨rfl, hbe.trans (hb4.mono hbe.size)⟩
                · have e5 : decide (tries < 0) = false := by simpa using g5
                  have e6 : decide (now < since) = true := by simp; omega
                  clear hh g1 g2 g3 g4 g5
                  go_wp2_with (go_at_call 9; refine (alive_any _).mono ?_; rintro e w4 ⟨rfl, hb4⟩)
                  go_ret
                  exact ⟨rfl, hbe.trans (hb4.mono hbe.size)⟩
      · go_wp2_with (go_at_call 9; refine (alive_any _).mono ?_; rintro e w4 ⟨rfl, hb4⟩)
        go_ret
        exact ⟨rfl, hbe.trans (hb4.mono hbe.size)⟩
      · have e1 : decide (0 ≤ a) = true := by simpa using ha0
        have e2 : decide (a ≤ 7) = true := by simpa using ha7
        have e3 : (a != s) = true := by simpa using has
        have e4 : (a == s) = false := by simpa using has
        clear has
        go_wp2_with (go_at_call 9; refine (alive_any _).mono ?_; rintro e w4 ⟨rfl, hb4⟩)
        go_ret
        exact ⟨rfl, hbe.trans (hb4.mono hbe.size)⟩
end Go.Proofs.Ytojinbckpjddmaa
