/- The tape's own probe 'alive', walked. No condition. -/
import Derived.Test.YtaniflbhkddlhaaTf
namespace Go.Proofs.Ytaniflbhkddlhaa
open Go.RowKit
def TNewPost (w : World) (e : Ending) (w' : World) : Prop := ∃ g, e = .returned (.pointer (some ⟨g, 0, none⟩)) ∧ TapeAt w' g false (-1) [] 0 ∧ Below w.heap.size w w' ∧ w.heap.size ≤ g
theorem tnew_any (w : World) : Calls Try.prog 27 #[] w (TNewPost w) := by
  refine (new_any w).mono ?_
  rintro e w' ⟨rfl, h1, h2⟩
  exact ⟨_, rfl, ⟨⟨none, 0, h1, bs_nil _⟩, by omega, by omega, by simp, by simp⟩, h2, Nat.le_refl _⟩
theorem rs_one {w : World} {o0 : Option Addr} {c0 n0 : Nat} {l0 : List Int} (h0 : Bs w o0 c0 l0) (e0 : l0.length = n0) : Rs (w.alloc (.cells #[.slice o0 n0 c0] 22)) (some ⟨w.heap.size, 0, none⟩) 1 [l0] := by
  subst e0
  refine ⟨fun i hi => ?_, by simp, by unfold maxLen; omega, (fun h => by cases h)⟩
  obtain rfl : i = 0 := by simp at hi; omega
  exact ⟨_, _, o0, c0, rfl, by simp, h0.alloc _⟩
theorem rs_lit (w : World) (c : Int) (h0 : 0 ≤ c) (h1 : c ≤ 255) : Rs ((w.alloc (.cells #[.int .u8 c] 5)).alloc (.cells #[.slice (some ⟨w.heap.size, 0, none⟩) 1 1] 22)) (some ⟨w.heap.size + 1, 0, none⟩) 1 [[c]] := by
  have h := rs_one (n0 := 1) (bs_one w c h0 h1) rfl
  rw [World.size_alloc] at h
  exact h
/-- What the probe's tape has, step by step. -/
theorem probe_log : logR (-1) [] 0 (logB [[1]]) = (0, false, -1, encL [1], 13) := by
  have e : logB [[1]] = encL [1] := by simp [logB, logStep]
  have hl : (encL [1]).length = 13 := by rw [encL_len]; rfl
  rw [e]
  simp [logR, logC, fitsR, burnR, hl]
theorem probe_write (x : List Int) (hx : x.length = 13) : fitsR false (-1) (encL [1]).length x.length = (0, false, -1) := by
  rw [encL_len, hx]; simp [fitsR, burnR]
theorem probe_all : (allL ((encL [1] ++ encL [2]).take 16)).1 = [[1]] := by
  have h := all_cut [[1], [2]] 16 (fun x hx => by simp at hx; rcases hx with rfl | rfl <;> simp)
  rw [show layL [[1], [2]] = encL [1] ++ encL [2] by simp [layL]] at h
  rw [h]
  simp [wholeL]
theorem st_but {w0 w w' : World} {g : Nat} (hb : Below w0.heap.size w0 w) (hg : w0.heap.size ≤ g) (h : But g w w') : Below w0.heap.size w0 w' := h.below hb hg hb.size
theorem st_below {w0 w w' : World} (hb : Below w0.heap.size w0 w) (h : Below w.heap.size w w') : Below w0.heap.size w0 w' := hb.trans (h.mono hb.size)
theorem below_two (w : World) (a b : Obj) : Below w.heap.size w ((w.alloc a).alloc b) := (below_alloc w a).alloc (by simp) b
set_option maxHeartbeats 1000000 in
set_option maxRecDepth 100000 in
theorem talive_any (w : World) : Calls Try.prog 28 #[] w (TruePost w) := by
  go_enter Try.func28, Try.ntmps28
  go_wp2_with fail
  refine (tnew_any w).mono ?_
  rintro e w1 ⟨g, rfl, hT1, hb1, hg⟩
  have T1 := Lib.hid hT1
  have B1 := Lib.hid hb1
  have G := Lib.hid hg
  clear hT1 hb1 hg
  go_wp2_with (go_at_call 31; refine (ton_any _ _ _ _ _ _ T1.out).mono ?_; rintro e w2 ⟨rfl, rfl⟩; simp only [Bool.not_false])
  have hlog := log_few _ g (-1) [] 0 (T1.out.below (below_two w1 (.cells #[.int .u8 1] 5) (.cells #[.slice (some ⟨w1.heap.size, 0, none⟩) 1 1] 22))) _ _ 1 [[1]] (rs_lit w1 1 (by omega) (by omega)) rfl (fun x hx => by simp at hx; subst hx; simp)
  rw [probe_log] at hlog
  refine hlog.mono ?_
  rintro e w2 ⟨rfl, hT2, hbut2⟩
  have T2 := Lib.hid hT2
  have B2 := Lib.hid (st_but (st_below B1.out (below_two w1 _ _)) G.out hbut2)
  clear hlog hT2 hbut2 T1 B1
  go_wp2_with fail
  have hput := put_s (m := 13) (by simp [encL, bytesL_len]) (put_any none (some ⟨w2.heap.size, 0, none⟩) 0 1 0 1 [] [2] _ (bs_nil _) (bs_one w2 2 (by omega) (by omega)) rfl rfl (by omega) (by omega))
  refine hput.mono ?_
  rintro e w3 ⟨o3, c3, rfl, _, hB3, hb3⟩
  have hb23 := (below_alloc w2 (.cells #[.int .u8 2] 5)).trans (hb3.mono (by simp))
  have T3 := Lib.hid (T2.out.below hb23)
  have B3 := Lib.hid (st_below B2.out hb23)
  have X3 := Lib.hid hB3
  clear hput hB3 hb3 hb23 T2 B2
  go_wp2_with fail
  have hwr := write_any w3 g false (-1) (encL [1]) 13 T3.out o3 c3 13 ([] ++ encL [2]) X3.out (by rw [List.nil_append, encL_len]; rfl)
  rw [show fitsR false (-1) (encL [1]).length (13 : Nat) = (0, false, -1) by rw [encL_len]; simp [fitsR, burnR], List.nil_append] at hwr
  refine hwr.mono ?_
  rintro e w4 ⟨rfl, hT4, hbut4⟩
  rw [if_pos rfl] at hT4
  have T4 := Lib.hid hT4
  have B4 := Lib.hid (st_but B3.out G.out hbut4)
  clear hwr hT4 hbut4 T3 B3 X3
  go_wp2_with fail
  refine (tarm_any w4 g false (-1) 0 _ 13 T4.out (by omega)).mono ?_
  rintro e w5 ⟨rfl, hT5, hbut5⟩
  have T5 := Lib.hid hT5
  have B5 := Lib.hid (st_but B4.out G.out hbut5)
  clear hT5 hbut5 T4 B4
  go_wp2_with fail
  have hsy := tsync_any w5 g false _ _ 13 T5.out
  rw [show fitsR false (max 0 (-1)) 0 0 = (10, true, 0) from rfl] at hsy
  refine hsy.mono ?_
  rintro e w6 ⟨rfl, hT6, hbut6⟩
  rw [if_neg (by simp)] at hT6
  have T6 := Lib.hid hT6
  have B6 := Lib.hid (st_but B5.out G.out hbut6)
  clear hsy hT6 hbut6 T5 B5
  go_wp2_with fail
  have hst := start_off w6 g 0 _ 13 26 3 T6.out (by rw [List.length_append, encL_len, encL_len]; rfl)
  rw [show 13 + addK 3 (26 - 13) = 16 by simp [addK]] at hst
  refine hst.mono ?_
  rintro e w7 ⟨rfl, hT7, hbut7⟩
  have T7 := Lib.hid hT7
  have B7 := Lib.hid (st_but B6.out G.out hbut7)
  clear hst hT7 hbut7 T6 B6
  go_wp2_with fail
  have hre := records_on w7 g (-1) _ 16 T7.out
  rw [probe_all] at hre
  refine hre.mono ?_
  rintro e w8 ⟨v, rfl, hv8, hb8⟩
  obtain ⟨ao8, cap8, rfl, hR8⟩ := hv8.shape
  have R8 := Lib.hid hR8
  have B8 := Lib.hid (st_below B7.out hb8)
  clear hre hv8 hb8 hR8 T7 B7
  go_wp2_with fail
  have hls := lists_any ao8 (some ⟨w8.heap.size + 1, 0, none⟩) cap8 1 1 1 [[1]] [[1]] _ (R8.out.below (below_two w8 (.cells #[.int .u8 1] 5) (.cells #[.slice (some ⟨w8.heap.size, 0, none⟩) 1 1] 22))) (rs_lit w8 1 (by omega) (by omega)) rfl rfl
  rw [decide_eq_true rfl] at hls
  refine hls.mono ?_
  rintro e w9 ⟨rfl, hb9⟩
  have B9 := Lib.hid (st_below (st_below B8.out (below_two w8 _ _)) hb9)
  clear hls hb9
  go_wp2_with fail
  go_ret
  exact ⟨rfl, B9.out⟩
end Go.Proofs.Ytaniflbhkddlhaa
