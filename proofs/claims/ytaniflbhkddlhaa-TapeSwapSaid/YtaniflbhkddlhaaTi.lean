/- The law TapeSwap, walked. No condition but the sizes. -/
import Derived.Test.YtaniflbhkddlhaaTg
import Derived.Laws.BitsAllLaws
namespace Go.Proofs.Ytaniflbhkddlhaa
open Go.RowKit
theorem fits_open' (hv more : Int) : fitsR false (-1) hv more = if 1048576 - hv < more then (9, false, -1) else (0, false, -1) := by unfold fitsR burnR; simp
theorem keep_cell {g b0 o : Nat} {w w' : World} {v : Value} (h : w.cell? ⟨b0, o, none⟩ = some v) (hb : But g w w') (hg : b0 < g) : w'.cell? ⟨b0, o, none⟩ = some v := hb.cell h (Nat.ne_of_lt hg)
theorem and_one (x : Int) : bits .and .i64 x 1 = 0 ∨ bits .and .i64 x 1 = 1 := by
  have e : bits .and .i64 x 1 = x % 2 := by
    have h1 : (BitVec.ofInt 64 1).toNat = 2 ^ 1 - 1 := by decide
    have key : (BitVec.ofInt 64 x &&& BitVec.ofInt 64 1).toNat = (x % ((2 ^ 64 : Nat) : Int)).toNat % 2 ^ 1 := by
      rw [BitVec.toNat_and, BitVec.toNat_ofInt, h1, Nat.and_two_pow_sub_one_eq_mod]
    show IntKind.i64.wrap ((BitVec.ofInt 64 x &&& BitVec.ofInt 64 1).toNat : Nat) = x % 2
    rw [key, IntKind.wrap_i64]
    omega
  omega
set_option maxHeartbeats 1000000 in
set_option maxRecDepth 100000 in
theorem swap_many (ao bo : Option Addr) (ca cb n m : Nat) (x y : Int) (w : World) (h : (1048576 : Int) < (n : Int) + m) (h1 : n ≤ 140737488355328) (h2 : m ≤ 140737488355328) :
    Calls Try.prog 12 #[.slice ao n ca, .slice bo m cb, .agg #[.int .i64 x, .int .i64 y]] w (TruePost w) := by
  go_enter Try.func12, Try.ntmps12
  go_wp2_with (go_at_call 28; refine (talive_any _).mono ?_; rintro e w6 ⟨rfl, hb6⟩)
  go_ret
  exact ⟨rfl, st_below (below_alloc w _) hb6⟩
set_option maxHeartbeats 2000000 in
set_option maxRecDepth 100000 in
theorem swap_few0 (ao bo : Option Addr) (ca cb n m : Nat) (l k : List Int) (x y : Int) (w : World) (hl : Bs w ao ca l) (hk : Bs w bo cb k) (hn : l.length = n) (hm : k.length = m) (h : ¬ (1048576 : Int) < (n : Int) + m)
    (hx : bits .and .i64 x 1 = 0) :
    Calls Try.prog 12 #[.slice ao n ca, .slice bo m cb, .agg #[.int .i64 x, .int .i64 y]] w (TruePost w) := by
  have L0 := Lib.hid hl
  have K0 := Lib.hid hk
  have HN := Lib.hid hn
  have HM := Lib.hid hm
  clear hl hk hn hm
  go_enter Try.func12, Try.ntmps12
  go_wp2_with fail
  have L1 := Lib.hid (L0.out.alloc (.cells #[.int .i64 x, .int .i64 y] 72))
  have K1 := Lib.hid (K0.out.alloc (.cells #[.int .i64 x, .int .i64 y] 72))
  have B0 := Lib.hid (below_alloc w (.cells #[.int .i64 x, .int .i64 y] 72))
  obtain ⟨b0, hb0⟩ : ∃ b0, w.heap.size = b0 := ⟨_, rfl⟩
  have C1 : (w.alloc (.cells #[.int .i64 x, .int .i64 y] 72)).cell? ⟨b0, 0, none⟩ = some (.int .i64 x) ∧ (w.alloc (.cells #[.int .i64 x, .int .i64 y] 72)).cell? ⟨b0, 1, none⟩ = some (.int .i64 y) ∧ b0 < (w.alloc (.cells #[.int .i64 x, .int .i64 y] 72)).heap.size := by
    subst hb0; simp
  have HB0 := Lib.hid hb0
  rw [hb0]
  obtain ⟨w0, hw0⟩ : ∃ w0, w.alloc (.cells #[.int .i64 x, .int .i64 y] 72) = w0 := ⟨_, rfl⟩
  rw [hw0] at L1 K1 B0 C1 ⊢
  obtain ⟨c0, c1, c2⟩ := C1
  clear L0 K0 hb0 hw0
  refine (tnew_any w0).mono ?_
  rintro e w1 ⟨g, rfl, hT1, hb1, hg⟩
  have T1 := Lib.hid hT1
  have B1 := Lib.hid (st_below B0.out hb1)
  have G := Lib.hid (Nat.le_trans B0.out.size hg)
  have GB := Lib.hid (Nat.lt_of_lt_of_le c2 hg)
  have L2 := Lib.hid (L1.out.below hb1)
  have K2 := Lib.hid (K1.out.below hb1)
  have d0 := (hb1.cell (p := ⟨b0, 0, none⟩) c2).trans c0
  have d1 := (hb1.cell (p := ⟨b0, 1, none⟩) c2).trans c1
  clear hT1 hb1 hg c0 c1 c2 L1 K1 B0
  go_wp2_with fail
  have hwr := write_any w1 g false (-1) [] 0 T1.out ao ca n l L2.out HN.out
  rw [show fitsR false (-1) ([] : List Int).length (n : Nat) = (0, false, -1) by rw [fits_open']; simp; omega] at hwr
  refine hwr.mono ?_
  rintro e w2 ⟨rfl, hT2, hbut⟩
  have T2 := Lib.hid (show TapeAt w2 g false (-1) l 0 by simpa using hT2)
  have B2 := Lib.hid (st_but B1.out G.out hbut)
  have L3 := Lib.hid (L2.out.but T1.out.noBytes hbut)
  have K3 := Lib.hid (K2.out.but T1.out.noBytes hbut)
  have e0 := keep_cell d0 hbut GB.out
  have e1 := keep_cell d1 hbut GB.out
  clear hwr hT2 hbut T1 B1 L2 K2 d0 d1
  go_wp2_with fail
  have hsy := tsync_any w2 g false (-1) l 0 T2.out
  rw [show fitsR false (-1) 0 0 = (0, false, -1) from rfl, if_pos rfl, HN.out] at hsy
  refine hsy.mono ?_
  rintro e w3 ⟨rfl, hT3, hbut⟩
  have T3 := Lib.hid hT3
  have B3 := Lib.hid (st_but B2.out G.out hbut)
  have L4 := Lib.hid (L3.out.but T2.out.noBytes hbut)
  have K4 := Lib.hid (K3.out.but T2.out.noBytes hbut)
  have d0 := keep_cell e0 hbut GB.out
  have d1 := keep_cell e1 hbut GB.out
  clear hsy hT3 hbut T2 B2 L3 K3 e0 e1
  go_wp2_with fail
  refine (tarm_any w3 g false (-1) 0 l n T3.out (by omega)).mono ?_
  rintro e w4 ⟨rfl, hT4, hbut⟩
  have T4 := Lib.hid (show TapeAt w4 g false 0 l n from hT4)
  have B4 := Lib.hid (st_but B3.out G.out hbut)
  have L5 := Lib.hid (L4.out.but T3.out.noBytes hbut)
  have K5 := Lib.hid (K4.out.but T3.out.noBytes hbut)
  have e0 := keep_cell d0 hbut GB.out
  have e1 := keep_cell d1 hbut GB.out
  clear hT4 hbut T3 B3 L4 K4 d0 d1
  go_wp2_with fail
  have hsw := swap_any w4 g false 0 l n T4.out bo cb m k K5.out HM.out
  rw [show fitsR false 0 0 (m : Nat) = (10, true, 0) by unfold fitsR burnR; simp; omega] at hsw
  refine hsw.mono ?_
  rintro e w5 ⟨rfl, hT5, hbut⟩
  have T5 := Lib.hid (show TapeAt w5 g true 0 l n by simpa using hT5)
  have B5 := Lib.hid (st_but B4.out G.out hbut)
  have L6 := Lib.hid (L5.out.but T4.out.noBytes hbut)
  have K6 := Lib.hid (K5.out.but T4.out.noBytes hbut)
  have d1 := keep_cell e1 hbut GB.out
  clear hsw hT5 hbut T4 B4 L5 K5 e0 e1
  go_wp2_with fail
  have hsy := tsync_any w5 g _ 0 _ n T5.out
  rw [show fitsR true 0 0 0 = (10, true, 0) from rfl, if_neg (by simp)] at hsy
  refine hsy.mono ?_
  rintro e w6 ⟨rfl, hT6, hbut⟩
  have T6 := Lib.hid hT6
  have B6 := Lib.hid (st_but B5.out G.out hbut)
  have L7 := Lib.hid (L6.out.but T5.out.noBytes hbut)
  have K7 := Lib.hid (K6.out.but T5.out.noBytes hbut)
  have e1 := keep_cell d1 hbut GB.out
  clear hsy hT6 hbut T5 B5 L6 K6 d1
  go_wp2_with (go_at_call 31; refine (ton_any _ _ _ _ _ _ T6.out).mono ?_; rintro e w' ⟨rfl, rfl⟩; simp only [Bool.not_true])
  have hst := start_off w6 g 0 l n n y T6.out HN.out
  rw [Nat.sub_self, show addK y 0 = 0 from Nat.le_zero.1 (addK_le y 0), Nat.add_zero, List.take_of_length_le (by rw [HN.out]; exact Nat.le_refl _)] at hst
  refine hst.mono ?_
  rintro e w7 ⟨rfl, hT7, hbut⟩
  have T7 := Lib.hid hT7
  have B7 := Lib.hid (st_but B6.out G.out hbut)
  have L8 := Lib.hid (L7.out.but T6.out.noBytes hbut)
  have K8 := Lib.hid (K7.out.but T6.out.noBytes hbut)
  clear hst hT7 hbut T6 B6 L7 K7 e1
  go_wp2_with fail
  refine (bytes_on w7 g (-1) l n n T7.out HN.out).mono ?_
  rintro e w8 ⟨ao8, cap8, rfl, hB8, hb8⟩
  have L9 := Lib.hid (L8.out.below hb8)
  have X8 := Lib.hid hB8
  have B8 := Lib.hid (st_below B7.out hb8)
  clear hB8 hb8 T7 B7 L8 K8
  go_wp2_with fail
  have hsm := same_any ao8 ao cap8 ca n n l l w8 X8.out L9.out HN.out HN.out
  rw [decide_eq_true rfl] at hsm
  refine hsm.mono ?_
  rintro e w9 ⟨rfl, rfl⟩
  clear hsm
  go_wp2_with (go_at_call 28; refine (talive_any _).mono ?_; rintro e w6 ⟨rfl, hb6⟩)
  go_ret
  exact ⟨rfl, st_below B8.out hb6⟩
set_option maxHeartbeats 2000000 in
set_option maxRecDepth 100000 in
theorem swap_few1 (ao bo : Option Addr) (ca cb n m : Nat) (l k : List Int) (x y : Int) (w : World) (hl : Bs w ao ca l) (hk : Bs w bo cb k) (hn : l.length = n) (hm : k.length = m) (h : ¬ (1048576 : Int) < (n : Int) + m)
    (hx : bits .and .i64 x 1 = 1) :
    Calls Try.prog 12 #[.slice ao n ca, .slice bo m cb, .agg #[.int .i64 x, .int .i64 y]] w (TruePost w) := by
  have L0 := Lib.hid hl
  have K0 := Lib.hid hk
  have HN := Lib.hid hn
  have HM := Lib.hid hm
  clear hl hk hn hm
  go_enter Try.func12, Try.ntmps12
  go_wp2_with fail
  have L1 := Lib.hid (L0.out.alloc (.cells #[.int .i64 x, .int .i64 y] 72))
  have K1 := Lib.hid (K0.out.alloc (.cells #[.int .i64 x, .int .i64 y] 72))
  have B0 := Lib.hid (below_alloc w (.cells #[.int .i64 x, .int .i64 y] 72))
  obtain ⟨b0, hb0⟩ : ∃ b0, w.heap.size = b0 := ⟨_, rfl⟩
  have C1 : (w.alloc (.cells #[.int .i64 x, .int .i64 y] 72)).cell? ⟨b0, 0, none⟩ = some (.int .i64 x) ∧ (w.alloc (.cells #[.int .i64 x, .int .i64 y] 72)).cell? ⟨b0, 1, none⟩ = some (.int .i64 y) ∧ b0 < (w.alloc (.cells #[.int .i64 x, .int .i64 y] 72)).heap.size := by
    subst hb0; simp
  have HB0 := Lib.hid hb0
  rw [hb0]
  obtain ⟨w0, hw0⟩ : ∃ w0, w.alloc (.cells #[.int .i64 x, .int .i64 y] 72) = w0 := ⟨_, rfl⟩
  rw [hw0] at L1 K1 B0 C1 ⊢
  obtain ⟨c0, c1, c2⟩ := C1
  clear L0 K0 hb0 hw0
  refine (tnew_any w0).mono ?_
  rintro e w1 ⟨g, rfl, hT1, hb1, hg⟩
  have T1 := Lib.hid hT1
  have B1 := Lib.hid (st_below B0.out hb1)
  have G := Lib.hid (Nat.le_trans B0.out.size hg)
  have GB := Lib.hid (Nat.lt_of_lt_of_le c2 hg)
  have L2 := Lib.hid (L1.out.below hb1)
  have K2 := Lib.hid (K1.out.below hb1)
  have d0 := (hb1.cell (p := ⟨b0, 0, none⟩) c2).trans c0
  have d1 := (hb1.cell (p := ⟨b0, 1, none⟩) c2).trans c1
  clear hT1 hb1 hg c0 c1 c2 L1 K1 B0
  go_wp2_with fail
  have hwr := write_any w1 g false (-1) [] 0 T1.out ao ca n l L2.out HN.out
  rw [show fitsR false (-1) ([] : List Int).length (n : Nat) = (0, false, -1) by rw [fits_open']; simp; omega] at hwr
  refine hwr.mono ?_
  rintro e w2 ⟨rfl, hT2, hbut⟩
  have T2 := Lib.hid (show TapeAt w2 g false (-1) l 0 by simpa using hT2)
  have B2 := Lib.hid (st_but B1.out G.out hbut)
  have L3 := Lib.hid (L2.out.but T1.out.noBytes hbut)
  have K3 := Lib.hid (K2.out.but T1.out.noBytes hbut)
  have e0 := keep_cell d0 hbut GB.out
  have e1 := keep_cell d1 hbut GB.out
  clear hwr hT2 hbut T1 B1 L2 K2 d0 d1
  go_wp2_with fail
  have hsy := tsync_any w2 g false (-1) l 0 T2.out
  rw [show fitsR false (-1) 0 0 = (0, false, -1) from rfl, if_pos rfl, HN.out] at hsy
  refine hsy.mono ?_
  rintro e w3 ⟨rfl, hT3, hbut⟩
  have T3 := Lib.hid hT3
  have B3 := Lib.hid (st_but B2.out G.out hbut)
  have L4 := Lib.hid (L3.out.but T2.out.noBytes hbut)
  have K4 := Lib.hid (K3.out.but T2.out.noBytes hbut)
  have d0 := keep_cell e0 hbut GB.out
  have d1 := keep_cell e1 hbut GB.out
  clear hsy hT3 hbut T2 B2 L3 K3 e0 e1
  go_wp2_with fail
  refine (tarm_any w3 g false (-1) 1 l n T3.out (by omega)).mono ?_
  rintro e w4 ⟨rfl, hT4, hbut⟩
  have T4 := Lib.hid (show TapeAt w4 g false 1 l n from hT4)
  have B4 := Lib.hid (st_but B3.out G.out hbut)
  have L5 := Lib.hid (L4.out.but T3.out.noBytes hbut)
  have K5 := Lib.hid (K4.out.but T3.out.noBytes hbut)
  have e0 := keep_cell d0 hbut GB.out
  have e1 := keep_cell d1 hbut GB.out
  clear hT4 hbut T3 B3 L4 K4 d0 d1
  go_wp2_with fail
  have hsw := swap_any w4 g false 1 l n T4.out bo cb m k K5.out HM.out
  rw [show fitsR false 1 0 (m : Nat) = (0, false, 0) by unfold fitsR burnR; simp; omega] at hsw
  refine hsw.mono ?_
  rintro e w5 ⟨rfl, hT5, hbut⟩
  have T5 := Lib.hid (show TapeAt w5 g false 0 k m by simpa using hT5)
  have B5 := Lib.hid (st_but B4.out G.out hbut)
  have L6 := Lib.hid (L5.out.but T4.out.noBytes hbut)
  have K6 := Lib.hid (K5.out.but T4.out.noBytes hbut)
  have d1 := keep_cell e1 hbut GB.out
  clear hsw hT5 hbut T4 B4 L5 K5 e0 e1
  go_wp2_with fail
  have hsy := tsync_any w5 g _ 0 _ m T5.out
  rw [show fitsR false 0 0 0 = (10, true, 0) from rfl, if_neg (by simp)] at hsy
  refine hsy.mono ?_
  rintro e w6 ⟨rfl, hT6, hbut⟩
  have T6 := Lib.hid hT6
  have B6 := Lib.hid (st_but B5.out G.out hbut)
  have L7 := Lib.hid (L6.out.but T5.out.noBytes hbut)
  have K7 := Lib.hid (K6.out.but T5.out.noBytes hbut)
  have e1 := keep_cell d1 hbut GB.out
  clear hsy hT6 hbut T5 B5 L6 K6 d1
  go_wp2_with (go_at_call 31; refine (ton_any _ _ _ _ _ _ T6.out).mono ?_; rintro e w' ⟨rfl, rfl⟩; simp only [Bool.not_true])
  have hst := start_off w6 g 0 k m m y T6.out HM.out
  rw [Nat.sub_self, show addK y 0 = 0 from Nat.le_zero.1 (addK_le y 0), Nat.add_zero, List.take_of_length_le (by rw [HM.out]; exact Nat.le_refl _)] at hst
  refine hst.mono ?_
  rintro e w7 ⟨rfl, hT7, hbut⟩
  have T7 := Lib.hid hT7
  have B7 := Lib.hid (st_but B6.out G.out hbut)
  have L8 := Lib.hid (L7.out.but T6.out.noBytes hbut)
  have K8 := Lib.hid (K7.out.but T6.out.noBytes hbut)
  clear hst hT7 hbut T6 B6 L7 K7 e1
  go_wp2_with fail
  refine (bytes_on w7 g (-1) k m m T7.out HM.out).mono ?_
  rintro e w8 ⟨ao8, cap8, rfl, hB8, hb8⟩
  have L9 := Lib.hid (K8.out.below hb8)
  have X8 := Lib.hid hB8
  have B8 := Lib.hid (st_below B7.out hb8)
  clear hB8 hb8 T7 B7 L8 K8
  go_wp2_with fail
  have hsm := same_any ao8 bo cap8 cb m m k k w8 X8.out L9.out HM.out HM.out
  rw [decide_eq_true rfl] at hsm
  refine hsm.mono ?_
  rintro e w9 ⟨rfl, rfl⟩
  clear hsm
  go_wp2_with (go_at_call 28; refine (talive_any _).mono ?_; rintro e w6 ⟨rfl, hb6⟩)
  go_ret
  exact ⟨rfl, st_below B8.out hb6⟩
theorem tapeSwap_any (ao bo : Option Addr) (ca cb n m : Nat) (l k : List Int) (x y : Int) (w : World) (hl : Bs w ao ca l) (hk : Bs w bo cb k) (hn : l.length = n) (hm : k.length = m) (h1 : n ≤ 140737488355328) (h2 : m ≤ 140737488355328) :
    Calls Try.prog 12 #[.slice ao n ca, .slice bo m cb, .agg #[.int .i64 x, .int .i64 y]] w (TruePost w) := by
  by_cases h : (1048576 : Int) < (n : Int) + m
  · exact swap_many ao bo ca cb n m x y w h h1 h2
  · rcases and_one x with hx | hx
    · exact swap_few0 ao bo ca cb n m l k x y w hl hk hn hm h hx
    · exact swap_few1 ao bo ca cb n m l k x y w hl hk hn hm h hx
end Go.Proofs.Ytaniflbhkddlhaa
