/- The law TapeFull, walked. No condition. -/
import Derived.Test.YtaniflbhkddlhaaTg
namespace Go.Proofs.Ytaniflbhkddlhaa
open Go.RowKit
/-- A row of so many zero bytes. -/
def zrow (n : Nat) : Obj := .cells (madeCells (Value.int .u8 0).cells (n * 1)) 5
theorem run_make_n (W : World) (n : Nat) (hn : n ≤ 140737488355328) : (Instr.makeSlice 22 (.int .i64 n) (.int .i64 n)).run Try.prog W = .ok (.slice (some ⟨W.heap.size, 0, none⟩) n n) (W.alloc (zrow n)) := by
  obtain ⟨i0, hi, hz0, hz1, hz2⟩ := info_parts info5
  have hrun := run_make (P := Try.prog) W 22 5 i0 (.int .u8 0) Try.underlying22 hi hz0 .i64 .i64 n n (by omega) (by omega) (by rw [hz2]; omega) (by omega)
  rw [hrun, hz1]
  simp [zrow]
theorem bs_zrow (w : World) (n : Nat) (hn : n ≤ 140737488355328) : Bs (w.alloc (zrow n)) (some ⟨w.heap.size, 0, none⟩) n (List.replicate n 0) := by
  have h := World.ownsRow_lit (base := w.heap.size) (e := 5) (size := 1) w (madeCells (Value.int .u8 0).cells (n * 1)) n (Nat.le_refl _) (by unfold maxLen; omega) (by rw [size_madeCells])
  have e : (madeCells (Value.int .u8 0).cells (n * 1)).toList = (List.replicate n (0 : Int)).map (Value.int .u8) := (toList_madeCells_one _ _).trans (by simp)
  rw [e] at h
  have ho : OwnB (w.alloc (zrow n)) w.heap.size (.slice (some ⟨w.heap.size, 0, none⟩) n n) (List.replicate n 0) := ⟨by rw [List.length_replicate]; exact h, fun x hx => by obtain ⟨_, rfl⟩ := List.mem_replicate.1 hx; omega⟩
  exact ho.bs.1
theorem fits_open (hv more : Int) : fitsR false (-1) hv more = if 1048576 - hv < more then (9, false, -1) else (0, false, -1) := by unfold fitsR burnR; simp
set_option maxHeartbeats 2000000 in
set_option maxRecDepth 100000 in
theorem full_yy (w : World) (many more : Int) (n m : Nat) (h0 : 0 ≤ many) (h1 : many ≤ 4294967295) (h2 : 0 ≤ more) (h3 : more ≤ 4294967295) (hn : many.tmod 1048579 = n) (hm : more.tmod 1048579 = m) (hnb : n ≤ 1048578) (hmb : m ≤ 1048578)
    (k1 : (n : Int) ≤ 1048576) (k2 : (n : Int) + m ≤ 1048576) (k3 : (m : Int) ≤ 1048576) : Calls Try.prog 13 #[.int .u32 many, .int .u32 more] w (TruePost w) := by
  have HT := Lib.hid (tnew_any w)
  have hmkn := fun W => run_make_n W n (by omega)
  have hmkm := fun W => run_make_n W m (by omega)
  have dk1 := decide_eq_true k1
  have dk2 := decide_eq_true k2
  have dk3 := decide_eq_true k3
  go_enter Try.func13, Try.ntmps13
  go_wp2_with fail
  refine HT.out.mono ?_
  rintro e w1 ⟨g, rfl, hT1, hb1, hg⟩
  have T1 := Lib.hid hT1
  have B1 := Lib.hid hb1
  have G := Lib.hid hg
  clear hT1 hb1 hg
  go_wp2_with fail
  have hwr := write_any _ g false (-1) [] 0 (T1.out.below (below_alloc w1 (zrow n))) _ n n (List.replicate n 0) (bs_zrow w1 n (by omega)) (by simp)
  rw [show fitsR false (-1) ([] : List Int).length (n : Nat) = (0, false, -1) by rw [fits_open]; simp; omega] at hwr
  refine hwr.mono ?_
  rintro e w2 ⟨rfl, hT2, hbut2⟩
  have T2 := Lib.hid (show TapeAt w2 g false (-1) (List.replicate n 0) 0 by simpa using hT2)
  have B2 := Lib.hid (st_but (st_below B1.out (below_alloc w1 _)) G.out hbut2)
  clear hwr hT2 hbut2 T1 B1
  go_wp2_with fail
  have hwr := write_any _ g false (-1) (List.replicate n 0) 0 (T2.out.below (below_alloc w2 (zrow m))) _ m m (List.replicate m 0) (bs_zrow w2 m (by omega)) (by simp)
  rw [show fitsR false (-1) ((List.replicate n 0) : List Int).length (m : Nat) = (0, false, -1) by rw [fits_open]; simp; omega] at hwr
  refine hwr.mono ?_
  rintro e w3 ⟨rfl, hT3, hbut3⟩
  have T3 := Lib.hid (show TapeAt w3 g false (-1) (List.replicate (n + m) 0) 0 by simpa using hT3)
  have B3 := Lib.hid (st_but (st_below B2.out (below_alloc w2 _)) G.out hbut3)
  clear hwr hT3 hbut3 T2 B2
  go_wp2_with fail
  refine (bytes_on w3 g (-1) (List.replicate (n + m) 0) 0 (n + m) T3.out (by simp)).mono ?_
  rintro e w4 ⟨ao4, cap4, rfl, hB4, hb4⟩
  have T4 := Lib.hid (T3.out.below hb4)
  have B4 := Lib.hid (st_below B3.out hb4)
  clear hB4 hb4 T3 B3
  go_wp2_with fail
  have hsw := swap_any _ g false (-1) (List.replicate (n + m) 0) 0 (T4.out.below (below_alloc w4 (zrow m))) _ m m (List.replicate m 0) (bs_zrow w4 m (by omega)) (by simp)
  rw [show fitsR false (-1) 0 (m : Nat) = (0, false, -1) by rw [fits_open]; simp; omega] at hsw
  refine hsw.mono ?_
  rintro e w5 ⟨rfl, hT5, hbut5⟩
  have B5 := Lib.hid (st_but (st_below B4.out (below_alloc w4 _)) G.out hbut5)
  clear hsw hT5 hbut5 T4 B4
  go_wp2_with fail
  refine (talive_any w5).mono ?_
  rintro e w6 ⟨rfl, hb6⟩
  have B6 := Lib.hid (st_below B5.out hb6)
  clear hb6 B5
  go_wp2_with fail
  go_ret
  exact ⟨rfl, B6.out⟩
set_option maxHeartbeats 2000000 in
set_option maxRecDepth 100000 in
theorem full_ynn (w : World) (many more : Int) (n m : Nat) (h0 : 0 ≤ many) (h1 : many ≤ 4294967295) (h2 : 0 ≤ more) (h3 : more ≤ 4294967295) (hn : many.tmod 1048579 = n) (hm : more.tmod 1048579 = m) (hnb : n ≤ 1048578) (hmb : m ≤ 1048578)
    (k1 : (n : Int) ≤ 1048576) (k2 : ¬ (n : Int) + m ≤ 1048576) (k3 : ¬ (m : Int) ≤ 1048576) : Calls Try.prog 13 #[.int .u32 many, .int .u32 more] w (TruePost w) := by
  have HT := Lib.hid (tnew_any w)
  have hmkn := fun W => run_make_n W n (by omega)
  have hmkm := fun W => run_make_n W m (by omega)
  have dk1 := decide_eq_true k1
  have dk2 := decide_eq_false k2
  have dk3 := decide_eq_false k3
  go_enter Try.func13, Try.ntmps13
  go_wp2_with fail
  refine HT.out.mono ?_
  rintro e w1 ⟨g, rfl, hT1, hb1, hg⟩
  have T1 := Lib.hid hT1
  have B1 := Lib.hid hb1
  have G := Lib.hid hg
  clear hT1 hb1 hg
  go_wp2_with fail
  have hwr := write_any _ g false (-1) [] 0 (T1.out.below (below_alloc w1 (zrow n))) _ n n (List.replicate n 0) (bs_zrow w1 n (by omega)) (by simp)
  rw [show fitsR false (-1) ([] : List Int).length (n : Nat) = (0, false, -1) by rw [fits_open]; simp; omega] at hwr
  refine hwr.mono ?_
  rintro e w2 ⟨rfl, hT2, hbut2⟩
  have T2 := Lib.hid (show TapeAt w2 g false (-1) (List.replicate n 0) 0 by simpa using hT2)
  have B2 := Lib.hid (st_but (st_below B1.out (below_alloc w1 _)) G.out hbut2)
  clear hwr hT2 hbut2 T1 B1
  go_wp2_with fail
  have hwr := write_any _ g false (-1) (List.replicate n 0) 0 (T2.out.below (below_alloc w2 (zrow m))) _ m m (List.replicate m 0) (bs_zrow w2 m (by omega)) (by simp)
  rw [show fitsR false (-1) ((List.replicate n 0) : List Int).length (m : Nat) = (9, false, -1) by rw [fits_open]; simp; omega] at hwr
  refine hwr.mono ?_
  rintro e w3 ⟨rfl, hT3, hbut3⟩
  have T3 := Lib.hid (show TapeAt w3 g false (-1) (List.replicate n 0) 0 by simpa using hT3)
  have B3 := Lib.hid (st_but (st_below B2.out (below_alloc w2 _)) G.out hbut3)
  clear hwr hT3 hbut3 T2 B2
  go_wp2_with fail
  refine (bytes_on w3 g (-1) (List.replicate n 0) 0 n T3.out (by simp)).mono ?_
  rintro e w4 ⟨ao4, cap4, rfl, hB4, hb4⟩
  have T4 := Lib.hid (T3.out.below hb4)
  have B4 := Lib.hid (st_below B3.out hb4)
  clear hB4 hb4 T3 B3
  go_wp2_with fail
  have hsw := swap_any _ g false (-1) (List.replicate n 0) 0 (T4.out.below (below_alloc w4 (zrow m))) _ m m (List.replicate m 0) (bs_zrow w4 m (by omega)) (by simp)
  rw [show fitsR false (-1) 0 (m : Nat) = (9, false, -1) by rw [fits_open]; simp; omega] at hsw
  refine hsw.mono ?_
  rintro e w5 ⟨rfl, hT5, hbut5⟩
  have B5 := Lib.hid (st_but (st_below B4.out (below_alloc w4 _)) G.out hbut5)
  clear hsw hT5 hbut5 T4 B4
  go_wp2_with fail
  refine (talive_any w5).mono ?_
  rintro e w6 ⟨rfl, hb6⟩
  have B6 := Lib.hid (st_below B5.out hb6)
  clear hb6 B5
  go_wp2_with fail
  go_ret
  exact ⟨rfl, B6.out⟩
set_option maxHeartbeats 2000000 in
set_option maxRecDepth 100000 in
theorem full_yny (w : World) (many more : Int) (n m : Nat) (h0 : 0 ≤ many) (h1 : many ≤ 4294967295) (h2 : 0 ≤ more) (h3 : more ≤ 4294967295) (hn : many.tmod 1048579 = n) (hm : more.tmod 1048579 = m) (hnb : n ≤ 1048578) (hmb : m ≤ 1048578)
    (k1 : (n : Int) ≤ 1048576) (k2 : ¬ (n : Int) + m ≤ 1048576) (k3 : (m : Int) ≤ 1048576) : Calls Try.prog 13 #[.int .u32 many, .int .u32 more] w (TruePost w) := by
  have HT := Lib.hid (tnew_any w)
  have hmkn := fun W => run_make_n W n (by omega)
  have hmkm := fun W => run_make_n W m (by omega)
  have dk1 := decide_eq_true k1
  have dk2 := decide_eq_false k2
  have dk3 := decide_eq_true k3
  go_enter Try.func13, Try.ntmps13
  go_wp2_with fail
  refine HT.out.mono ?_
  rintro e w1 ⟨g, rfl, hT1, hb1, hg⟩
  have T1 := Lib.hid hT1
  have B1 := Lib.hid hb1
  have G := Lib.hid hg
  clear hT1 hb1 hg
  go_wp2_with fail
  have hwr := write_any _ g false (-1) [] 0 (T1.out.below (below_alloc w1 (zrow n))) _ n n (List.replicate n 0) (bs_zrow w1 n (by omega)) (by simp)
  rw [show fitsR false (-1) ([] : List Int).length (n : Nat) = (0, false, -1) by rw [fits_open]; simp; omega] at hwr
  refine hwr.mono ?_
  rintro e w2 ⟨rfl, hT2, hbut2⟩
  have T2 := Lib.hid (show TapeAt w2 g false (-1) (List.replicate n 0) 0 by simpa using hT2)
  have B2 := Lib.hid (st_but (st_below B1.out (below_alloc w1 _)) G.out hbut2)
  clear hwr hT2 hbut2 T1 B1
  go_wp2_with fail
  have hwr := write_any _ g false (-1) (List.replicate n 0) 0 (T2.out.below (below_alloc w2 (zrow m))) _ m m (List.replicate m 0) (bs_zrow w2 m (by omega)) (by simp)
  rw [show fitsR false (-1) ((List.replicate n 0) : List Int).length (m : Nat) = (9, false, -1) by rw [fits_open]; simp; omega] at hwr
  refine hwr.mono ?_
  rintro e w3 ⟨rfl, hT3, hbut3⟩
  have T3 := Lib.hid (show TapeAt w3 g false (-1) (List.replicate n 0) 0 by simpa using hT3)
  have B3 := Lib.hid (st_but (st_below B2.out (below_alloc w2 _)) G.out hbut3)
  clear hwr hT3 hbut3 T2 B2
  go_wp2_with fail
  refine (bytes_on w3 g (-1) (List.replicate n 0) 0 n T3.out (by simp)).mono ?_
  rintro e w4 ⟨ao4, cap4, rfl, hB4, hb4⟩
  have T4 := Lib.hid (T3.out.below hb4)
  have B4 := Lib.hid (st_below B3.out hb4)
  clear hB4 hb4 T3 B3
  go_wp2_with fail
  have hsw := swap_any _ g false (-1) (List.replicate n 0) 0 (T4.out.below (below_alloc w4 (zrow m))) _ m m (List.replicate m 0) (bs_zrow w4 m (by omega)) (by simp)
  rw [show fitsR false (-1) 0 (m : Nat) = (0, false, -1) by rw [fits_open]; simp; omega] at hsw
  refine hsw.mono ?_
  rintro e w5 ⟨rfl, hT5, hbut5⟩
  have B5 := Lib.hid (st_but (st_below B4.out (below_alloc w4 _)) G.out hbut5)
  clear hsw hT5 hbut5 T4 B4
  go_wp2_with fail
  refine (talive_any w5).mono ?_
  rintro e w6 ⟨rfl, hb6⟩
  have B6 := Lib.hid (st_below B5.out hb6)
  clear hb6 B5
  go_wp2_with fail
  go_ret
  exact ⟨rfl, B6.out⟩
set_option maxHeartbeats 2000000 in
set_option maxRecDepth 100000 in
theorem full_ny (w : World) (many more : Int) (n m : Nat) (h0 : 0 ≤ many) (h1 : many ≤ 4294967295) (h2 : 0 ≤ more) (h3 : more ≤ 4294967295) (hn : many.tmod 1048579 = n) (hm : more.tmod 1048579 = m) (hnb : n ≤ 1048578) (hmb : m ≤ 1048578)
    (k1 : ¬ (n : Int) ≤ 1048576) (k3 : (m : Int) ≤ 1048576) : Calls Try.prog 13 #[.int .u32 many, .int .u32 more] w (TruePost w) := by
  have HT := Lib.hid (tnew_any w)
  have hmkn := fun W => run_make_n W n (by omega)
  have hmkm := fun W => run_make_n W m (by omega)
  have dk1 := decide_eq_false k1
  have dk3 := decide_eq_true k3
  go_enter Try.func13, Try.ntmps13
  go_wp2_with fail
  refine HT.out.mono ?_
  rintro e w1 ⟨g, rfl, hT1, hb1, hg⟩
  have T1 := Lib.hid hT1
  have B1 := Lib.hid hb1
  have G := Lib.hid hg
  clear hT1 hb1 hg
  go_wp2_with fail
  have hwr := write_any _ g false (-1) [] 0 (T1.out.below (below_alloc w1 (zrow n))) _ n n (List.replicate n 0) (bs_zrow w1 n (by omega)) (by simp)
  rw [show fitsR false (-1) ([] : List Int).length (n : Nat) = (9, false, -1) by rw [fits_open]; simp; omega] at hwr
  refine hwr.mono ?_
  rintro e w2 ⟨rfl, hT2, hbut2⟩
  have T2 := Lib.hid (show TapeAt w2 g false (-1) [] 0 by simpa using hT2)
  have B2 := Lib.hid (st_but (st_below B1.out (below_alloc w1 _)) G.out hbut2)
  clear hwr hT2 hbut2 T1 B1
  go_wp2_with fail
  have hwr := write_any _ g false (-1) [] 0 (T2.out.below (below_alloc w2 (zrow m))) _ m m (List.replicate m 0) (bs_zrow w2 m (by omega)) (by simp)
  rw [show fitsR false (-1) ([] : List Int).length (m : Nat) = (0, false, -1) by rw [fits_open]; simp; omega] at hwr
  refine hwr.mono ?_
  rintro e w3 ⟨rfl, hT3, hbut3⟩
  have T3 := Lib.hid (show TapeAt w3 g false (-1) (List.replicate m 0) 0 by simpa using hT3)
  have B3 := Lib.hid (st_but (st_below B2.out (below_alloc w2 _)) G.out hbut3)
  clear hwr hT3 hbut3 T2 B2
  go_wp2_with fail
  refine (bytes_on w3 g (-1) (List.replicate m 0) 0 m T3.out (by simp)).mono ?_
  rintro e w4 ⟨ao4, cap4, rfl, hB4, hb4⟩
  have T4 := Lib.hid (T3.out.below hb4)
  have B4 := Lib.hid (st_below B3.out hb4)
  clear hB4 hb4 T3 B3
  go_wp2_with fail
  have hsw := swap_any _ g false (-1) (List.replicate m 0) 0 (T4.out.below (below_alloc w4 (zrow m))) _ m m (List.replicate m 0) (bs_zrow w4 m (by omega)) (by simp)
  rw [show fitsR false (-1) 0 (m : Nat) = (0, false, -1) by rw [fits_open]; simp; omega] at hsw
  refine hsw.mono ?_
  rintro e w5 ⟨rfl, hT5, hbut5⟩
  have B5 := Lib.hid (st_but (st_below B4.out (below_alloc w4 _)) G.out hbut5)
  clear hsw hT5 hbut5 T4 B4
  go_wp2_with fail
  refine (talive_any w5).mono ?_
  rintro e w6 ⟨rfl, hb6⟩
  have B6 := Lib.hid (st_below B5.out hb6)
  clear hb6 B5
  go_wp2_with fail
  go_ret
  exact ⟨rfl, B6.out⟩
set_option maxHeartbeats 2000000 in
set_option maxRecDepth 100000 in
theorem full_nn (w : World) (many more : Int) (n m : Nat) (h0 : 0 ≤ many) (h1 : many ≤ 4294967295) (h2 : 0 ≤ more) (h3 : more ≤ 4294967295) (hn : many.tmod 1048579 = n) (hm : more.tmod 1048579 = m) (hnb : n ≤ 1048578) (hmb : m ≤ 1048578)
    (k1 : ¬ (n : Int) ≤ 1048576) (k3 : ¬ (m : Int) ≤ 1048576) : Calls Try.prog 13 #[.int .u32 many, .int .u32 more] w (TruePost w) := by
  have HT := Lib.hid (tnew_any w)
  have hmkn := fun W => run_make_n W n (by omega)
  have hmkm := fun W => run_make_n W m (by omega)
  have dk1 := decide_eq_false k1
  have dk3 := decide_eq_false k3
  go_enter Try.func13, Try.ntmps13
  go_wp2_with fail
  refine HT.out.mono ?_
  rintro e w1 ⟨g, rfl, hT1, hb1, hg⟩
  have T1 := Lib.hid hT1
  have B1 := Lib.hid hb1
  have G := Lib.hid hg
  clear hT1 hb1 hg
  go_wp2_with fail
  have hwr := write_any _ g false (-1) [] 0 (T1.out.below (below_alloc w1 (zrow n))) _ n n (List.replicate n 0) (bs_zrow w1 n (by omega)) (by simp)
  rw [show fitsR false (-1) ([] : List Int).length (n : Nat) = (9, false, -1) by rw [fits_open]; simp; omega] at hwr
  refine hwr.mono ?_
  rintro e w2 ⟨rfl, hT2, hbut2⟩
  have T2 := Lib.hid (show TapeAt w2 g false (-1) [] 0 by simpa using hT2)
  have B2 := Lib.hid (st_but (st_below B1.out (below_alloc w1 _)) G.out hbut2)
  clear hwr hT2 hbut2 T1 B1
  go_wp2_with fail
  have hwr := write_any _ g false (-1) [] 0 (T2.out.below (below_alloc w2 (zrow m))) _ m m (List.replicate m 0) (bs_zrow w2 m (by omega)) (by simp)
  rw [show fitsR false (-1) ([] : List Int).length (m : Nat) = (9, false, -1) by rw [fits_open]; simp; omega] at hwr
  refine hwr.mono ?_
  rintro e w3 ⟨rfl, hT3, hbut3⟩
  have T3 := Lib.hid (show TapeAt w3 g false (-1) [] 0 by simpa using hT3)
  have B3 := Lib.hid (st_but (st_below B2.out (below_alloc w2 _)) G.out hbut3)
  clear hwr hT3 hbut3 T2 B2
  go_wp2_with fail
  refine (bytes_on w3 g (-1) [] 0 0 T3.out (by simp)).mono ?_
  rintro e w4 ⟨ao4, cap4, rfl, hB4, hb4⟩
  have T4 := Lib.hid (T3.out.below hb4)
  have B4 := Lib.hid (st_below B3.out hb4)
  clear hB4 hb4 T3 B3
  go_wp2_with fail
  have hsw := swap_any _ g false (-1) [] 0 (T4.out.below (below_alloc w4 (zrow m))) _ m m (List.replicate m 0) (bs_zrow w4 m (by omega)) (by simp)
  rw [show fitsR false (-1) 0 (m : Nat) = (9, false, -1) by rw [fits_open]; simp; omega] at hsw
  refine hsw.mono ?_
  rintro e w5 ⟨rfl, hT5, hbut5⟩
  have B5 := Lib.hid (st_but (st_below B4.out (below_alloc w4 _)) G.out hbut5)
  clear hsw hT5 hbut5 T4 B4
  go_wp2_with fail
  refine (talive_any w5).mono ?_
  rintro e w6 ⟨rfl, hb6⟩
  have B6 := Lib.hid (st_below B5.out hb6)
  clear hb6 B5
  go_wp2_with fail
  go_ret
  exact ⟨rfl, B6.out⟩
theorem tapeFull_any (w : World) (many more : Int) (h0 : 0 ≤ many) (h1 : many ≤ 4294967295) (h2 : 0 ≤ more) (h3 : more ≤ 4294967295) : Calls Try.prog 13 #[.int .u32 many, .int .u32 more] w (TruePost w) := by
  have a1 := Int.tmod_lt_of_pos many (show (0 : Int) < 1048579 by omega)
  have a2 := Int.tmod_lt_of_pos more (show (0 : Int) < 1048579 by omega)
  have a3 := Int.tmod_nonneg 1048579 h0
  have a4 := Int.tmod_nonneg 1048579 h2
  obtain ⟨n, hn⟩ : ∃ n : Nat, many.tmod 1048579 = n := ⟨_, (Int.toNat_of_nonneg a3).symm⟩
  obtain ⟨m, hm⟩ : ∃ m : Nat, more.tmod 1048579 = m := ⟨_, (Int.toNat_of_nonneg a4).symm⟩
  by_cases k1 : (n : Int) ≤ 1048576
  · by_cases k2 : (n : Int) + m ≤ 1048576
    · exact full_yy w many more n m h0 h1 h2 h3 hn hm (by omega) (by omega) k1 k2 (by omega)
    · by_cases k3 : (m : Int) ≤ 1048576
      · exact full_yny w many more n m h0 h1 h2 h3 hn hm (by omega) (by omega) k1 k2 k3
      · exact full_ynn w many more n m h0 h1 h2 h3 hn hm (by omega) (by omega) k1 k2 k3
  · by_cases k3 : (m : Int) ≤ 1048576
    · exact full_ny w many more n m h0 h1 h2 h3 hn hm (by omega) (by omega) k1 k3
    · exact full_nn w many more n m h0 h1 h2 h3 hn hm (by omega) (by omega) k1 k3
end Go.Proofs.Ytaniflbhkddlhaa
