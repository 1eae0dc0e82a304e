/- Contracts of the document's tape: Start, Bytes, Records, New. No condition. -/
import Derived.Test.YtaniflbhkddlhaaRa
import Derived.Laws.IdiomStrings
namespace Go.Proofs.Ytaniflbhkddlhaa
open Go.RowKit
theorem run_str_cut (W : World) (s : ByteArray) (d : Nat) (hd : d ≤ s.size) : (Instr.sliceAt 9 (.string s) none (some (.int .i64 d)) none).run Try.prog W = .ok (.string (s.extract 0 d)) W := by
  rw [run_sliceAt_string (P := Try.prog) W 9 (.string s) none _ none Try.underlying9]
  have h1 : (0 : Int) ≤ d ∧ (d : Int) ≤ (s.size : Int) := ⟨by omega, by omega⟩
  simp [Instr.slice, Instr.sliceBounds, Instr.sliceBound, asIntOf, run_underlying Try.underlying9]
  intro hc
  omega
theorem run_str_cut' (W : World) (s : ByteArray) (d : Nat) (hd : d ≤ s.size) : (Instr.slice 9 (.string s) none (some (.int .i64 d)) none).run Try.prog W = .ok (.string (s.extract 0 d)) W := by
  rw [← run_sliceAt_string (P := Try.prog) W 9 (.string s) none _ none Try.underlying9]
  exact run_str_cut W s d hd
theorem conv_str (W : World) (l : List Int) (hl : Byte l) (hlen : l.length ≤ 1048576) :
    ∃ cap W', (convert 9 22 (.string (strOfNums l))).run Try.prog W = .ok (.slice (some ⟨W.heap.size, 0, none⟩) l.length cap) W' ∧ Bs W' (some ⟨W.heap.size, 0, none⟩) cap l ∧ Below W.heap.size W W' := by
  have hrun := run_bytes_of_string (P := Try.prog) W 9 22 5 (strOfNums l) Try.underlying9 Try.underlying22 Try.underlying5
  rw [strOfNums_size] at hrun
  have hge := grownCap_ge W l.length 0 5
  have hle := grownCap_le_maxLen W l.length 0 5 (by unfold maxLen; omega)
  refine ⟨_, _, hrun, ⟨fun i hi => ⟨_, _, rfl, ?_⟩, hge, hle, (fun h => by cases h), hl⟩, (Below.refl _ _).drew.alloc (Nat.le_refl _) _⟩
  have hb := hl (l.getD i 0) (by simp [List.getD, hi])
  have e : ∀ (o : Obj), (W.drew.alloc o).heap[W.heap.size]? = some o := fun o => heap_alloc_new W.drew o
  simp only [World.cell?, e, Nat.zero_add, bytesRow, Option.isSome_none, Bool.false_eq_true, if_false]
  rw [Array.getElem?_append_left (by simp [strOfNums]; exact hi)]
  simp only [strOfNums, List.map_toArray, List.getElem?_toArray, List.getElem?_map]
  have hg : l[i]? = some (l.getD i 0) := by simp [List.getD, hi]
  rw [hg]
  simp only [Option.map_some]
  congr 2
  simp only [UInt8.toNat_ofNat']
  omega
set_option maxHeartbeats 1000000 in
set_option maxRecDepth 100000 in
theorem rbytes_on (w : World) (h : Nat) (fuse : Int) (b : List Int) (k n : Nat) (H0 : RefAt w h false fuse b k) (hn : b.length = n) :
    Calls Try.prog 41 #[.pointer (some ⟨h, 0, none⟩)] w (BytesPost w b n 0) := by
  have hl := H0.len
  obtain ⟨c0, c1, c2, c3⟩ := H0.blk.cells
  have hs1 : (strOfNums (b.take k)).size ≤ 1048576 := by rw [strOfNums_size]; simp; omega
  have hs2 : (strOfNums (b.drop k)).size ≤ 1048576 := by rw [strOfNums_size]; simp; omega
  have HE : strOfNums (b.take k) ++ strOfNums (b.drop k) = strOfNums b := by rw [str_app, List.take_append_drop]
  obtain ⟨cap, W', hrun, hB, hbl⟩ := conv_str w.drew b H0.byte hl
  rw [hn, show w.drew.heap.size = w.heap.size from rfl] at hrun
  rw [show w.drew.heap.size = w.heap.size from rfl] at hB
  rw [← HE] at hrun
  generalize strOfNums (b.take k) = s1 at *
  generalize strOfNums (b.drop k) = s2 at *
  have hadd := fun W => run_string_add (P := Try.prog) W s1 s2 (by omega) (by omega)
  have HB := Lib.hid hB
  have HL := Lib.hid ((below_drew w).trans hbl)
  clear H0 hn HE hB hbl
  go_enter Try.func41, Try.ntmps41
  go_wp2_with fail
  go_still_tail 9, (by kernel_rfl)
  change wpList _ _ _ _ _ w.drew
  go_wp2_with fail
  go_ret2
  exact ⟨_, cap, rfl, HB.out, HL.out⟩
theorem rbytes_off (w : World) (h : Nat) (fuse : Int) (b : List Int) (k : Nat) (H0 : RefAt w h true fuse b k) :
    Calls Try.prog 41 #[.pointer (some ⟨h, 0, none⟩)] w (BytesPost w [] 0 10) := by
  obtain ⟨c0, c1, c2, c3⟩ := H0.blk.cells
  generalize strOfNums (b.take k) = s1 at *
  generalize strOfNums (b.drop k) = s2 at *
  clear H0
  go_enter Try.func41, Try.ntmps41
  go_wp2_with fail
  go_ret2
  exact ⟨none, 0, rfl, bs_nil _, Below.refl _ _⟩
theorem rrecords_on (w : World) (h : Nat) (fuse : Int) (b : List Int) (k : Nat) (H0 : RefAt w h false fuse b k) :
    Calls Try.prog 42 #[.pointer (some ⟨h, 0, none⟩)] w (RecPost w (allL b).1 0) := by
  have hl := H0.len
  have HB := Lib.hid (rbytes_on w h fuse b k _ H0 rfl)
  obtain ⟨n, hn⟩ : ∃ n, b.length = n := ⟨_, rfl⟩
  have HN := Lib.hid hn
  rw [hn] at HB hl
  clear H0 hn
  obtain ⟨r, hr⟩ : ∃ r, allL b = r := ⟨_, rfl⟩
  have HR := Lib.hid hr
  rw [hr]
  clear hr
  go_enter Try.func42, Try.ntmps42
  go_wp2_with fail
  refine HB.out.mono ?_
  rintro e w1 ⟨ao, cap, rfl, hB, hb1⟩
  have hA := refAll_any ao cap n b w1 hB HN.out (by omega)
  rw [HR.out] at hA
  have HA := Lib.hid hA
  have B1 := Lib.hid hb1
  clear hA hB hb1
  go_wp2_with fail
  refine HA.out.mono ?_
  rintro e w2 ⟨v, rfl, hv, hb2⟩
  have V2 := Lib.hid (hv.mono B1.out.size)
  have B2 := Lib.hid (B1.out.trans (hb2.mono B1.out.size))
  clear hv hb2 HA
  go_wp2_with fail
  go_ret2
  exact ⟨v, rfl, V2.out, B2.out⟩
theorem rrecords_off (w : World) (h : Nat) (fuse : Int) (b : List Int) (k : Nat) (H0 : RefAt w h true fuse b k) :
    Calls Try.prog 42 #[.pointer (some ⟨h, 0, none⟩)] w (RecPost w [] 10) := by
  have HB := Lib.hid (rbytes_off w h fuse b k H0)
  clear H0
  go_enter Try.func42, Try.ntmps42
  go_wp2_with fail
  refine HB.out.mono ?_
  rintro e w1 ⟨ao, cap, rfl, hB, hb1⟩
  have B1 := Lib.hid hb1
  clear hB hb1
  go_wp2_with fail
  go_ret2
  exact ⟨_, rfl, OwnR.nil _ _, B1.out⟩
def RNewPost (w : World) (e : Ending) (w' : World) : Prop := e = .returned (.agg #[.string (strOfNums []), .string (strOfNums []), .int .i64 (-1), .bool false]) ∧ Below w.heap.size w w'
theorem rnew_any (w : World) : Calls Try.prog 36 #[] w (RNewPost w) := by
  go_enter Try.func36, Try.ntmps36
  go_wp2_with fail
  refine bodyPost_ret (v := .agg #[.string ⟨#[]⟩, .string ⟨#[]⟩, .int .i64 (-1), .bool false]) (by simp [results, Try.results36, go_sem]) rfl ⟨rfl, below_alloc _ _⟩
theorem rstart_fin {w : World} {h : Nat} {fuse : Int} {b : List Int} {k d : Nat} {s1 s2 : ByteArray} (H : RefBlk w h s1 s2 fuse true) (e1 : strOfNums (b.take k) = s1) (e2 : strOfNums (b.drop k) = s2) (hb : Byte b) (hl : b.length ≤ 1048576) (_ : k ≤ b.length) (hd : k + d ≤ b.length) :
    RCall w h 0 false (-1) (b.take (k + d)) (k + d) (.returned (.int .i64 0)) ((((w.drew.setCell ⟨h, 0, none⟩ (.string (s1 ++ s2.extract 0 d))).setCell ⟨h, 1, none⟩ (.string ⟨#[]⟩)).setCell ⟨h, 3, none⟩ (.bool false)).setCell ⟨h, 2, none⟩ (.int .i64 (-1))) := by
  refine ⟨rfl, ⟨?_, hb.take _, by omega, by omega, by simp; omega, by simp; omega⟩, (But.drew h w).trans ((((But.setCell h _ 0 _).trans (But.setCell h _ 1 _)).trans (But.setCell h _ 3 _)).trans (But.setCell h _ 2 _))⟩
  have q1 : strOfNums ((b.take (k + d)).take (k + d)) = s1 ++ s2.extract 0 d := by
    rw [← e1, ← e2, str_cut, str_app, List.take_take, Nat.min_self, List.take_add]
  have q2 : strOfNums ((b.take (k + d)).drop (k + d)) = ⟨#[]⟩ := by
    rw [List.drop_of_length_le (by rw [List.length_take]; omega)]; rfl
  rw [q1, q2]
  exact (((RefBlk.set0 (show RefBlk w.drew h s1 s2 fuse true from H) _).set1 _).set3 _).set2 _
set_option maxHeartbeats 2000000 in
set_option maxRecDepth 100000 in
theorem rstart_off (w : World) (h : Nat) (fuse : Int) (b : List Int) (k n : Nat) (keep : Int) (H0 : RefAt w h true fuse b k) (hn : b.length = n) :
    Calls Try.prog 57 #[.pointer (some ⟨h, 0, none⟩), .int .i64 keep] w (RCall w h 0 false (-1) (b.take (k + addK keep (n - k))) (k + addK keep (n - k))) := by
  obtain ⟨hb, h1, h2, h3, h4, h5⟩ := H0
  obtain ⟨c0, c1, c2, c3⟩ := hb.cells
  have f0 := hb.frozen 0
  have f1 := hb.frozen 1
  have f2 := hb.frozen 2
  have f3 := hb.frozen 3
  have hs1 : (strOfNums (b.take k)).size ≤ 1048576 := by rw [strOfNums_size]; simp; omega
  have hs2 : (strOfNums (b.drop k)).size = n - k := by rw [strOfNums_size]; simp; omega
  obtain ⟨s1, q1⟩ : ∃ s1, strOfNums (b.take k) = s1 := ⟨_, rfl⟩
  obtain ⟨s2, q2⟩ : ∃ s2, strOfNums (b.drop k) = s2 := ⟨_, rfl⟩
  have E1 := Lib.hid q1
  have E2 := Lib.hid q2
  rw [q1] at c0 hs1
  rw [q2] at c1 hs2
  have HB := Lib.hid (show RefBlk w h s1 s2 fuse true by rw [← q1, ← q2]; exact hb)
  have HBY := Lib.hid h1
  have HN := Lib.hid hn
  obtain ⟨n2, hn2⟩ : ∃ n2, n - k = n2 := ⟨_, rfl⟩
  have hkn : k + n2 ≤ b.length := by omega
  have HKN := Lib.hid hkn
  have H4 := Lib.hid h4
  have H5 := Lib.hid h5
  have hn9 : n2 ≤ 1048576 := by omega
  rw [hn2] at hs2 ⊢
  have hcut := fun W d (hd : d ≤ s2.size) => run_str_cut W s2 d hd
  have hcut' := fun W d (hd : d ≤ s2.size) => run_str_cut' W s2 d hd
  have hsz : ∀ d, (s2.extract 0 d).size ≤ 1048576 := fun d => by rw [ByteArray.size_extract]; omega
  have hadd := fun W d => run_string_add (P := Try.prog) W s1 (s2.extract 0 d) (by omega) (by have := hsz d; omega)
  clear hb h1 q1 q2 hn hkn hsz h4 h5
  by_cases e1 : keep < 0
  · rw [show addK keep n2 = 0 by unfold addK; rw [if_pos e1]]
    have m1 : (keep < 0) = True := eq_true e1
    have m2 : ((n2 : Int) < 0) = False := eq_false (by omega)
    have hc0 := fun W => hcut W 0 (Nat.zero_le _)
    have hc1 := fun W => hcut' W 0 (Nat.zero_le _)
    simp only [Int.natCast_zero] at hc0 hc1
    have he : s2.extract 0 0 = ByteArray.empty := by apply ByteArray.ext; simp
    have hadd0 := fun W => hadd W 0
    rw [he] at hadd0
    have hsn : s1 ++ ByteArray.empty = s1 := by apply ByteArray.ext; simp
    rw [hsn] at hadd0
    have hfin := rstart_fin (d := 0) HB.out E1.out E2.out HBY.out H4.out H5.out (by have := HKN.out; omega)
    rw [he, hsn] at hfin
    have HFIN := Lib.hid hfin
    clear e1 hcut hcut' he hsn hfin hadd
    go_enter Try.func57, Try.ntmps57
    go_wp2_with fail
    go_still_tail 11, (by kernel_rfl)
    change wpList _ _ _ _ _ w.drew
    go_wp2_with fail
    go_ret
    exact HFIN.out
  · by_cases e2 : keep < n2
    · obtain ⟨d, rfl⟩ : ∃ d : Nat, keep = d := ⟨keep.toNat, by omega⟩
      rw [show addK (d : Int) n2 = d by unfold addK; rw [if_neg e1, if_pos e2]; omega]
      have m1 : ((d : Int) < 0) = False := eq_false e1
      have m2 : ((n2 : Int) < (d : Int)) = False := eq_false (by omega)
      have hc0 := fun W => hcut W d (by omega)
      have hc1 := fun W => hcut' W d (by omega)
      have hdn : d < n2 := by omega
      have HD := Lib.hid hdn
      clear e1 e2 hcut hcut' hdn
      go_enter Try.func57, Try.ntmps57
      go_wp2_with fail
      go_still_tail 11, (by kernel_rfl)
      change wpList _ _ _ _ _ w.drew
      go_wp2_with fail
      go_ret
      exact rstart_fin HB.out E1.out E2.out HBY.out H4.out H5.out (by have := HKN.out; have := HD.out; omega)
    · rw [show addK keep n2 = n2 by unfold addK; rw [if_neg e1, if_neg e2]]
      have m1 : (keep < 0) = False := eq_false e1
      have hc0 := fun W => hcut W n2 (by omega)
      have hc1 := fun W => hcut' W n2 (by omega)
      by_cases e3 : (n2 : Int) < keep
      · have m2 : ((n2 : Int) < keep) = True := eq_true e3
        clear e1 e2 e3 hcut hcut'
        go_enter Try.func57, Try.ntmps57
        go_wp2_with fail
        go_still_tail 11, (by kernel_rfl)
        change wpList _ _ _ _ _ w.drew
        go_wp2_with fail
        go_ret
        exact rstart_fin HB.out E1.out E2.out HBY.out H4.out H5.out HKN.out
      · obtain rfl : keep = (n2 : Int) := by omega
        clear e1 e2 e3 hcut hcut'
        go_enter Try.func57, Try.ntmps57
        go_wp2_with fail
        go_still_tail 11, (by kernel_rfl)
        change wpList _ _ _ _ _ w.drew
        go_wp2_with fail
        go_ret
        exact rstart_fin HB.out E1.out E2.out HBY.out H4.out H5.out HKN.out
end Go.Proofs.Ytaniflbhkddlhaa
