/- A scene that is right. Conditions: as the document says of one. -/
import Derived.Test.YtnnkibdjbodncaaDoorUc
import Derived.Maps.OwnOps
namespace Go.Proofs.YtnnkibdjbodncaaDoor
open Go.RowKit
/-- The entries of a set, in the order in which they came. -/
def entsFrom : Nat → List Int → List MapEntry
  | _, [] => []
  | i, m :: r => { key := .int .i64 m, val := .bool true, born := i } :: entsFrom (i + 1) r
theorem entsFrom_snoc : ∀ (M : List Int) (i : Nat) (x : Int), entsFrom i (M ++ [x]) = entsFrom i M ++ [{ key := .int .i64 x, val := .bool true, born := i + M.length }]
  | [], i, x => by simp [entsFrom]
  | m :: r, i, x => by simp [entsFrom, entsFrom_snoc r (i + 1) x]; omega
def MapIs (w : World) (B : Nat) (M : List Int) : Prop := w.heap[B]? = some (.map (entsFrom 0 M).toArray M.length)
theorem find_none : ∀ (M : List Int) (i j : Nat) (x : Int), M.contains x = false → Instr.findNow (.int .i64) (.int .i64 x) (entsFrom i M) j = some none
  | [], _, _, _, _ => rfl
  | m :: r, i, j, x, h => by
    simp only [List.contains_cons, Bool.or_eq_false_iff] at h
    simp only [entsFrom, Instr.findNow, Instr.sameNow, if_true]
    rw [h.1]
    exact find_none r (i + 1) (j + 1) x h.2
theorem find_some : ∀ (M : List Int) (i j : Nat) (x : Int), M.contains x = true → ∃ n, Instr.findNow (.int .i64) (.int .i64 x) (entsFrom i M) j = some (some (n, .bool true))
  | [], _, _, _, h => by simp at h
  | m :: r, i, j, x, h => by
    simp only [entsFrom, Instr.findNow, Instr.sameNow, if_true]
    cases hx : (x == m) with
    | true => exact ⟨j, rfl⟩
    | false =>
      simp only [List.contains_cons, hx, Bool.false_or] at h
      exact find_some r (i + 1) (j + 1) x h
theorem check_int (e : Bool) (x : Int) (w : World) : (Instr.checkKey e 10000 3 (.int .i64 x)).run Tryd.prog w = .ok () w :=
  MapKept.run_checkKey Tryd.underlying3 (by simp [MapKept.IsKey]) e 9999
theorem run_lookup_set (w : World) (B : Nat) (M : List Int) (x : Int) (h : MapIs w B M) : (Instr.lookup 64 (.map (some B)) (.int .i64 x) false).run Tryd.prog w = .ok (.bool (M.contains x)) w := by
  have hz : (zeroValue 4).run Tryd.prog w = .ok (.bool false) w := by kernel_rfl
  cases hc : M.contains x with
  | false =>
    have hf := find_none M 0 0 x hc
    simp [Instr.lookup, run_underlying Tryd.underlying64, MapKept.run_getObj_map h, check_int, Instr.findKey, run_underlying Tryd.underlying3, hf, hz, Result.andThen]
  | true =>
    obtain ⟨n, hf⟩ := find_some M 0 0 x hc
    simp [Instr.lookup, run_underlying Tryd.underlying64, MapKept.run_getObj_map h, check_int, Instr.findKey, run_underlying Tryd.underlying3, hf, Result.andThen]
theorem run_update_set (w : World) (B : Nat) (M : List Int) (x : Int) (h : MapIs w B M) (hx : M.contains x = false) :
    (Instr.mapUpdate 64 (.map (some B)) (.int .i64 x) (.bool true)).run Tryd.prog w = .ok () (ChangeMaps.setBlock w B (.map (entsFrom 0 (M ++ [x])).toArray (M.length + 1))) := by
  have hf := find_none M 0 0 x hx
  have e : (entsFrom 0 M).toArray.push { key := .int .i64 x, val := .bool true, born := M.length } = (entsFrom 0 (M ++ [x])).toArray := by
    rw [entsFrom_snoc]; simp
  simp [Instr.mapUpdate, run_underlying Tryd.underlying64, MapKept.run_getObj_map h, check_int, Instr.findKey, run_underlying Tryd.underlying3, hf, Result.andThen, MapKept.run_setObj_map _ h, ChangeMaps.setBlock, e]
/-- What a new key leaves. -/
structure SetStep (w w' : World) (B : Nat) (M : List Int) : Prop where
  is : MapIs w' B M
  os : w'.os = w.os
  tape : w'.tape = w.tape
  output : w'.output = w.output
  size : w'.heap.size = w.heap.size
  block : ∀ k, k ≠ B → w'.heap[k]? = w.heap[k]?
theorem setStep_of (w : World) (B : Nat) (M : List Int) (x : Int) (h : MapIs w B M) : SetStep w (ChangeMaps.setBlock w B (.map (entsFrom 0 (M ++ [x])).toArray (M.length + 1))) B (M ++ [x]) := by
  have hlt : B < w.heap.size := (Array.getElem?_eq_some_iff.1 h).1
  refine ⟨?_, rfl, rfl, rfl, by simp [ChangeMaps.setBlock], fun k hk => ?_⟩
  · show (w.heap.setIfInBounds B _)[B]? = _
    simp [hlt]
  · show (w.heap.setIfInBounds B _)[k]? = _
    rw [Array.getElem?_setIfInBounds_ne (Ne.symm hk)]
theorem wpList_update_set (w : World) {ops : Array Oper} {rest : List Oper} {o : Oper} {a : Act} {Q : Exit → Act → World → Prop}
    (hg : o.guard = none) (m k v : Operand) (hop : o.op = Op.mapUpdate 64 m k v ∨ o.op = Op.insert 64 m k v) (B : Nat) (M : List Int) (x : Int) (hm : a.eval m = .map (some B)) (hk : a.eval k = .int .i64 x) (hv : a.eval v = .bool true)
    (h : MapIs w B M) (hx : M.contains x = false) (hK : ∀ w', SetStep w w' B (M ++ [x]) → wpList Tryd.prog ops Q rest (a.put o.dst undef) w') :
    wpList Tryd.prog ops Q (o :: rest) a w := by
  refine wpList_plain hg fun K' hK' => ?_
  have hrun := run_update_set w B M x h hx
  unfold Oper.wp
  rcases hop with hop | hop
  · simp [execOp, hop, hm, hk, hv, hrun, Result.andThen]
    exact hK' _ _ (hK _ (setStep_of w B M x h))
  · simp [execOp, hop, hm, hk, hv, hrun, Result.andThen]
    exact hK' _ _ (hK _ (setStep_of w B M x h))
theorem MapIs.lt {w : World} {B : Nat} {M : List Int} (h : MapIs w B M) : B < w.heap.size := (Array.getElem?_eq_some_iff.1 h).1
theorem MapIs.below {w w' : World} {B : Nat} {M : List Int} (h : MapIs w B M) (hb : Below w.heap.size w w') : MapIs w' B M := (hb.block B h.lt).trans h
theorem MapIs.alloc {w : World} {B : Nat} {M : List Int} (h : MapIs w B M) (o : Obj) : MapIs (w.alloc o) B M := h.below ((Below.refl _ _).alloc (Nat.le_refl _) o)
theorem grown_of_below {w w' : World} (hb : Below w.heap.size w w') : w.grownBy w' none := ⟨hb.os, hb.tape, hb.output, hb.size, fun k hk _ => hb.block k hk⟩
/-- A run behind a pointer. -/
def RuB (w : World) (X : Nat) (r : Ru) : Prop := w.heap[X]? = some (.cells #[.int .u64 r.1, .int .u64 0, .int .u64 0, .int .u64 0, .int .i64 r.2] 37)
theorem RuB.cells {w : World} {X : Nat} {r : Ru} (h : RuB w X r) :
    w.cell? ⟨X, 0, none⟩ = some (.int .u64 r.1) ∧ w.cell? ⟨X, 1, none⟩ = some (.int .u64 0) ∧ w.cell? ⟨X, 2, none⟩ = some (.int .u64 0) ∧ w.cell? ⟨X, 3, none⟩ = some (.int .u64 0) ∧ w.cell? ⟨X, 4, none⟩ = some (.int .i64 r.2) := by
  unfold RuB at h
  simp [World.cell?, h]
theorem RuB.below {w w' : World} {X : Nat} {r : Ru} (h : RuB w X r) (hb : Below w.heap.size w w') : RuB w' X r := by
  unfold RuB at *
  rw [hb.block X (Array.getElem?_eq_some_iff.1 h).1]; exact h
/-- What Right asks of a scene. -/
structure RightSc (u : Nat) (now : Int) (rs : List Ru) (ws : List Wi) : Prop where
  sc : Sc u now rs
  now0 : 0 ≤ now
  nowH : now ≤ 1099511627776
  few : rs.length ≤ 256
  ends : ∀ r ∈ rs, r.2 ≤ 1099511627776
  fewW : ws.length ≤ 1024
  ids : ws.Pairwise fun a b => a.id ≠ b.id
  wish : ∀ x ∈ ws, 1 ≤ x.id ∧ x.id ≤ 1000000 ∧ 1 ≤ x.n ∧ x.n ≤ 256 ∧ 1 ≤ x.long ∧ x.long ≤ 1048576 ∧ x.of < 256
theorem below_set {N : Nat} {w0 w w' : World} {B : Nat} {M : List Int} (h : Below N w0 w) (hs : SetStep w w' B M) (hB : N ≤ B) : Below N w0 w' :=
  h.trans ⟨hs.os, hs.tape, hs.output, Nat.le_of_eq hs.size.symm, fun k hk => hs.block k (by omega)⟩
theorem four_below' {N : Nat} {w0 w : World} {g : Nat} {y0 y1 y2 y3 : Value} (h : Below N w0 w) (hg : N ≤ g) : Below N w0 ((((w.setCell ⟨g, 0, none⟩ y0).setCell ⟨g, 1, none⟩ y1).setCell ⟨g, 2, none⟩ y2).setCell ⟨g, 3, none⟩ y3) :=
  (((h.setCell hg _).setCell hg _).setCell hg _).setCell hg _
theorem sub_left {u : Nat} (hu : u < 256) {now : Int} {rs : List Ru} (hs : Sc u now rs) {k : Nat} {r : Ru} (hr : rs[k]? = some r) : SubS r.1 (runF u (rs.take k) now) := by
  obtain ⟨h, _⟩ := take_run hu hs hr
  intro i hi
  have := h i hi
  rw [bit_inter] at this
  have h1 := hs.ends r (List.mem_of_getElem? hr)
  have := this.2 0 (by omega)
  simpa using this
theorem left_step {u : Nat} {now : Int} {rs : List Ru} (hs : Sc u now rs) {k : Nat} {r : Ru} (hr : rs[k]? = some r) : minus (runF u (rs.take k) now) r.1 = runF u (rs.take (k + 1)) now := by
  rw [List.take_add_one, hr]
  simp only [Option.toList_some]
  rw [runF_snoc, if_pos (hs.ends r (List.mem_of_getElem? hr))]
theorem not_met {ws : List Wi} (h : ws.Pairwise fun a b => a.id ≠ b.id) {k : Nat} {x : Wi} (hx : ws[k]? = some x) : ((ws.take k).map fun y => (y.id : Int)).contains (x.id : Int) = false := by
  cases hc : ((ws.take k).map fun y => (y.id : Int)).contains (x.id : Int) with
  | false => rfl
  | true =>
    rw [List.contains_iff_mem] at hc
    obtain ⟨y, hy, he⟩ := List.mem_map.1 hc
    obtain ⟨a, ha⟩ := List.mem_iff_getElem?.1 hy
    rw [List.getElem?_take] at ha
    split at ha
    · obtain ⟨h1, rfl⟩ := List.getElem?_eq_some_iff.1 ha
      obtain ⟨h2, rfl⟩ := List.getElem?_eq_some_iff.1 hx
      have := List.pairwise_iff_getElem.1 h a k h1 h2 (by omega)
      omega
    · cases ha
set_option maxHeartbeats 8000000 in
theorem right_any {w : World} {u : Nat} {now : Int} {rs : List Ru} {ws : List Wi} {vr vp : Value} (hu : u < 256) (hR : RightSc u now rs ws) (hr : Reads 5 ruC w vr rs) (hw : Reads 7 wiC w vp ws) :
    Calls Tryd.prog 11 #[.agg #[.int .i64 now, .int .u64 u, .int .u64 0, .int .u64 0, .int .u64 0, vr, vp]] w (BoolPost w true) := by
  obtain ⟨ao, cap, rfl, hcap, hcell⟩ := hr
  obtain ⟨ao2, cap2, rfl, hcap2, hcell2⟩ := hw
  have hn := hR.few
  have hm := hR.fewW
  have h0 := hR.now0
  have hH := hR.nowH
  obtain ⟨n, hnn⟩ : ∃ n, rs.length = n := ⟨_, rfl⟩
  obtain ⟨m, hmm⟩ : ∃ m, ws.length = m := ⟨_, rfl⟩
  have HNN := Lib.hid hnn
  have HMM := Lib.hid hmm
  rw [hnn] at hn hcap ⊢
  rw [hmm] at hm hcap2 ⊢
  have hX : ScB (w.alloc (.cells #[.int .i64 now, .int .u64 u, .int .u64 0, .int .u64 0, .int .u64 0, .slice ao n cap, .slice ao2 m cap2] 32)) w.heap.size now u (.slice ao n cap) (.slice ao2 m cap2) := heap_alloc_new w _
  have hB1 := below_alloc' w (.cells #[.int .i64 now, .int .u64 u, .int .u64 0, .int .u64 0, .int .u64 0, .slice ao n cap, .slice ao2 m cap2] 32)
  have HX := Lib.hid hX
  have HB1 := Lib.hid hB1
  have HR := Lib.hid hR
  have HC := Lib.hid hcell
  have HC2 := Lib.hid hcell2
  obtain ⟨x0, x1, x2, x3, x4, x5, x6⟩ := hX.cells
  have hsz : (w.alloc (.cells #[.int .i64 now, .int .u64 u, .int .u64 0, .int .u64 0, .int .u64 0, .slice ao n cap, .slice ao2 m cap2] 32)).heap.size = w.heap.size + 1 := by simp
  have q1 : ¬ (256 : Int) < (n : Int) := by omega
  have q2 : ¬ (1024 : Int) < (m : Int) := by omega
  clear hX hB1 hcell hcell2 hnn hmm hR
  go_enter Tryd.func11, Tryd.ntmps11
  go_wp2_with (go_at_call 16; refine (isTime_any now _ h0 hH).mono ?_; rintro e w2 ⟨rfl, rfl⟩)
  have hB2 := hsz
  have hL0 : Blk4 ((w.alloc (.cells #[.int .i64 now, .int .u64 u, .int .u64 0, .int .u64 0, .int .u64 0, .slice ao n cap, .slice ao2 m cap2] 32)).alloc (.cells #[.int .u64 u, .int .u64 0, .int .u64 0, .int .u64 0] 28)) (w.heap.size + 1) u 0 0 0 := by rw [← hsz]; exact heap_alloc_new _ _
  generalize w.alloc (.cells #[.int .i64 now, .int .u64 u, .int .u64 0, .int .u64 0, .int .u64 0, .slice ao n cap, .slice ao2 m cap2] 32) = w1 at *
  have HSZ := Lib.hid hsz
  have HL0 := Lib.hid hL0
  have g28 := guard28
  have q28 := fun x y w => equal28 x y w
  have h00 : bits .andNot .u64 0 0 = 0 := by decide
  have hmk := @run_makeMap Tryd.prog
  clear hsz hB2 hL0 x0 x1 x2 x3 x4 x5 x6
  go_loopw [30] (fun i wr => ∃ k : Nat, i = .int .i64 k ∧ k ≤ n ∧ Blk4 wr (w.heap.size + 1) (runF u (rs.take k) now : Nat) 0 0 0 ∧ Below (w.heap.size + 1) w1 wr) (fun i _ => n - (intOf i).toNat)
  case atStart => exact ⟨0, rfl, Nat.zero_le _, HL0.out, (Below.refl _ _).alloc (by rw [HSZ.out]; exact Nat.le_refl _) _⟩
  case round =>
    obtain ⟨k, rfl, hk, hleft, hbel⟩ := hrel
    have HLF := Lib.hid hleft
    have HBL := Lib.hid hbel
    have hX : ScB wr w.heap.size now u (.slice ao n cap) (.slice ao2 m cap2) := by unfold ScB; rw [hbel.block _ (by omega)]; exact HX.out
    have HXR := Lib.hid hX
    clear hX hleft hbel
    by_cases hlt : k < n
    · obtain ⟨r, hr⟩ : ∃ r, rs[k]? = some r := ⟨rs[k]'(by have := HNN.out; omega), List.getElem?_eq_getElem (by have := HNN.out; omega)⟩
      obtain ⟨gr, rfl, hgr, hcr⟩ := HC.out k r hr
      obtain ⟨c0, c1, c2, c3, c4⟩ := ru_cells (w := wr) (g := gr) (i := k) (r := r) (fun j v hj => by
        rw [HBL.out.cell (p := ⟨gr, _, none⟩) (show gr < w.heap.size + 1 by omega), HB1.out.cell (p := ⟨gr, _, none⟩) hgr]; exact hcr j v hj)
      have hrm := List.mem_of_getElem? hr
      have hre := HR.out.sc.ends r hrm
      have hrH := HR.out.ends r hrm
      have hrs := HR.out.sc.small r hrm
      have hsub := sub_left hu HR.out.sc hr
      have hstep := left_step HR.out.sc hr
      obtain ⟨L, hL⟩ : ∃ L, runF u (rs.take k) now = L := ⟨_, rfl⟩
      have hLs : L < 256 := by rw [← hL]; exact runF_lt hu (fun q hq => HR.out.sc.small q (List.mem_of_mem_take hq)) now
      rw [hL] at HLF hsub hstep
      have z1 : bits .andNot .u64 (r.1 : Int) (L : Int) = 0 := andNot_zero hrs hLs hsub
      have z2 : bits .andNot .u64 (L : Int) (r.1 : Int) = (runF u (rs.take (k + 1)) now : Nat) := by rw [u64_andNot_nat _ _ (by omega) (by omega), ← hstep]; rfl
      have r0 : (0 : Int) ≤ r.2 := by omega
      have hlW := HLF.out.below (below_alloc' wr (.cells #[.int .u64 r.1, .int .u64 0, .int .u64 0, .int .u64 0, .int .i64 r.2] 37))
      have HLW := Lib.hid hlW
      have HBW := Lib.hid (HBL.out.alloc (by have := HBL.out.size; have := HSZ.out; omega) (.cells #[.int .u64 r.1, .int .u64 0, .int .u64 0, .int .u64 0, .int .i64 r.2] 37))
      have hRW : (wr.alloc (.cells #[.int .u64 r.1, .int .u64 0, .int .u64 0, .int .u64 0, .int .i64 r.2] 37)).heap[wr.heap.size]? = _ := heap_alloc_new wr _
      obtain ⟨l0, l1, l2, l3⟩ := hlW.cells
      have HRW := Lib.hid (show RuB _ wr.heap.size r from hRW)
      have HSZ2 := Lib.hid (show w.heap.size + 1 ≤ w1.heap.size by rw [HSZ.out]; exact Nat.le_refl _)
      have HSX := Lib.hid (show w.heap.size + 1 ≤ (wr.alloc (.cells #[.int .u64 r.1, .int .u64 0, .int .u64 0, .int .u64 0, .int .i64 r.2] 37)).heap.size by have := HBL.out.size; have := HSZ.out; simp; omega)
      clear hrm hr hcr hsub hstep hL hlW hRW
      go_wp2_with (first
        | (go_at_call 16; refine (isTime_any r.2 _ r0 hrH).mono ?_; rintro e w2 ⟨rfl, rfl⟩)
        | (go_at_call 6; refine (not_any _ _ _ _ _ _ _ _ _).mono ?_; rintro e w3 ⟨rfl, hb3⟩; rw [setV_four, h00, z1]; have hL3 := HLW.out.below hb3; have HL3 := Lib.hid hL3; have hR3 := HRW.out.below hb3; have HB3 := Lib.hid (HBW.out.trans (hb3.mono HSX.out)); obtain ⟨l0, l1, l2, l3⟩ := hL3.cells; obtain ⟨e0, e1, e2, e3, e4⟩ := hR3.cells; clear hb3 hL3 hR3 HLW)
        | (go_at_call 6; refine (not_any _ _ _ _ _ _ _ _ _).mono ?_; rintro e w4 ⟨rfl, hb4⟩; rw [setV_four, h00, z2]; have hL4 := HL3.out.below hb4; have HL4 := Lib.hid hL4; have HB4 := Lib.hid (HB3.out.trans (hb4.mono (Nat.le_trans HSZ2.out HB3.out.size))); obtain ⟨l0, l1, l2, l3⟩ := hL4.cells; have fl := hL4.frozen; clear hb4 hL4))
      exact ⟨⟨k + 1, by go_num, by omega, four_set HL4.out, four_below' HB4.out (by omega)⟩, by simp only [intOf]; omega⟩
    · obtain rfl : k = n := by omega
      obtain ⟨x0, x1, x2, x3, x4, x5, x6⟩ := HXR.out.cells
      have hXm := HXR.out.below (below_alloc' wr (.map #[] 0))
      obtain ⟨m0, m1, m2, m3, m4, m5, m6⟩ := hXm.cells
      have hM0 : MapIs (wr.alloc (.map #[] 0)) wr.heap.size [] := heap_alloc_new wr _
      have HM0 := Lib.hid hM0
      have HBM := Lib.hid (HBL.out.alloc (by have := HBL.out.size; have := HSZ.out; omega) (.map #[] 0))
      have HGE := Lib.hid (show w.heap.size + 1 ≤ wr.heap.size by have := HBL.out.size; have := HSZ.out; omega)
      clear hXm hM0
      go_wp2_with fail
      clear x0 x1 x2 x3 x4 x5 x6 m0 m1 m2 m3 m4 m5 m6 hmk q28 g28
      generalize hBW : wr.heap.size = B at *
      go_loopw [55] (fun i wr => ∃ j : Nat, i = .int .i64 j ∧ j ≤ m ∧ MapIs wr B ((ws.take j).map fun y => (y.id : Int)) ∧ Below (w.heap.size + 1) w1 wr) (fun i _ => m - (intOf i).toNat)
      case atStart => exact ⟨0, rfl, Nat.zero_le _, HM0.out, HBM.out⟩
      case round =>
        obtain ⟨j, rfl, hj, hmap, hbel⟩ := hrel
        have HMP := Lib.hid hmap
        have HBQ := Lib.hid hbel
        clear hmap hbel
        by_cases hjm : j < m
        · obtain ⟨x, hx⟩ : ∃ x, ws[j]? = some x := ⟨ws[j]'(by have := HMM.out; omega), List.getElem?_eq_getElem (by have := HMM.out; omega)⟩
          obtain ⟨gr, rfl, hgr, hcr⟩ := HC2.out j x hx
          obtain ⟨c0, c1, c2, c3, c4, c5, c6⟩ := wi_cells (w := wr) (g := gr) (i := j) (r := x) (fun i v hi => by
            rw [HBQ.out.cell (p := ⟨gr, _, none⟩) (show gr < w.heap.size + 1 by omega), HB1.out.cell (p := ⟨gr, _, none⟩) hgr]; exact hcr i v hi)
          obtain ⟨i1, i2, n1, n2, l1, l2, o1⟩ := HR.out.wish x (List.mem_of_getElem? hx)
          have hmet := not_met HR.out.ids hx
          have hcl : ((ws.take (j + 1)).map fun y => (y.id : Int)) = ((ws.take j).map fun y => (y.id : Int)) ++ [(x.id : Int)] := by
            rw [List.take_add_one, hx]; simp
          obtain ⟨M, hM⟩ : ∃ M, ((ws.take j).map fun y => (y.id : Int)) = M := ⟨_, rfl⟩
          rw [hM] at HMP hmet hcl
          have hmW := HMP.out.alloc (.cells #[.int .i64 x.id, .int .i64 x.n, .int .i64 x.long, .int .u64 x.of, .int .u64 0, .int .u64 0, .int .u64 0] 41)
          have hlk := run_lookup_set _ _ _ (x.id : Int) hmW
          rw [hmet] at hlk
          have HMW := Lib.hid hmW
          have HCL := Lib.hid hcl
          have HMET := Lib.hid hmet
          have HBW2 := Lib.hid (HBQ.out.alloc (by have := HBQ.out.size; have := HSZ.out; omega) (.cells #[.int .i64 x.id, .int .i64 x.n, .int .i64 x.long, .int .u64 x.of, .int .u64 0, .int .u64 0, .int .u64 0] 41))
          have t1 : ¬ (x.id : Int) < 1 := by omega
          have t2 : ¬ (x.n : Int) < 1 := by omega
          have t3 : ¬ (256 : Int) < (x.n : Int) := by omega
          have t4 : ¬ (x.long : Int) < 1 := by omega
          have t5 : ¬ (1048576 : Int) < (x.long : Int) := by omega
          clear hmW hcl hmet hM hx hcr
          go_wp2_with (at_mapUpdate; refine wpList_update_set _ rfl _ _ _ (.inl rfl) B M (x.id : Int) rfl rfl rfl HMW.out HMET.out ?_)
          intro w5 hs5
          have HS5 := Lib.hid hs5
          clear hs5
          go_wp2_with fail
          exact ⟨⟨j + 1, by go_num, by omega, by rw [HCL.out]; exact HS5.out.is, below_set HBW2.out HS5.out HGE.out⟩, by simp only [intOf]; omega⟩
        · obtain rfl : j = m := by omega
          go_wp2_with fail
          go_ret
          exact ⟨rfl, HB1.out.trans (HBQ.out.mono (by omega))⟩
end Go.Proofs.YtnnkibdjbodncaaDoor
