/- The statement's own code: the walk. No condition. -/
import Derived.Test.YtnnkibdjbodncaaDoorX
namespace Go.Proofs.YtnnkibdjbodncaaDoor
open Go.RowKit
set_option maxHeartbeats 64000000 in
set_option maxRecDepth 1000000 in
theorem top_any {w : World} (hT : Tab w) (now : Nat) (hnow : now < 65536) {vr vp : Value} {bs : List (Nat × Nat)} {xs : List (Nat × Nat × Nat)} (hr : ReadsO 2 buC w vr bs) (hp : ReadsO 3 wsC w vp xs) (hbs : ∀ b ∈ bs, b.1 < 256 ∧ b.2 < 256) (hxs : ∀ x ∈ xs, x.1 < 256 ∧ x.2.1 < 256 ∧ x.2.2 < 256)
    (hn1 : bs.length ≤ 9223372036854775807) (hn2 : xs.length ≤ 9223372036854775807) :
    Calls Tryd.prog 3 #[.int .u16 now, vr, vp] w (BoolPost w true) := by
  obtain ⟨ao, cap, rfl, hcap, hcell⟩ := hr
  obtain ⟨ao2, cap2, rfl, hcap2, hcell2⟩ := hp
  have HP := Lib.hid (passes_any hT)
  obtain ⟨n, hn⟩ : ∃ n, bs.length = n := ⟨_, rfl⟩
  obtain ⟨n2, hn'⟩ : ∃ n, xs.length = n := ⟨_, rfl⟩
  obtain ⟨m, hm⟩ : ∃ m, min n 6 = m := ⟨_, rfl⟩
  obtain ⟨m2, hm2⟩ : ∃ m, min n2 8 = m := ⟨_, rfl⟩
  have HN := Lib.hid hn
  have HN2 := Lib.hid hn'
  have HM := Lib.hid hm
  have HM2 := Lib.hid hm2
  rw [hn] at hcap hn1 ⊢
  rw [hn'] at hcap2 hn2 ⊢
  have HC := Lib.hid hcell
  have HC2 := Lib.hid hcell2
  have HTAB := Lib.hid hT
  have q1 : (if (6 : Int) < (n : Int) then (6 : Int) else (n : Int)) = (m : Int) := by split <;> omega
  have q2 : (if (8 : Int) < (n2 : Int) then (8 : Int) else (n2 : Int)) = (m2 : Int) := by split <;> omega
  have q3 := fun w => run_cut (t := 23) Tryd.underlying23 size34 ao n cap m (by omega) w
  have q4 := fun w => run_cut (t := 24) Tryd.underlying24 size39 ao2 n2 cap2 m2 (by omega) w
  have q5 : IntKind.i64.wrap (now : Int) = (now : Int) := IntWalk.i64_in _ (by omega)
  clear hcell hcell2 hn hn' hm hm2 hT
  go_enter Tryd.func3, Tryd.ntmps3
  go_wp2_with (go_at_call 4; refine HP.out.mono ?_; rintro e w1 ⟨rfl, hb1⟩; have HB1 := Lib.hid hb1; clear hb1)
  obtain ⟨i0, hi, hz0, hz1, hz2⟩ := info_parts Tryd.info37
  have h00 : bits .and .u64 0 0 = 0 := by decide
  have h01 : bits .andNot .u64 0 0 = 0 := by decide
  have hl0 : L1 w1 ((w1.alloc (.cells #[.int .i64 now, .int .u64 255, .int .u64 0, .int .u64 0, .int .u64 0, .slice none 0 0, .slice none 0 0] 32)).alloc (.cells #[.int .u64 255, .int .u64 0, .int .u64 0, .int .u64 0] 28)) w1.heap.size (w1.heap.size + 1) now 255 [] (.slice none 0 0) :=
    ⟨(two w1 _ _).1, (two w1 _ _).2, RowOf.nil _ _, (below_alloc' w1 _).alloc (by simp) _, by omega, Nat.le_refl _, by omega⟩
  have HL0 := Lib.hid hl0
  clear hl0
  go_loopw [46] (fun i wr => ∃ (k : Nat) (v : Value), i = .int .i64 k ∧ k ≤ m ∧ L1 w1 wr w1.heap.size (w1.heap.size + 1) now (freeOf 255 (bs.take k)) (runsOf now 255 (bs.take k)) v) (fun i _ => m - (intOf i).toNat)
  case atStart => exact ⟨0, _, rfl, Nat.zero_le _, HL0.out⟩
  case round =>
    obtain ⟨k, v, rfl, hk, hl1⟩ := hrel
    have HL1 := Lib.hid hl1
    clear hl1
    by_cases hkm : k < m
    · obtain ⟨b, hb⟩ : ∃ b, bs[k]? = some b := ⟨bs[k]'(by have := HN.out; have := HM.out; omega), List.getElem?_eq_getElem (by have := HN.out; have := HM.out; omega)⟩
      obtain ⟨hb1, hb2⟩ := hbs b (List.mem_of_getElem? hb)
      obtain ⟨gr, ofs, rfl, hgr, hcr⟩ := HC.out k b hb
      have hbW := HB1.out.trans (HL1.out.below.mono HB1.out.size)
      have c0 : wr.cell? ⟨gr, ofs + k * 2, none⟩ = some (.int .u8 b.1) := by rw [hbW.cell (p := ⟨gr, _, none⟩) hgr]; exact hcr 0 _ rfl
      have c1 : wr.cell? ⟨gr, ofs + k * 2 + 1, none⟩ = some (.int .u8 b.2) := by rw [hbW.cell (p := ⟨gr, _, none⟩) hgr]; exact hcr 1 _ rfl
      have htk := take_at hb
      have hrs := runs_snoc now b (bs.take k) 255
      have hfr := free_snoc b (bs.take k) 255
      rw [← htk] at hrs hfr
      have hf := freeOf_lt (bs.take k) 255 (by omega)
      have hlen : (runsOf now 255 (bs.take k)).length ≤ 6 := by rw [runs_len, List.length_take]; have := HM.out; omega
      obtain ⟨fr, hfe⟩ : ∃ fr, freeOf 255 (bs.take k) = fr := ⟨_, rfl⟩
      obtain ⟨rs, hre⟩ : ∃ rs, runsOf now 255 (bs.take k) = rs := ⟨_, rfl⟩
      obtain ⟨nd, hnd⟩ : ∃ nd, fr &&& b.1 = nd := ⟨_, rfl⟩
      obtain ⟨fr', hfr'⟩ : ∃ f, minus fr nd = f := ⟨_, rfl⟩
      rw [hfe] at hrs hfr hf HL1
      rw [hre] at hrs hlen HL1
      rw [hnd] at hrs hfr
      rw [hfr'] at hfr
      have hand : bits .and .u64 (fr : Int) (b.1 : Int) = (nd : Int) := by rw [u64_and_nat _ _ (by omega) (by omega), hnd]
      have hnds : nd < 256 := by rw [← hnd]; exact and_lt hf
      have hnot : bits .andNot .u64 (fr : Int) (nd : Int) = (fr' : Int) := by rw [u64_andNot_nat _ _ (by omega) (by omega), ← hfr']; rfl
      have HRS := Lib.hid hrs
      have HMD := Lib.hid (show ((b.2 % 40 : Nat) : Int) = (b.2 : Int) % 40 by omega)
      have HFR := Lib.hid hfr
      have hr0 : L1 w1 (wr.alloc (.cells #[.int .u8 b.1, .int .u8 b.2] 34)) w1.heap.size (w1.heap.size + 1) now fr rs v := HL1.out.later (below_alloc' wr _)
      have hbu : BuB (wr.alloc (.cells #[.int .u8 b.1, .int .u8 b.2] 34)) wr.heap.size b := heap_alloc_new wr _
      obtain ⟨f0, f1, f2, f3⟩ := hr0.fr.cells
      have HR0 := Lib.hid hr0
      have HBU := Lib.hid hbu
      have t1 : IntKind.u64.wrap (b.1 : Int) = (b.1 : Int) := by rw [wrap_u64']; omega
      have hsz := HL1.out.below.size
      have hYl : w1.heap.size + 1 < wr.heap.size := by have := HL1.out.fr.lt; exact this
      clear hrs hfr htk hb hcr hfe hre hnd hfr' hr0 hbu hbW
      go_wp2_with (first
        | (go_at_call 5; refine (and_any _ _ _ _ _ _ _ _ _).mono ?_; rintro e w5 ⟨rfl, hb5⟩; rw [setV_four, h00, hand]; have hl5 := HR0.out.later hb5; have hr5 : R1 w1 (w5.alloc (.cells #[.int .u64 nd, .int .u64 0, .int .u64 0, .int .u64 0] 28)) w1.heap.size (w1.heap.size + 1) now fr rs v w5.heap.size nd wr.heap.size b := ⟨hl5.later (below_alloc' w5 _), heap_alloc_new w5 _, (HBU.out.later hb5).later (below_alloc' w5 _)⟩; have HR5 := Lib.hid hr5; have hs5 : wr.heap.size < w5.heap.size := Nat.lt_of_lt_of_le (Array.getElem?_eq_some_iff.1 HBU.out).1 hb5.size; obtain ⟨f0, f1, f2, f3⟩ := hr5.l1.fr.cells; clear hl5 hr5 hb5)
        | (go_at_call 6; refine (not_any _ _ _ _ _ _ _ _ _).mono ?_; rintro e w6 ⟨rfl, hb6⟩; rw [setV_four, h01, hnot]; have hr6 := HR5.out.later hb6; have fY := hr6.l1.fr.frozen; obtain ⟨f0, f1, f2, f3⟩ := hr6.l1.fr.cells; have hr7 := hr6.set4 (fr' := fr') (by omega); obtain ⟨x0, x1, x2, x3, x4, x5, x6⟩ := hr7.l1.sc.cells; obtain ⟨n0, n1, n2, n3⟩ := hr7.nd.cells; obtain ⟨b0, b1⟩ := hr7.bu.cells; have HR7 := Lib.hid hr7; have hl8 : L1 w1 (((((w6.setCell ⟨w1.heap.size + 1, 0, none⟩ (.int .u64 fr')).setCell ⟨w1.heap.size + 1, 1, none⟩ (.int .u64 0)).setCell ⟨w1.heap.size + 1, 2, none⟩ (.int .u64 0)).setCell ⟨w1.heap.size + 1, 3, none⟩ (.int .u64 0)).alloc (.cells #[.int .u64 nd, .int .u64 0, .int .u64 0, .int .u64 0, .int .i64 ((now : Int) + (b.2 : Int) % 40 + 1)] 37)) w1.heap.size (w1.heap.size + 1) now fr' rs v := hr7.l1.later (below_alloc' _ _); have HL8 := Lib.hid hl8; have HO := Lib.hid (show (((((w6.setCell ⟨w1.heap.size + 1, 0, none⟩ (.int .u64 fr')).setCell ⟨w1.heap.size + 1, 1, none⟩ (.int .u64 0)).setCell ⟨w1.heap.size + 1, 2, none⟩ (.int .u64 0)).setCell ⟨w1.heap.size + 1, 3, none⟩ (.int .u64 0)).alloc (.cells #[.int .u64 nd, .int .u64 0, .int .u64 0, .int .u64 0, .int .i64 ((now : Int) + (b.2 : Int) % 40 + 1)] 37)).ownsRow w1.heap.size 37 5 v rs.length (rs.flatMap ruC) from hl8.row); have HNW := Lib.hid (ru_news (r := (nd, (now : Int) + (b.2 : Int) % 40 + 1)) (show RuB (((((w6.setCell ⟨w1.heap.size + 1, 0, none⟩ (.int .u64 fr')).setCell ⟨w1.heap.size + 1, 1, none⟩ (.int .u64 0)).setCell ⟨w1.heap.size + 1, 2, none⟩ (.int .u64 0)).setCell ⟨w1.heap.size + 1, 3, none⟩ (.int .u64 0)).alloc (.cells #[.int .u64 nd, .int .u64 0, .int .u64 0, .int .u64 0, .int .i64 ((now : Int) + (b.2 : Int) % 40 + 1)] 37)) w6.heap.size _ from heap_alloc_new' _ (by simp [World.setCell]) _)); have HBS := Lib.hid hl8.below.size; clear hl8 hr6 hr7 hb6)
        | (at_builtin; refine wpList_append_own_at _ rfl _ _ 29 rfl w1.heap.size 37 i0 (.agg #[.int .u64 0, .int .u64 0, .int .u64 0, .int .u64 0, .int .i64 0]) 5 40 Tryd.underlying29 hi hz0 hz1 hz2 rfl (by decide) v rs.length (rs.flatMap ruC) rfl HO.out ⟨w6.heap.size, 0, none⟩ 1 1 (ruC (nd, (now : Int) + (b.2 : Int) % 40 + 1)) rfl rfl HNW.out (ru_one _) (by unfold maxLen; omega) (by omega) HBS.out ?_; intro v' w9 hown hgrow hnil hloc; obtain ⟨g9, c9, rfl⟩ := own_form hown; obtain ⟨hs9, hl9⟩ := HL8.out.app hown hgrow; have fX := hs9.frozen; obtain ⟨x0, x1, x2, x3, x4, x5, x6⟩ := hs9.cells; have HL9 := Lib.hid hl9; clear hown hgrow hnil hloc hs9 hl9))
      exact ⟨⟨k + 1, _, by go_num, by omega, by rw [HFR.out, HRS.out, HMD.out]; exact HL9.out⟩, by simp only [intOf]; omega⟩
    · obtain rfl : k = m := by omega
      have hrows := HL1.out.row
      have hrl : (runsOf now 255 (bs.take k)).length ≤ 6 := by rw [runs_len, List.length_take]; have := HM.out; omega
      have hl2 : L2 w1 wr w1.heap.size now (runsOf now 255 (bs.take k)) [] v (.slice none 0 0) := ⟨HL1.out.sc, hrows, RowOf.nil _ _, HL1.out.below, Nat.le_refl _⟩
      have hrsc := runs_sc now (bs.take k)
      have hrE : ∀ r ∈ runsOf now 255 (bs.take k), r.2 ≤ now + 40 := fun r hr => (runs_mem now _ 255 (by omega) r hr).2.2.2
      obtain ⟨rs, hre⟩ : ∃ rs, runsOf now 255 (bs.take k) = rs := ⟨_, rfl⟩
      rw [hre] at hrows hrl hl2 hrsc hrE
      have HL2 := Lib.hid hl2
      have HRSC := Lib.hid hrsc
      have HRE := Lib.hid hrE
      obtain ⟨i1, hi', hz0', hz1', hz2'⟩ := info_parts Tryd.info41
      clear hre hrows hl2 HL1 HL0 hrsc hrE
      go_wp2_with fail
      go_loopw [81] (fun i wr => ∃ (j : Nat) (v' : Value), i = .int .i64 j ∧ j ≤ m2 ∧ L2 w1 wr w1.heap.size now rs (wishesOf 0 (xs.take j)) v v') (fun i _ => m2 - (intOf i).toNat)
      case atStart => exact ⟨0, _, rfl, Nat.zero_le _, HL2.out⟩
      case round =>
        obtain ⟨j, v', rfl, hj, hl2⟩ := hrel
        have HLJ := Lib.hid hl2
        clear hl2 HL2
        by_cases hjm : j < m2
        · obtain ⟨x, hx⟩ : ∃ x, xs[j]? = some x := ⟨xs[j]'(by have := HN2.out; have := HM2.out; omega), List.getElem?_eq_getElem (by have := HN2.out; have := HM2.out; omega)⟩
          obtain ⟨hx1, hx2, hx3⟩ := hxs x (List.mem_of_getElem? hx)
          obtain ⟨gr, ofs, rfl, hgr, hcr⟩ := HC2.out j x hx
          have hbW := HB1.out.trans (HLJ.out.below.mono HB1.out.size)
          have c0 : wr.cell? ⟨gr, ofs + j * 3, none⟩ = some (.int .u8 x.1) := by rw [hbW.cell (p := ⟨gr, _, none⟩) hgr]; exact hcr 0 _ rfl
          have c1 : wr.cell? ⟨gr, ofs + j * 3 + 1, none⟩ = some (.int .u8 x.2.1) := by rw [hbW.cell (p := ⟨gr, _, none⟩) hgr]; exact hcr 1 _ rfl
          have c2 : wr.cell? ⟨gr, ofs + j * 3 + 2, none⟩ = some (.int .u8 x.2.2) := by rw [hbW.cell (p := ⟨gr, _, none⟩) hgr]; exact hcr 2 _ rfl
          have hws := wishes_snoc x (xs.take j) 0
          rw [← take_at hx] at hws
          have hlj : (xs.take j).length = j := by rw [List.length_take]; have := HN2.out; have := HM2.out; omega
          rw [hlj, Nat.zero_add] at hws
          have hwl : (wishesOf 0 (xs.take j)).length = j := by rw [wishes_len]; exact hlj
          obtain ⟨ws, hwe⟩ : ∃ ws, wishesOf 0 (xs.take j) = ws := ⟨_, rfl⟩
          rw [hwe] at hws hwl HLJ
          have HWS := Lib.hid hws
          have hw1 := HLJ.out.later (below_alloc' wr (.cells #[.int .u8 x.1, .int .u8 x.2.1, .int .u8 x.2.2] 39))
          obtain ⟨x0, x1, x2, x3, x4, x5, x6⟩ := hw1.sc.cells
          have hw2 := hw1.later (below_alloc' _ (.cells #[.int .i64 ((j : Int) + 1), .int .i64 ((x.1 : Int) % 8 + 1), .int .i64 ((x.2.1 : Int) % 30 + 1), .int .u64 ((x.2.2 ||| 129 : Nat) : Int), .int .u64 0, .int .u64 0, .int .u64 0] 41))
          have HO := Lib.hid (show ((wr.alloc (.cells #[.int .u8 x.1, .int .u8 x.2.1, .int .u8 x.2.2] 39)).alloc (.cells #[.int .i64 ((j : Int) + 1), .int .i64 ((x.1 : Int) % 8 + 1), .int .i64 ((x.2.1 : Int) % 30 + 1), .int .u64 ((x.2.2 ||| 129 : Nat) : Int), .int .u64 0, .int .u64 0, .int .u64 0] 41)).ownsRow w1.heap.size 41 7 v' ws.length (ws.flatMap wiC) from hw2.row)
          have HNW := Lib.hid (wi_news (x := wishOf j x) (show WiB ((wr.alloc (.cells #[.int .u8 x.1, .int .u8 x.2.1, .int .u8 x.2.2] 39)).alloc (.cells #[.int .i64 ((j : Int) + 1), .int .i64 ((x.1 : Int) % 8 + 1), .int .i64 ((x.2.1 : Int) % 30 + 1), .int .u64 ((x.2.2 ||| 129 : Nat) : Int), .int .u64 0, .int .u64 0, .int .u64 0] 41)) (wr.heap.size + 1) (wishOf j x) by
            unfold WiB
            rw [heap_alloc_new' _ (by simp) _]
            simp [wishOf]))
          have HBS := Lib.hid hw2.below.size
          have HW2 := Lib.hid hw2
          have hor : bits .or .u64 (x.2.2 : Int) 129 = ((x.2.2 ||| 129 : Nat) : Int) := u64_or_nat x.2.2 129 (by omega) (by omega)
          have t1 : IntKind.u64.wrap (x.2.2 : Int) = (x.2.2 : Int) := by rw [wrap_u64']; omega
          clear hws hwe hlj hw1 hw2 hx hcr hbW
          go_wp2_with (at_builtin; refine wpList_append_own_at _ rfl _ _ 30 rfl w1.heap.size 41 i1 (.agg #[.int .i64 0, .int .i64 0, .int .i64 0, .int .u64 0, .int .u64 0, .int .u64 0, .int .u64 0]) 7 56 Tryd.underlying30 hi' hz0' hz1' hz2' rfl (by decide) v' ws.length (ws.flatMap wiC) rfl HO.out ⟨wr.heap.size + 1, 0, none⟩ 1 1 (wiC (wishOf j x)) rfl rfl HNW.out (wi_one _) (by unfold maxLen; omega) (by omega) HBS.out ?_; intro v9 w9 hown hgrow hnil hloc; obtain ⟨g9, c9, rfl⟩ := own_form hown; obtain ⟨hs9, hl9⟩ := HW2.out.app hown hgrow; have fX := hs9.frozen; obtain ⟨x0, x1, x2, x3, x4, x5, x6⟩ := hs9.cells; have HL9 := Lib.hid hl9; clear hown hgrow hnil hloc hs9 hl9)
          exact ⟨⟨j + 1, _, by go_num, by omega, by have h := HL9.out; rw [hwl] at h; rw [HWS.out]; exact h⟩, by simp only [intOf]; omega⟩
        · obtain rfl : j = m2 := by omega
          have hmk := @run_makeMap Tryd.prog
          go_wp2_with fail
          have hB0 := HLJ.out.below.size
          have hscene : Scene w1 (wr.alloc (.map #[] 0)) w1.heap.size wr.heap.size now rs (wishesOf 0 (xs.take j)) v v' [] 1000000 := scene_start (HLJ.out.later (below_alloc' wr _)) (heap_alloc_new wr _) HRSC.out (by omega) (fun r hr => by have := HRE.out r hr; omega) trivial hrl (by rw [List.length_take]; have := HM2.out; omega) (fun x hx => (hxs x (List.mem_of_mem_take hx)).2.2) hB0
          have hwn : (wishesOf 0 (xs.take j)).length ≤ n2 := by rw [wishes_len, List.length_take]; have := HN2.out; omega
          have HSC := Lib.hid hscene
          have HWN := Lib.hid hwn
          generalize wr.heap.size = B at *
          clear hscene hwn
          go_loopw [111] (fun i wr => ∃ (c : Nat) (t : Int) (rs : List Ru) (ws : List Wi) (vr vp : Value) (M : List Pl), i = .int .i64 c ∧ c ≤ 40 ∧ Scene w1 wr w1.heap.size B t rs ws vr vp M 1000000 ∧ ws.length ≤ n2) (fun i _ => 40 - (intOf i).toNat)
          case atStart => exact ⟨0, _, _, _, _, _, _, rfl, by omega, HSC.out, HWN.out⟩
          case round =>
            obtain ⟨c, t, rs', ws, vr, vp, M, rfl, hc, hsc, hwn⟩ := hrel
            by_cases hc40 : c < 40
            · have hl2 := hsc.l2
              have htab : Tab wr := (HTAB.out.below HB1.out).below (hl2.below.trans (Below.refl _ _) |>.mono (Nat.le_refl _))
              have hpass := pass_any (u := 255) (by omega) hsc.right (hl2.runs.reads ruC_len) (hl2.row.reads wiC_len) htab (by have := hsc.nowE; omega) (fun r hr => by have := hsc.ends r hr; omega) (by have := hsc.many; omega)
              rw [show ((255 : Nat) : Int) = 255 from rfl] at hpass
              obtain ⟨aor, capr, rfl, hcr, _⟩ := id (hl2.runs.reads ruC_len)
              obtain ⟨aop, capp, rfl, hcp, _⟩ := id (hl2.row.reads wiC_len)
              obtain ⟨x0, x1, x2, x3, x4, x5, x6⟩ := hl2.sc.cells
              obtain ⟨ip, hip, hzp0, hzp1, hzp2⟩ := info_parts Tryd.info48
              have HPASS := Lib.hid hpass
              have HS := Lib.hid hsc
              have hn0 := hsc.now0
              have hnE := hsc.nowE
              have hmany := hsc.many
              clear hsc hl2 hpass htab HSC
              go_wp2_with (first
                | (go_at_call 7; refine HPASS.out.mono ?_; rintro e w2 ⟨vs, vl, ps, rfl, hplans, hst, hlt, hap, hb2⟩; have HPL := Lib.hid hplans; have HST := Lib.hid hst; have HLT := Lib.hid hlt; have HB2 := Lib.hid hb2; clear hplans hst hlt hap hb2)
                | (at_builtin; refine wpList_append_row rfl _ _ 43 rfl w2.heap.size 48 ip (.agg #[.int .i64 0, .int .i64 0, .int .u64 0, .int .u64 0, .int .u64 0, .int .u64 0]) 6 48 Tryd.underlying43 hip hzp0 hzp1 hzp2 rfl (by decide) vq (0 + (startsOf t ws ps).length) ([] ++ (startsOf t ws ps).flatMap plC) rfl HQ1.out (y := vl) (m := (laterOf t ws ps).length) (news := (laterOf t ws ps).flatMap plC) rfl HLT3.out (pls_one _) (by unfold maxLen; omega) (by omega) HSZ3.out ?_; intro vq2 w4 hown4 hgrow4 hloc4; have hq4 : RowOf 48 6 plC w4 w2.heap.size vq2 (allOf t ws ps) := (by unfold RowOf allOf; rw [List.length_append, List.flatMap_append]; simpa using hown4); have hb4 := HB3.out.grown hgrow4 HSZ3.out (fun k hk => by rcases HLC3.out with h | h <;> rw [h] at hk <;> cases hk; exact Nat.le_refl _); obtain ⟨aoq, cq, rfl, hcq, _⟩ := id (hq4.reads plC_len); have HQ := Lib.hid hq4; have HB4 := Lib.hid hb4; have hql : (allOf t ws ps).length ≤ 28 := (by unfold allOf; rw [List.length_append]; omega); clear hown4 hgrow4 hloc4 hq4 hb4)
                | (at_builtin; refine wpList_append_row rfl _ _ 43 rfl w2.heap.size 48 ip (.agg #[.int .i64 0, .int .i64 0, .int .u64 0, .int .u64 0, .int .u64 0, .int .u64 0]) 6 48 Tryd.underlying43 hip hzp0 hzp1 hzp2 rfl (by decide) (.slice none 0 0) 0 [] rfl ⟨by simp, .inl ⟨rfl, rfl⟩⟩ (y := vs) (m := (startsOf t ws ps).length) (news := (startsOf t ws ps).flatMap plC) rfl HST.out (pls_one _) (by unfold maxLen; have := starts_len t ws ps; omega) (by have := starts_len t ws ps; omega) (Nat.le_refl _) ?_; intro vq w3 hown3 hgrow3 hloc3; have HQ1 := Lib.hid hown3; have hb3 := (Below.refl w2.heap.size w2).grown hgrow3 (Nat.le_refl _) (fun k hk => by cases hk); have HLT3 := Lib.hid (HLT.out.below hb3); have HB3 := Lib.hid hb3; have HSZ3 := Lib.hid hb3.size; have HLC3 := Lib.hid hloc3; have hlen2 := laterOf_len t ws ps; have hlen1 := starts_len t ws ps; clear hown3 hgrow3 hloc3 hb3))
              have hBw : B < wr.heap.size := (Array.getElem?_eq_some_iff.1 HS.out.mp).1
              have hmp4 : MapP w4 B M := by
                unfold MapP
                rw [HB4.out.block B (by have := HB2.out.size; omega), HB2.out.block B hBw]
                exact HS.out.mp
              have hall := (HS.out.okay ps HPL.out).all (now := t)
              have h40 : L4 w4 w4 B M (allOf t ws ps) 0 M := ⟨hmp4, ⟨rfl, rfl, rfl, Nat.le_refl _, fun _ _ _ _ => rfl⟩, fun i p hi => by omega, fun p hp => (hall p hp).1, fun _ _ => rfl⟩
              have HOK := Lib.hid (HS.out.okay ps HPL.out)
              have HD := Lib.hid (all_one (now := t) (ps := ps) HS.out.ids)
              have HPLen := Lib.hid HPL.out.length
              have H40 := Lib.hid h40
              have HMP4 := Lib.hid hmp4
              have HRB := Lib.hid (HQ.out.other hmp4 (by intro cur; simp))
              generalize hqle : (allOf t ws ps).length = ql at *
              generalize hQe : allOf t ws ps = Q at *
              have HQL := Lib.hid hqle
              have HQE := Lib.hid hQe
              have HLT4 := Lib.hid ((HLT.out.below HB4.out).mono HS.out.l2.below.size)
              have HL24 := Lib.hid (HS.out.l2.later (HB2.out.trans (HB4.out.mono HB2.out.size)))
              clear h40 hall hmp4 HQ1 HPASS hqle hQe HST HLT x0 x1 x2 x3 x4 x5 x6 HB3 HLC3 HSZ3 hmk
              go_loopw [126] (fun i wr => ∃ (j : Nat) (M' : List Pl), i = .int .i64 j ∧ j ≤ ql ∧ L4 w4 wr B M Q j M') (fun i _ => ql - (intOf i).toNat)
              case atStart => exact ⟨0, M, rfl, Nat.zero_le _, H40.out⟩
              case round =>
                obtain ⟨j, M', rfl, hj, h4⟩ := hrel
                have H4 := Lib.hid h4
                clear h4 H40
                by_cases hjq : j < ql
                · obtain ⟨p, hp⟩ : ∃ p, Q[j]? = some p := ⟨Q[j]'(by have := HQL.out; omega), List.getElem?_eq_getElem (by have := HQL.out; omega)⟩
                  have hrow : RowOf 48 6 plC wr w2.heap.size (.slice aoq ql cq) Q := HQ.out.kept fun b hb => H4.out.els.block b (HQ.out.lt hb).2 (fun e => HRB.out (e ▸ hb)) (by simp)
                  obtain ⟨ao', cap', he, _, hc'⟩ := hrow.reads plC_len
                  simp only [Value.slice.injEq] at he
                  obtain ⟨rfl, -, rfl⟩ := he
                  obtain ⟨gq, rfl, hgq, hcq'⟩ := hc' j p hp
                  obtain ⟨c0, c1, c2, c3, c4, c5⟩ := pl_cells hcq'
                  have hm1 := H4.out.mp.below (below_alloc' wr (.cells #[.int .i64 p.1, .int .i64 p.2.1, .int .u64 p.2.2, .int .u64 0, .int .u64 0, .int .u64 0] 48))
                  have he1 : Else B none w4 (wr.alloc (.cells #[.int .i64 p.1, .int .i64 p.2.1, .int .u64 p.2.2, .int .u64 0, .int .u64 0, .int .u64 0] 48)) := H4.out.els.more (below_alloc' wr _)
                  have HP := Lib.hid hp
                  have HM1 := Lib.hid hm1
                  have HE1 := Lib.hid he1
                  have g48 := guard48
                  have hfit := H4.out.fit p (List.mem_of_getElem? hp)
                  clear hrow hc' hcq' hm1 he1 hp
                  rcases hfit with hfn | hfs
                  · have hlk := run_look_none HM1.out hfn
                    have hm2 := HM1.out.below (below_alloc' _ (.cells #[.int .i64 0, .int .i64 0, .int .u64 0, .int .u64 0, .int .u64 0, .int .u64 0] 48))
                    have HRUN := Lib.hid (run_put_new hm2 hfn)
                    have HM2 := Lib.hid hm2
                    have HE2 := Lib.hid (HE1.out.more (below_alloc' _ (.cells #[.int .i64 0, .int .i64 0, .int .u64 0, .int .u64 0, .int .u64 0, .int .u64 0] 48)))
                    have HFN := Lib.hid hfn
                    clear hm2 hfn
                    go_wp2_with (at_mapUpdate; refine wpList_put rfl _ _ _ rfl B M' (M' ++ [p]) p rfl rfl rfl HM2.out HRUN.out ?_; intro w6 hs6; have HS6 := Lib.hid hs6; clear hs6)
                    exact ⟨⟨j + 1, _, by go_num, by omega, H4.out.new HP.out HD.out HFN.out HE2.out HS6.out⟩, by simp only [intOf]; omega⟩
                  · have hlk := run_look_some HM1.out hfs
                    have hm2 := HM1.out.below (below_alloc' _ (.cells #[.int .i64 p.1, .int .i64 p.2.1, .int .u64 p.2.2, .int .u64 0, .int .u64 0, .int .u64 0] 48))
                    have HRUN := Lib.hid (run_put_same hm2 hfs)
                    have HM2 := Lib.hid hm2
                    have HE2 := Lib.hid (HE1.out.more (below_alloc' _ (.cells #[.int .i64 p.1, .int .i64 p.2.1, .int .u64 p.2.2, .int .u64 0, .int .u64 0, .int .u64 0] 48)))
                    have HFN := Lib.hid hfs
                    have e48 := fun w => equal48 p.1 p.2.1 p.2.2 w
                    clear hm2 hfs
                    go_wp2_with (at_mapUpdate; refine wpList_put rfl _ _ _ rfl B M' M' p rfl rfl rfl HM2.out HRUN.out ?_; intro w6 hs6; have HS6 := Lib.hid hs6; clear hs6)
                    exact ⟨⟨j + 1, _, by go_num, by omega, H4.out.same HP.out HFN.out HE2.out HS6.out⟩, by simp only [intOf]; omega⟩
                · obtain rfl : j = ql := by omega
                  have hsure : Sure M' 1000000 ws ps := HOK.out.sure (now := t) HS.out.ids (fun p hp => by
                    rw [HQE.out] at hp
                    obtain ⟨i, hi⟩ := List.mem_iff_getElem?.1 hp
                    exact H4.out.done i p (by have := (List.getElem?_eq_some_iff.1 hi).1; have := HQL.out; omega) hi) (fun y _ hn hl => by
                    rw [HQE.out] at hn
                    rw [H4.out.rest y.id hn]; exact hl)
                  have hgs := gs_start HL24.out HLT4.out HMP4.out H4.out.els H4.out.mp HS.out.Bge
                  have hXr : ScB wr w1.heap.size t 255 (.slice aor rs'.length capr) (.slice aop ws.length capp) := by unfold ScB; rw [H4.out.els.block _ HL24.out.sc.lt (fun e => HMP4.out.ne_sc HL24.out.sc e.symm) (by simp)]; exact HL24.out.sc
                  obtain ⟨x0, x1, x2, x3, x4, x5, x6⟩ := hXr.cells
                  obtain ⟨y0, y1, y2, y3, y4, y5, y6⟩ := hgs.sc.cells
                  have HSU := Lib.hid hsure
                  have HGS := Lib.hid hgs
                  clear hsure hgs hXr H4 HQL HQE HRB HMP4 HD HLT4 HL24 HQ HB4
                  go_wp2_with fail
                  generalize wr.heap.size = Y at *
                  clear x0 x1 x2 x3 x4 x5 x6 y0 y1 y2 y3 y4 y5 y6
                  have hll := laterOf_len t ws ps
                  generalize hwl : ws.length = wl at *
                  generalize hrl' : rs'.length = rl at *
                  have HWL := Lib.hid hwl
                  have HRL := Lib.hid hrl'
                  clear hwl hrl'
                  go_loopw [154] (fun i wr => ∃ (j : Nat) (vr' vn : Value), i = .int .i64 j ∧ j ≤ wl ∧ GS w1 wr w1.heap.size Y B t 0 vr' (.slice aop wl capp) (.slice none 0 0) vn vl (rs' ++ begun t (ws.take j) (ps.take j)) ws [] (laterW t (ws.take j) (ps.take j)) (laterOf t ws ps) M') (fun i _ => wl - (intOf i).toNat)
                  case atStart => exact ⟨0, _, _, rfl, Nat.zero_le _, by simpa [begun, laterW] using HGS.out⟩
                  case round =>
                    obtain ⟨j, vr', vn, rfl, hj, hg⟩ := hrel
                    have HG := Lib.hid hg
                    clear hg HGS
                    by_cases hjw : j < wl
                    · obtain ⟨x, hx⟩ : ∃ x, ws[j]? = some x := ⟨ws[j]'(by have := HWL.out; omega), List.getElem?_eq_getElem (by have := HWL.out; omega)⟩
                      obtain ⟨ao', cap', he, _, hc'⟩ := HG.out.r2.reads wiC_len
                      simp only [Value.slice.injEq] at he
                      obtain ⟨rfl, -, rfl⟩ := he
                      obtain ⟨gx, rfl, hgx, hcx⟩ := hc' j x hx
                      obtain ⟨c0, c1, c2, c3, c4, c5, c6⟩ := wi_cells hcx
                      have hxl := (HS.out.wish x (List.mem_of_getElem? hx)).2.2.2.2.2.1
                      have hg1 := HG.out.later (below_alloc' wr (.cells #[.int .i64 x.id, .int .i64 x.n, .int .i64 x.long, .int .u64 x.of, .int .u64 0, .int .u64 0, .int .u64 0] 41))
                      have HG1 := Lib.hid hg1
                      have HX := Lib.hid hx
                      have hbl : (rs' ++ begun t (ws.take j) (ps.take j)).length ≤ 28 ∧ (laterW t (ws.take j) (ps.take j)).length ≤ 14 := by
                        have h1 := @begun_later_len t (ws.take j) (ps.take j)
                        rw [List.length_take, HWL.out] at h1
                        rw [List.length_append, HRL.out]
                        omega
                      obtain ⟨RR, hRR⟩ : ∃ RR, rs' ++ begun t (ws.take j) (ps.take j) = RR := ⟨_, rfl⟩
                      obtain ⟨NN, hNN⟩ : ∃ NN, laterW t (ws.take j) (ps.take j) = NN := ⟨_, rfl⟩
                      rw [hRR, hNN] at HG1 hbl
                      obtain ⟨hb1, hb2⟩ := hbl
                      have HRR := Lib.hid hRR
                      have HNN := Lib.hid hNN
                      have HXW := Lib.hid (show WiB (wr.alloc (.cells #[.int .i64 x.id, .int .i64 x.n, .int .i64 x.long, .int .u64 x.of, .int .u64 0, .int .u64 0, .int .u64 0] 41)) wr.heap.size x from heap_alloc_new wr _)
                      clear hRR hNN hg1 hcx hc'
                      rcases HSU.out.get hx with ⟨t', S, hpj, hlook, hte⟩ | ⟨hpj, hlook⟩
                      · by_cases htt : t' = t
                        · subst htt
                          have htake := begun_take (now := t') HX.out hpj
                          simp only [if_true, List.append_nil] at htake
                          have HTK := Lib.hid htake
                          have hlk := run_look_some HG1.out.mp hlook
                          simp only at hlk
                          have hg2 := HG1.out.later (below_alloc' _ (.cells #[.int .i64 x.id, .int .i64 t', .int .u64 S, .int .u64 0, .int .u64 0, .int .u64 0] 48))
                          obtain ⟨x0, x1, x2, x3, x4, x5, x6⟩ := hg2.sc.cells
                          obtain ⟨y0, y1, y2, y3, y4, y5, y6⟩ := (HXW.out.below (below_alloc' _ (.cells #[.int .i64 x.id, .int .i64 t', .int .u64 S, .int .u64 0, .int .u64 0, .int .u64 0] 48))).cells
                          have hg3 := hg2.later (below_alloc' _ (.cells #[.int .u64 S, .int .u64 0, .int .u64 0, .int .u64 0, .int .i64 (t' + (x.long : Int))] 37))
                          have HO := Lib.hid (show ((((wr.alloc (.cells #[.int .i64 x.id, .int .i64 x.n, .int .i64 x.long, .int .u64 x.of, .int .u64 0, .int .u64 0, .int .u64 0] 41)).alloc (.cells #[.int .i64 x.id, .int .i64 t', .int .u64 S, .int .u64 0, .int .u64 0, .int .u64 0] 48)).alloc (.cells #[.int .u64 S, .int .u64 0, .int .u64 0, .int .u64 0, .int .i64 (t' + (x.long : Int))] 37))).ownsRow w1.heap.size 37 5 vr' RR.length (RR.flatMap ruC) from hg3.r1)
                          have HNW := Lib.hid (ru_news (r := (S, t' + (x.long : Int))) (show RuB (((wr.alloc (.cells #[.int .i64 x.id, .int .i64 x.n, .int .i64 x.long, .int .u64 x.of, .int .u64 0, .int .u64 0, .int .u64 0] 41)).alloc (.cells #[.int .i64 x.id, .int .i64 t', .int .u64 S, .int .u64 0, .int .u64 0, .int .u64 0] 48)).alloc (.cells #[.int .u64 S, .int .u64 0, .int .u64 0, .int .u64 0, .int .i64 (t' + (x.long : Int))] 37)) (wr.heap.size + 1 + 1) _ from heap_alloc_new' _ (by simp) _))
                          have HBS := Lib.hid hg3.below.size
                          have HG3 := Lib.hid hg3
                          have ew : IntKind.i64.wrap (t' + (x.long : Int)) = t' + (x.long : Int) := IntWalk.i64_in _ (by omega)
                          clear hg2 hg3 htake hlook hpj hx
                          go_wp2_with (at_builtin; refine wpList_append_own_at _ rfl _ _ 29 rfl w1.heap.size 37 i0 (.agg #[.int .u64 0, .int .u64 0, .int .u64 0, .int .u64 0, .int .i64 0]) 5 40 Tryd.underlying29 hi hz0 hz1 hz2 rfl (by decide) vr' RR.length (RR.flatMap ruC) rfl HO.out ⟨wr.heap.size + 1 + 1, 0, none⟩ 1 1 (ruC (S, t' + (x.long : Int))) rfl rfl HNW.out (ru_one _) (by unfold maxLen; omega) (by omega) HBS.out ?_; intro v9 w9 hown hgrow hnil hloc; obtain ⟨g9, c9, rfl⟩ := own_form hown; obtain ⟨hs9, hg9⟩ := HG3.out.appR hown hgrow hloc; have fX := hs9.frozen; obtain ⟨x0, x1, x2, x3, x4, x5, x6⟩ := hs9.cells; have HG9 := Lib.hid hg9; clear hown hgrow hnil hloc hs9 hg9)
                          exact ⟨⟨j + 1, _, _, by go_num, by omega, by rw [HTK.out.1, HTK.out.2, ← List.append_assoc, HRR.out, HNN.out]; exact HG9.out⟩, by simp only [intOf]; omega⟩
                        · have htake := begun_take (now := t) HX.out hpj
                          simp only [if_neg htt, List.append_nil] at htake
                          have HTK := Lib.hid htake
                          have hlk := run_look_some HG1.out.mp hlook
                          simp only at hlk
                          have hg2 := HG1.out.later (below_alloc' _ (.cells #[.int .i64 x.id, .int .i64 t', .int .u64 S, .int .u64 0, .int .u64 0, .int .u64 0] 48))
                          obtain ⟨x0, x1, x2, x3, x4, x5, x6⟩ := hg2.sc.cells
                          obtain ⟨z0, z1, z2, z3, z4, z5, z6⟩ := hg2.nx.cells
                          obtain ⟨y0, y1, y2, y3, y4, y5, y6⟩ := (HXW.out.below (below_alloc' _ (.cells #[.int .i64 x.id, .int .i64 t', .int .u64 S, .int .u64 0, .int .u64 0, .int .u64 0] 48))).cells
                          have hg3 := hg2.later (below_alloc' _ (.cells #[.int .i64 x.id, .int .i64 x.n, .int .i64 x.long, .int .u64 x.of, .int .u64 0, .int .u64 0, .int .u64 0] 41))
                          have HO := Lib.hid (show ((((wr.alloc (.cells #[.int .i64 x.id, .int .i64 x.n, .int .i64 x.long, .int .u64 x.of, .int .u64 0, .int .u64 0, .int .u64 0] 41)).alloc (.cells #[.int .i64 x.id, .int .i64 t', .int .u64 S, .int .u64 0, .int .u64 0, .int .u64 0] 48)).alloc (.cells #[.int .i64 x.id, .int .i64 x.n, .int .i64 x.long, .int .u64 x.of, .int .u64 0, .int .u64 0, .int .u64 0] 41))).ownsRow w1.heap.size 41 7 vn NN.length (NN.flatMap wiC) from hg3.r4)
                          have HNW := Lib.hid (wi_news (x := x) (show WiB (((wr.alloc (.cells #[.int .i64 x.id, .int .i64 x.n, .int .i64 x.long, .int .u64 x.of, .int .u64 0, .int .u64 0, .int .u64 0] 41)).alloc (.cells #[.int .i64 x.id, .int .i64 t', .int .u64 S, .int .u64 0, .int .u64 0, .int .u64 0] 48)).alloc (.cells #[.int .i64 x.id, .int .i64 x.n, .int .i64 x.long, .int .u64 x.of, .int .u64 0, .int .u64 0, .int .u64 0] 41)) (wr.heap.size + 1 + 1) x from heap_alloc_new' _ (by simp) _))
                          have HBS := Lib.hid hg3.below.size
                          have HG3 := Lib.hid hg3
                          have hne : (t' == t) = false := by simpa using htt
                          clear hg2 hg3 htake hlook hpj hx htt
                          go_wp2_with (at_builtin; refine wpList_append_own_at _ rfl _ _ 30 rfl w1.heap.size 41 i1 (.agg #[.int .i64 0, .int .i64 0, .int .i64 0, .int .u64 0, .int .u64 0, .int .u64 0, .int .u64 0]) 7 56 Tryd.underlying30 hi' hz0' hz1' hz2' rfl (by decide) vn NN.length (NN.flatMap wiC) rfl HO.out ⟨wr.heap.size + 1 + 1, 0, none⟩ 1 1 (wiC x) rfl rfl HNW.out (wi_one _) (by unfold maxLen; omega) (by omega) HBS.out ?_; intro v9 w9 hown hgrow hnil hloc; obtain ⟨g9, c9, rfl⟩ := own_form hown; obtain ⟨hs9, hg9⟩ := HG3.out.appNP hown hgrow hloc; have fX := hs9.frozen; obtain ⟨z0, z1, z2, z3, z4, z5, z6⟩ := hs9.cells; have HG9 := Lib.hid hg9; clear hown hgrow hnil hloc hs9 hg9)
                          exact ⟨⟨j + 1, _, _, by go_num, by omega, by rw [HTK.out.1, HTK.out.2, HRR.out, HNN.out]; exact HG9.out⟩, by simp only [intOf]; omega⟩
                      · have htake := begun_take (now := t) HX.out hpj
                        simp only [List.append_nil] at htake
                        have HTK := Lib.hid htake
                        have hlk := run_look_none HG1.out.mp hlook
                        have HG2 := Lib.hid (HG1.out.later (below_alloc' _ (.cells #[.int .i64 0, .int .i64 0, .int .u64 0, .int .u64 0, .int .u64 0, .int .u64 0] 48)))
                        clear htake hlook hpj hx
                        go_wp2_with fail
                        exact ⟨⟨j + 1, _, _, by go_num, by omega, by rw [HTK.out.1, HTK.out.2, HRR.out, HNN.out]; exact HG2.out⟩, by simp only [intOf]; omega⟩
                    · obtain rfl : j = wl := by omega
                      have hg := HG.out
                      rw [List.take_of_length_le (by rw [HWL.out]; exact Nat.le_refl _), List.take_of_length_le (by rw [HPLen.out]; exact Nat.le_refl _)] at hg
                      have hbl := @begun_later_len t ws ps
                      have hls := @later_same_len t ws ps
                      rw [HWL.out] at hbl
                      have hrn : (rs' ++ begun t ws ps).length ≤ 28 := by rw [List.length_append, HRL.out]; omega
                      have hends := run_ends (ps := ps) HS.out.sc (fun x hx => (HS.out.wish x hx).2.2.2.2.1)
                      have hats := fun p hp => later_ge (p := p) HPL.out hp
                      have hatE := fun p (hp : p ∈ laterOf t ws ps) => (HOK.out.all (now := t) p (List.mem_append_right _ hp)).2
                      obtain ⟨aor2, capr2, rfl, hcr2, _⟩ := id (hg.r1.reads ruC_len)
                      obtain ⟨aon, capn, rfl, hcn, _⟩ := id (hg.r4.reads wiC_len)
                      obtain ⟨aol, capl, rfl, hcl, _⟩ := id (hg.r5.reads plC_len)
                      generalize hRe : rs' ++ begun t ws ps = R at *
                      generalize hNe : laterW t ws ps = NN at *
                      generalize hLe : laterOf t ws ps = LL at *
                      generalize hrne : R.length = rn at *
                      generalize hnle : NN.length = nl at *
                      generalize hple : LL.length = pl at *
                      obtain ⟨x0, x1, x2, x3, x4, x5, x6⟩ := hg.sc.cells
                      obtain ⟨z0, z1, z2, z3, z4, z5, z6⟩ := hg.nx.cells
                      have fY := hg.nx.frozen
                      have HGE := Lib.hid hg
                      have HRE' := Lib.hid hRe
                      have HNE := Lib.hid hNe
                      have HLE := Lib.hid hLe
                      have HRN := Lib.hid hrne
                      have HPN := Lib.hid hple
                      have HLS' := Lib.hid hls
                      have HENDS := Lib.hid hends
                      have HATS := Lib.hid hats
                      have HATE := Lib.hid hatE
                      have hwi : (j : Int) ≤ (n2 : Int) := by omega
                      clear hg HG hRe hNe hLe hrne hnle hple hends hats hatE hbl
                      by_cases hnl0 : nl = 0
                      · subst hnl0
                        go_wp2_with fail
                        go_ret
                        exact ⟨rfl, HB1.out.trans (HGE.out.below.mono HB1.out.size)⟩
                      · have hnz : ((nl : Int) == 0) = false := by simp; omega
                        have hg0 := HGE.out.setT 1073741824
                        obtain ⟨x0', x1', x2', x3', x4', x5', x6'⟩ := hg0.sc.cells
                        have HG0 := Lib.hid hg0
                        clear hg0
                        go_wp2_with fail
                        generalize hjw' : j = wl at *
                        clear x0 x1 x2 x3 x4 x5 x6 z0 z1 z2 z3 z4 z5 z6 fY x0' x1' x2' x3' x4' x5' x6' HGE
                        go_loopw [202] (fun i wr => ∃ (j : Nat) (T : Int), i = .int .i64 j ∧ j ≤ rn ∧ GS w1 wr w1.heap.size Y B t T (.slice aor2 rn capr2) (.slice aop wl capp) (.slice none 0 0) (.slice aon nl capn) (.slice aol pl capl) R ws [] NN LL M' ∧ T ≤ 1073741824 ∧ t < T ∧ Hid (∀ (i : Nat) (r : Ru), i < j → R[i]? = some r → T ≤ r.2)) (fun i _ => rn - (intOf i).toNat)
                        case atStart => exact ⟨0, _, rfl, Nat.zero_le _, HG0.out, by omega, by omega, Lib.hid fun i r hi => by omega⟩
                        case round =>
                          obtain ⟨j, T, rfl, hj, hg, hT1, hT2, HLO⟩ := hrel
                          have HG := Lib.hid hg
                          clear hg HG0
                          by_cases hjr : j < rn
                          · obtain ⟨r, hr⟩ : ∃ r, R[j]? = some r := ⟨R[j]'(by have := HRN.out; omega), List.getElem?_eq_getElem (by have := HRN.out; omega)⟩
                            obtain ⟨ao', cap', he, _, hc'⟩ := HG.out.r1.reads ruC_len
                            simp only [Value.slice.injEq] at he
                            obtain ⟨rfl, -, rfl⟩ := he
                            obtain ⟨gx, rfl, hgx, hcx⟩ := hc' j r hr
                            obtain ⟨c0, c1, c2, c3, c4⟩ := ru_cells hcx
                            have hrt := HENDS.out r (List.mem_of_getElem? hr)
                            have hg1 := HG.out.later (below_alloc' wr (.cells #[.int .u64 r.1, .int .u64 0, .int .u64 0, .int .u64 0, .int .i64 r.2] 37))
                            obtain ⟨z0, z1, z2, z3, z4, z5, z6⟩ := hg1.nx.cells
                            have fY := hg1.nx.frozen
                            obtain ⟨T', hT'⟩ : ∃ T', (if r.2 < T then r.2 else T) = T' := ⟨_, rfl⟩
                            have hTT : T' ≤ T ∧ T' ≤ r.2 ∧ t < T' := by rw [← hT']; split <;> omega
                            obtain ⟨ht1, ht2, ht3⟩ := hTT
                            have HG2 := Lib.hid (hg1.setT T')
                            have HRJ := Lib.hid hr
                            clear hg1 hc' hcx hr
                            go_wp2_with fail
                            refine ⟨⟨j + 1, T', by go_num, by omega, HG2.out, by omega, ht3, Lib.hid fun i q hi hq => ?_⟩, by simp only [intOf]; omega⟩
                            by_cases hij : i < j
                            · have := HLO.out i q hij hq; omega
                            · obtain rfl : i = j := by omega
                              have h5 := HRJ.out
                              rw [h5] at hq; cases hq; exact ht2
                          · obtain rfl : j = rn := by omega
                            have hlow : ∀ r ∈ R, T ≤ r.2 := fun r hr => by
                              obtain ⟨i, hi⟩ := List.mem_iff_getElem?.1 hr
                              exact HLO.out i r (by have := (List.getElem?_eq_some_iff.1 hi).1; have := HRN.out; omega) hi
                            have HLOW := Lib.hid hlow
                            clear hlow HLO
                            go_wp2_with fail
                            generalize hjr' : j = rn at *
                            go_loopw [215] (fun i wr => ∃ (j : Nat) (T : Int), i = .int .i64 j ∧ j ≤ pl ∧ GS w1 wr w1.heap.size Y B t T (.slice aor2 rn capr2) (.slice aop wl capp) (.slice none 0 0) (.slice aon nl capn) (.slice aol pl capl) R ws [] NN LL M' ∧ T ≤ 1073741824 ∧ t < T ∧ Hid (∀ r ∈ R, T ≤ r.2) ∧ Hid (∀ (i : Nat) (p : Pl), i < j → LL[i]? = some p → T ≤ p.2.1)) (fun i _ => pl - (intOf i).toNat)
                            case atStart => exact ⟨0, T, rfl, Nat.zero_le _, HG.out, hT1, hT2, HLOW, Lib.hid fun i p hi => by omega⟩
                            case round =>
                              obtain ⟨j, T, rfl, hj, hg, hT1, hT2, HLOW, HLO⟩ := hrel
                              have HG := Lib.hid hg
                              clear hg
                              by_cases hjp : j < pl
                              · obtain ⟨p, hp⟩ : ∃ p, LL[j]? = some p := ⟨LL[j]'(by have := HPN.out; omega), List.getElem?_eq_getElem (by have := HPN.out; omega)⟩
                                obtain ⟨ao', cap', he, _, hc'⟩ := HG.out.r5.reads plC_len
                                simp only [Value.slice.injEq] at he
                                obtain ⟨rfl, -, rfl⟩ := he
                                obtain ⟨gx, rfl, hgx, hcx⟩ := hc' j p hp
                                obtain ⟨c0, c1, c2, c3, c4, c5⟩ := pl_cells hcx
                                have hrt := HATS.out p (List.mem_of_getElem? hp)
                                have hg1 := HG.out.later (below_alloc' wr (.cells #[.int .i64 p.1, .int .i64 p.2.1, .int .u64 p.2.2, .int .u64 0, .int .u64 0, .int .u64 0] 48))
                                obtain ⟨z0, z1, z2, z3, z4, z5, z6⟩ := hg1.nx.cells
                                have fY := hg1.nx.frozen
                                obtain ⟨T', hT'⟩ : ∃ T', (if p.2.1 < T then p.2.1 else T) = T' := ⟨_, rfl⟩
                                have hTT : T' ≤ T ∧ T' ≤ p.2.1 ∧ t < T' := by rw [← hT']; split <;> omega
                                obtain ⟨ht1, ht2, ht3⟩ := hTT
                                have HG2 := Lib.hid (hg1.setT T')
                                have HPJ := Lib.hid hp
                                clear hg1 hc' hcx hp
                                go_wp2_with fail
                                refine ⟨⟨j + 1, T', by go_num, by omega, HG2.out, by omega, ht3, Lib.hid fun r hr => (by have := HLOW.out r hr; omega), Lib.hid fun i q hi hq => ?_⟩, by simp only [intOf]; omega⟩
                                by_cases hij : i < j
                                · have := HLO.out i q hij hq; omega
                                · obtain rfl : i = j := by omega
                                  have h5 := HPJ.out
                                  rw [h5] at hq; cases hq; exact ht2
                              · obtain rfl : j = pl := by omega
                                have hlate : ∀ p ∈ LL, T ≤ p.2.1 := fun p hp => by
                                  obtain ⟨i, hi⟩ := List.mem_iff_getElem?.1 hp
                                  exact HLO.out i p (by have := (List.getElem?_eq_some_iff.1 hi).1; have := HPN.out; omega) hi
                                have hTE : T ≤ 1000000 := by
                                  have hlp : 0 < LL.length := by have := HLS'.out; have := HPN.out; omega
                                  have hm : LL[0]'hlp ∈ LL := List.getElem_mem hlp
                                  have a := hlate _ hm
                                  have b := HATE.out _ hm
                                  omega
                                have HLAT := Lib.hid hlate
                                have htn : ¬ T ≤ t := by omega
                                obtain ⟨x0, x1, x2, x3, x4, x5, x6⟩ := HG.out.sc.cells
                                obtain ⟨z0, z1, z2, z3, z4, z5, z6⟩ := HG.out.nx.cells
                                clear hlate HLO
                                go_wp2_with fail
                                generalize hjp' : j = pl at *
                                clear x0 x1 x2 x3 x4 x5 x6 z0 z1 z2 z3 z4 z5 z6
                                go_loopw [234] (fun i wr => ∃ (j : Nat) (vnr : Value), i = .int .i64 j ∧ j ≤ rn ∧ GS w1 wr w1.heap.size Y B t T (.slice aor2 rn capr2) (.slice aop wl capp) vnr (.slice aon nl capn) (.slice aol pl capl) R ws ((R.take j).filter fun r => decide (T < r.2)) NN LL M') (fun i _ => rn - (intOf i).toNat)
                                case atStart => exact ⟨0, _, rfl, Nat.zero_le _, HG.out⟩
                                case round =>
                                  obtain ⟨j, vnr, rfl, hj, hg⟩ := hrel
                                  have HG := Lib.hid hg
                                  clear hg
                                  by_cases hjr : j < rn
                                  · obtain ⟨r, hr⟩ : ∃ r, R[j]? = some r := ⟨R[j]'(by have := HRN.out; omega), List.getElem?_eq_getElem (by have := HRN.out; omega)⟩
                                    obtain ⟨ao', cap', he, _, hc'⟩ := HG.out.r1.reads ruC_len
                                    simp only [Value.slice.injEq] at he
                                    obtain ⟨rfl, -, rfl⟩ := he
                                    obtain ⟨gx, rfl, hgx, hcx⟩ := hc' j r hr
                                    obtain ⟨c0, c1, c2, c3, c4⟩ := ru_cells hcx
                                    have hfs := filter_take_snoc (fun r : Ru => decide (T < r.2)) hr
                                    have hfl : ((R.take j).filter fun r => decide (T < r.2)).length ≤ 28 := by
                                      have h1 := List.length_filter_le (fun r : Ru => decide (T < r.2)) (R.take j)
                                      rw [List.length_take] at h1
                                      omega
                                    generalize hFe : ((R.take j).filter fun r => decide (T < r.2)) = FF at *
                                    have HFS := Lib.hid hfs
                                    have hg1 := HG.out.later (below_alloc' wr (.cells #[.int .u64 r.1, .int .u64 0, .int .u64 0, .int .u64 0, .int .i64 r.2] 37))
                                    obtain ⟨z0, z1, z2, z3, z4, z5, z6⟩ := hg1.nx.cells
                                    have HG1 := Lib.hid hg1
                                    by_cases htr : T < r.2
                                    · have hg2 := hg1.later (below_alloc' _ (.cells #[.int .u64 r.1, .int .u64 0, .int .u64 0, .int .u64 0, .int .i64 r.2] 37))
                                      have HO := Lib.hid (show ((wr.alloc (.cells #[.int .u64 r.1, .int .u64 0, .int .u64 0, .int .u64 0, .int .i64 r.2] 37)).alloc (.cells #[.int .u64 r.1, .int .u64 0, .int .u64 0, .int .u64 0, .int .i64 r.2] 37)).ownsRow w1.heap.size 37 5 vnr FF.length (FF.flatMap ruC) from hg2.r3)
                                      have HNW := Lib.hid (ru_news (r := r) (show RuB ((wr.alloc (.cells #[.int .u64 r.1, .int .u64 0, .int .u64 0, .int .u64 0, .int .i64 r.2] 37)).alloc (.cells #[.int .u64 r.1, .int .u64 0, .int .u64 0, .int .u64 0, .int .i64 r.2] 37)) (wr.heap.size + 1) r from heap_alloc_new' _ (by simp) _))
                                      have HBS := Lib.hid hg2.below.size
                                      have HG2 := Lib.hid hg2
                                      have HTR := Lib.hid (show decide (T < r.2) = true by simpa using htr)
                                      clear hg1 hg2 hc' hcx hr hfs hFe
                                      go_wp2_with (at_builtin; refine wpList_append_own_at _ rfl _ _ 29 rfl w1.heap.size 37 i0 (.agg #[.int .u64 0, .int .u64 0, .int .u64 0, .int .u64 0, .int .i64 0]) 5 40 Tryd.underlying29 hi hz0 hz1 hz2 rfl (by decide) vnr FF.length (FF.flatMap ruC) rfl HO.out ⟨wr.heap.size + 1, 0, none⟩ 1 1 (ruC r) rfl rfl HNW.out (ru_one _) (by unfold maxLen; omega) (by omega) HBS.out ?_; intro v9 w9 hown hgrow hnil hloc; obtain ⟨g9, c9, rfl⟩ := own_form hown; obtain ⟨hs9, hg9⟩ := HG2.out.appNR hown hgrow hloc; have fX := hs9.frozen; obtain ⟨z0, z1, z2, z3, z4, z5, z6⟩ := hs9.cells; have HG9 := Lib.hid hg9; clear hown hgrow hnil hloc hs9 hg9)
                                      exact ⟨⟨j + 1, _, by go_num, by omega, by rw [HFS.out, HTR.out]; exact HG9.out⟩, by simp only [intOf]; omega⟩
                                    · have HTR := Lib.hid (show decide (T < r.2) = false by simpa using htr)
                                      clear hg1 hc' hcx hr hfs hFe
                                      go_wp2_with fail
                                      exact ⟨⟨j + 1, _, by go_num, by omega, by rw [HFS.out, HTR.out]; simpa using HG1.out⟩, by simp only [intOf]; omega⟩
                                  · obtain rfl : j = rn := by omega
                                    have hg := HG.out
                                    rw [List.take_of_length_le (by rw [HRN.out]; exact Nat.le_refl _)] at hg
                                    obtain ⟨aov, capv, rfl, hcv, _⟩ := id (hg.r3.reads ruC_len)
                                    obtain ⟨x0, x1, x2, x3, x4, x5, x6⟩ := hg.sc.cells
                                    obtain ⟨z0, z1, z2, z3, z4, z5, z6⟩ := hg.nx.cells
                                    have fX := hg.sc.frozen
                                    have HC7 := Lib.hid hg.copy
                                    clear hg HG
                                    go_wp2_with fail
                                    have hnx := HS.out.next (T := T) HPL.out HSU.out hT2 hTE (by rw [HLE.out]; exact HLAT.out) (by unfold nextR; rw [HRE'.out, HNE.out]; exact HC7.out.1) HC7.out.2
                                    refine ⟨⟨c + 1, T, _, _, _, _, M', by go_num, by omega, hnx, ?_⟩, by simp only [intOf]; omega⟩
                                    have := @begun_later_len t ws ps
                                    have := HWL.out
                                    omega
            · obtain ⟨x0, x1, x2, x3, x4, x5, x6⟩ := hsc.l2.sc.cells
              obtain ⟨aop, capp, rfl, hcp, _⟩ := id (hsc.l2.row.reads wiC_len)
              have hbw := hsc.l2.below
              have hwi : (ws.length : Int) ≤ (n2 : Int) := by omega
              have HBW := Lib.hid hbw
              clear hsc hbw
              go_wp2_with fail
              go_ret
              exact ⟨rfl, HB1.out.trans (HBW.out.mono HB1.out.size)⟩
end Go.Proofs.YtnnkibdjbodncaaDoor
