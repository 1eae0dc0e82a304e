/- Profiles: the earliest time at which enough is free. Conditions: at most 4000 steps; times below 2^40. -/
import Derived.Test.YtnnkibdjbodncaaDoorSe
import Derived.Test.YtnnkibdjbodncaaDoorQ
namespace Go.Proofs.YtnnkibdjbodncaaDoor
open Go.RowKit
theorem pow_cast (m : Nat) : ((2 : Int) ^ m - 1) = ((2 ^ m - 1 : Nat) : Int) := by
  have := Nat.one_le_two_pow (n := m)
  rw [Int.natCast_sub this]
  simp
theorem first_any (x n : Nat) (hx : x < 256) (hn : n ≤ popN x) (w : World) (hT : Tab w) : Calls Tryd.prog 26 #[.agg #[.int .u64 x, .int .u64 0, .int .u64 0, .int .u64 0], .int .i64 n] w (FirstPost w [firstN x n, 0, 0, 0] true) := by
  by_cases he : popN x = n
  · subst he
    rw [show firstN x (popN x) = x by simp [firstN]]
    exact first_all x hx w
  · have h := first_some x n hx (by omega) w hT
    have hm8 := (clr_small ⟨x, hx⟩ ⟨n, by have := popN_le x; omega⟩ (show n < popN x by omega)).2.2.2.1
    have hp : 2 ^ nthN x n - 1 < 18446744073709551616 := by
      have : 2 ^ nthN x n ≤ 2 ^ 8 := Nat.pow_le_pow_right (by omega) (by simp only at hm8; omega)
      omega
    rw [pow_cast, u64_and_nat x _ (by omega) hp] at h
    rw [show firstN x n = x &&& (2 ^ nthN x n - 1) by simp [firstN, he]]
    exact h
theorem Lay.upto_now {l : List St} {now : Int} {F : Int → Nat} (h : Lay l now 2199023255552 F) (hn : now < 2199023255552) : nUpto l now = 1 := by
  have hlen : 0 < l.length := by cases hl : l with | nil => exact absurd hl (h.some_ hn) | cons a b => simp
  have hs0 : l[0]? = some (l[0]'hlen) := List.getElem?_eq_getElem hlen
  have e0 := h.first _ hs0
  have a := (upto_iff h.rising hs0 (t := now)).1 (by omega)
  have b := upto_le l now
  rcases Nat.lt_or_ge 1 l.length with h1 | h1
  · have hs1 : l[1]? = some (l[1]'h1) := List.getElem?_eq_getElem h1
    have := rising_get h.rising hs0 hs1 (by omega)
    have c := upto_iff h.rising hs1 (t := now)
    omega
  · omega
theorem four_set_drew {w : World} {g : Nat} {x0 x1 x2 x3 y0 y1 y2 y3 : Int} (H : Blk4 w g x0 x1 x2 x3) : Blk4 ((((w.setCell ⟨g, 0, none⟩ (.int .u64 y0)).setCell ⟨g, 1, none⟩ (.int .u64 y1)).setCell ⟨g, 2, none⟩ (.int .u64 y2)).setCell ⟨g, 3, none⟩ (.int .u64 y3)).drew g y0 y1 y2 y3 :=
  four_set (y0 := y0) (y1 := y1) (y2 := y2) (y3 := y3) H
def EarlPost (w : World) (F : Int → Nat) (now : Int) (wi : Wi) (l : List St) (e : Ending) (w' : World) : Prop :=
  Below w.heap.size w w' ∧ ((∃ t S, e = .returned (.tuple #[.int .i64 t, setV [((S : Nat) : Int), 0, 0, 0], .int .i64 0]) ∧ Best F now wi t S ∧ ∃ s ∈ l, s.1 = t) ∨
    (e = .returned (.tuple #[.int .i64 0, setV [0, 0, 0, 0], .int .i64 9]) ∧ ∀ t, now ≤ t → t < 1099511627776 → popN (avail F wi t) < wi.n))
set_option maxHeartbeats 8000000 in
theorem earliest_any {w : World} {f u : Nat} {l : List St} {g cap : Nat} {now : Int} {F : Int → Nat} (wi : Wi) (h : IsProf w f u l g cap) (hu : u < 256) (hFu : ∀ t, now ≤ t → SubS (F t) u) (hl : Lay l now 2199023255552 F) (h0 : 0 ≤ now) (hm : l.length ≤ 4000)
    (hw1 : 1 ≤ wi.long) (hw2 : wi.long ≤ 1099511627776) (hn : wi.n ≤ 256) (hof : wi.of < 256) (hhi : ∀ s ∈ l, s.1 < 1099511627776) (hT : Tab w) :
    Calls Tryd.prog 19 #[.pointer (some ⟨f, 0, none⟩), .int .i64 wi.n, .int .i64 wi.long, .int .i64 now, .agg #[.int .u64 wi.of, .int .u64 0, .int .u64 0, .int .u64 0]] w (EarlPost w F now wi l) := by
  have hlen : 0 < l.length := by cases hl : l with | nil => exact absurd hl h.some | cons a b => simp
  have hs0 : l[0]? = some (l[0]'hlen) := List.getElem?_eq_getElem hlen
  have e0 := hl.first _ hs0
  generalize (l[0]'hlen) = s0 at hs0 e0
  have hnow : now < 1099511627776 := by rw [← e0]; exact hhi s0 (List.mem_of_getElem? hs0)
  have HD := Lib.hid (fun w' (hb' : Below w.heap.size w w') (x : St) (hx : x ∈ l) => by
    have := hhi x hx
    have := (hl.before x hx).1
    have hd := during_any (h.below hb') (by omega) hl.rising (hl.timed h0) x.1 (x.1 + wi.long) s0 hs0 (by omega) (by omega) (by omega) (by omega)
    rwa [during_up hl hu hFu (by omega) hw1 (by omega)] at hd)
  have HK := Lib.hid (fun w' (hb' : Below w.heap.size w w') => ok_any (h.below hb'))
  have HF := Lib.hid (fun w' (hb' : Below w.heap.size w w') => by
    have hf := find_any (h.below hb') (by omega) hl.rising (hl.timed h0) now h0 (by omega)
    rw [hl.upto_now (by omega)] at hf
    exact hf)
  have hcell : ∀ w', Below w.heap.size w w' → ∀ i s, l[i]? = some s → w'.cell? ⟨g, i * 5, none⟩ = some (.int .i64 s.1) := by
    intro w' hb' i s hi
    obtain ⟨g', cap', he, _, _, _, _, hc⟩ := (h.below hb').row.form h.some
    simp only [Value.slice.injEq, Option.some.injEq, Addr.mk.injEq, and_true, true_and] at he
    obtain ⟨rfl, rfl⟩ := he
    exact (hc i s hi).1
  have HP := Lib.hid (fun w' (hb' : Below w.heap.size w w') => (h.below hb').blk.cells.2.2.2.2)
  have HC := Lib.hid hcell
  have HTB := Lib.hid (fun w' (hb' : Below w.heap.size w w') => hT.below hb')
  have HSN := Lib.hid (scan_none hl hw1)
  have HSS := Lib.hid (fun k s => scan_some hl hw1 (k := k) (s := s))
  have HHI := Lib.hid hhi
  obtain ⟨nl, hnl⟩ : ∃ n, l.length = n := ⟨_, rfl⟩
  have HNL := Lib.hid hnl
  rw [hnl] at HP hm hlen
  have HAv := Lib.hid (show ∀ t, inter F t wi.long &&& wi.of = avail F wi t from fun _ => rfl)
  have HIL := Lib.hid (fun t => inter_lt F t wi.long)
  have HAL := Lib.hid (fun t => avail_lt F wi t)
  have c0now := hcell w (Below.refl _ _) 0 s0 hs0
  rw [e0, Nat.zero_mul] at c0now
  have pnow := HP.out w (Below.refl _ _)
  have hcap : nl ≤ cap := by
    obtain ⟨g', cap', he, _, _, hc, _, _⟩ := h.row.form h.some
    simp only [Value.slice.injEq, Option.some.injEq, Addr.mk.injEq, and_true, true_and] at he
    obtain ⟨rfl, rfl⟩ := he
    omega
  have hB1 := below_alloc' w (.cells #[.int .u64 wi.of, .int .u64 0, .int .u64 0, .int .u64 0] 28)
  have hB2 := hB1.alloc (by simp) (.cells #[.int .u64 0, .int .u64 0, .int .u64 0, .int .u64 0] 28)
  have H2 := two w (.cells #[.int .u64 wi.of, .int .u64 0, .int .u64 0, .int .u64 0] 28) (.cells #[.int .u64 0, .int .u64 0, .int .u64 0, .int .u64 0] 28)
  have HB2 := Lib.hid hB2
  have HO2 := Lib.hid (show Blk4 _ w.heap.size wi.of 0 0 0 from H2.1)
  have HR2 := Lib.hid (show Blk4 _ (w.heap.size + 1) 0 0 0 0 from H2.2)
  have c0now2 := hcell _ hB2 0 s0 hs0
  rw [e0, Nat.zero_mul] at c0now2
  have pnow2 := HP.out _ hB2
  have HBF := Lib.hid hl.before
  have n0 : ¬ ((wi.n : Nat) : Int) < 0 := by omega
  have n1 : ¬ (256 : Int) < ((wi.n : Nat) : Int) := by omega
  have n2 : ¬ ((wi.long : Nat) : Int) < 1 := by omega
  have n3 : ¬ (1099511627776 : Int) < ((wi.long : Nat) : Int) := by omega
  have n4 : ¬ (1099511627776 : Int) < now := by omega
  have n5 : ¬ now < now := by omega
  clear hcell hhi h hT hs0 hB1 hB2 H2 hl hnl
  go_enter Tryd.func19, Tryd.ntmps19
  go_wp2_with (first
    | (go_at_call 24; refine (HK.out _ HB2.out).mono ?_; rintro e w2 ⟨rfl, rfl⟩)
    | (go_at_call 25; refine (HF.out _ HB2.out).mono ?_; rintro e w3 ⟨rfl, hb3⟩; have HL3 := Lib.hid (HB2.out.trans (hb3.mono HB2.out.size)); have HO3 := Lib.hid (HO2.out.below hb3); have HR3 := Lib.hid (HR2.out.below hb3); clear hb3))
  go_loopw [13] (fun i wr => ∃ k : Nat, i = .int .i64 k ∧ k ≤ nl ∧ Below w.heap.size w wr ∧ Blk4 wr w.heap.size wi.of 0 0 0 ∧ Blk4 wr (w.heap.size + 1) 0 0 0 0 ∧ Hid (∀ (i : Nat) (s : St), i < k → l[i]? = some s → popN (avail F wi s.1) < wi.n)) (fun i _ => nl - (intOf i).toNat)
  case atStart => exact ⟨0, rfl, Nat.zero_le _, HL3.out, HO3.out, HR3.out, Lib.hid fun i s hi => by omega⟩
  case round =>
    obtain ⟨k, rfl, hk, hbel, hof', hres, HFL⟩ := hrel
    have HL := Lib.hid hbel
    have HO := Lib.hid hof'
    have HR := Lib.hid hres
    have p0 := HP.out _ hbel
    clear hbel hof' hres
    by_cases hlt : k < nl
    · obtain ⟨x, hx⟩ : ∃ x, l[k]? = some x := ⟨l[k]'(by have := HNL.out; omega), List.getElem?_eq_getElem (by have := HNL.out; omega)⟩
      have hxm := List.mem_of_getElem? hx
      have hxt := HHI.out x hxm
      have hxn := (HBF.out x hxm).1
      have c0 := HC.out _ HL.out k x hx
      have HDX := Lib.hid (fun w' hb' => HD.out w' hb' x hxm)
      have hA1 := HAv.out x.1
      have hI := HIL.out x.1
      have hA := HAL.out x.1
      have HX := Lib.hid hx
      have HXM := Lib.hid hxm
      obtain ⟨t, ht⟩ : ∃ t, x.1 = t := ⟨_, rfl⟩
      rw [ht] at hxt hxn c0 HDX hA1 hI hA
      have HTE := Lib.hid ht
      obtain ⟨D, hD⟩ : ∃ D, inter F t wi.long = D := ⟨_, rfl⟩
      rw [hD] at HDX hA1 hI
      have hand : bits .and .u64 (D : Int) (wi.of : Int) = ((avail F wi t : Nat) : Int) := by rw [u64_and_nat _ _ (by omega) (by omega), hA1]
      have h00 : bits .and .u64 0 0 = 0 := by decide
      have qm : (if now < t then t else now) = t := by split <;> omega
      have qw : IntKind.i64.wrap (t + (wi.long : Int)) = t + (wi.long : Int) := IntWalk.i64_in _ (by omega)
      obtain ⟨A, hAe⟩ : ∃ A, avail F wi t = A := ⟨_, rfl⟩
      rw [hAe] at hand hA
      have HAE := Lib.hid hAe
      clear hx hxm ht hD hA1 hAe hxn
      by_cases hp : wi.n ≤ popN A
      · go_wp2_with (first
          | (go_at_call 20; refine (HDX.out _ HL.out).mono ?_; rintro e w4 ⟨rfl, hb4⟩; go_loud (have HL4 := Lib.hid (HL.out.trans (hb4.mono HL.out.size)); have HO4 := Lib.hid (HO.out.below hb4); have HR4 := Lib.hid (HR.out.below hb4); clear hb4; have HLW := Lib.hid (HL4.out.alloc HL4.out.size (.cells #[.int .u64 D, .int .u64 0, .int .u64 0, .int .u64 0] 28)); have hOW := HO4.out.below (below_alloc' w4 (.cells #[.int .u64 D, .int .u64 0, .int .u64 0, .int .u64 0] 28)); have HRW := Lib.hid (HR4.out.below (below_alloc' w4 (.cells #[.int .u64 D, .int .u64 0, .int .u64 0, .int .u64 0] 28))); have hXW : Blk4 (w4.alloc (.cells #[.int .u64 D, .int .u64 0, .int .u64 0, .int .u64 0] 28)) w4.heap.size D 0 0 0 := heap_alloc_new w4 _; obtain ⟨o0, o1, o2, o3⟩ := hOW.cells; obtain ⟨x0, x1, x2, x3⟩ := hXW.cells; clear hOW hXW))
          | (go_at_call 5; refine (and_any _ _ _ _ _ _ _ _ _).mono ?_; rintro e w5 ⟨rfl, hb5⟩; rw [setV_four, h00, hand]; have HL5 := Lib.hid (HLW.out.trans (hb5.mono HLW.out.size)); have HR5 := Lib.hid (HRW.out.below hb5); clear hb5)
          | (go_at_call 26; refine (first_any A wi.n hA hp _ (HTB.out _ HL5.out)).mono ?_; rintro e w6 ⟨rfl, hb6⟩; rw [setV_four]; have HL6 := Lib.hid (HL5.out.trans (hb6.mono HL5.out.size)); have HR6 := Lib.hid (HR5.out.below hb6); clear hb6))
        obtain ⟨S, hS⟩ : ∃ S, firstN A wi.n = S := ⟨_, rfl⟩
        rw [hS]
        have hW : Blk4 (w6.alloc (.cells #[.int .u64 S, .int .u64 0, .int .u64 0, .int .u64 0] 28)) w6.heap.size S 0 0 0 := heap_alloc_new w6 _
        have hR := HR6.out.below (below_alloc' w6 (.cells #[.int .u64 S, .int .u64 0, .int .u64 0, .int .u64 0] 28))
        have HRR := Lib.hid hR
        have HLL := Lib.hid (HL6.out.alloc HL6.out.size (.cells #[.int .u64 S, .int .u64 0, .int .u64 0, .int .u64 0] 28))
        obtain ⟨x0, x1, x2, x3⟩ := hW.cells
        obtain ⟨r0, r1, r2, r3⟩ := hR.cells
        have fR := hR.frozen
        have HSS2 := Lib.hid hS
        clear hW hR hS
        go_region
        all_goals go_wp2_with fail
        all_goals have hZ := four_set_drew (y0 := (S : Int)) (y1 := 0) (y2 := 0) (y3 := 0) HRR.out
        all_goals obtain ⟨z0, z1, z2, z3⟩ := hZ.cells
        all_goals refine bodyPost_ret (v := .tuple #[.int .i64 t, setV [(S : Int), 0, 0, 0], .int .i64 0]) ?_ rfl ⟨(four_below HLL.out (by omega)).drew, .inl ⟨t, S, rfl, ?_, x, HXM.out, HTE.out⟩⟩
        all_goals first
          | (have hb := HSS.out k x HX.out (by rw [HTE.out]; exact hxt) (by rw [HTE.out, HAE.out]; exact hp) (fun i s' hi hs' => HFL.out i s' hi hs'); rw [HTE.out, HAE.out, HSS2.out] at hb; exact hb)
          | (clear hZ x0 x1 x2 x3 r0 r1 r2 r3 fR; simp [results, Tryd.results19, go_sem, setV, z0, z1, z2, z3])
      · have hp : popN A < wi.n := by omega
        go_wp2_with (first
          | (go_at_call 20; refine (HDX.out _ HL.out).mono ?_; rintro e w4 ⟨rfl, hb4⟩; go_loud (have HL4 := Lib.hid (HL.out.trans (hb4.mono HL.out.size)); have HO4 := Lib.hid (HO.out.below hb4); have HR4 := Lib.hid (HR.out.below hb4); clear hb4; have HLW := Lib.hid (HL4.out.alloc HL4.out.size (.cells #[.int .u64 D, .int .u64 0, .int .u64 0, .int .u64 0] 28)); have hOW := HO4.out.below (below_alloc' w4 (.cells #[.int .u64 D, .int .u64 0, .int .u64 0, .int .u64 0] 28)); have HRW := Lib.hid (HR4.out.below (below_alloc' w4 (.cells #[.int .u64 D, .int .u64 0, .int .u64 0, .int .u64 0] 28))); have hXW : Blk4 (w4.alloc (.cells #[.int .u64 D, .int .u64 0, .int .u64 0, .int .u64 0] 28)) w4.heap.size D 0 0 0 := heap_alloc_new w4 _; obtain ⟨o0, o1, o2, o3⟩ := hOW.cells; have HOW := Lib.hid hOW; obtain ⟨x0, x1, x2, x3⟩ := hXW.cells; clear hOW hXW))
          | (go_at_call 5; refine (and_any _ _ _ _ _ _ _ _ _).mono ?_; rintro e w5 ⟨rfl, hb5⟩; rw [setV_four, h00, hand]; have HL5 := Lib.hid (HLW.out.trans (hb5.mono HLW.out.size)); have HR5 := Lib.hid (HRW.out.below hb5); have HO5 := Lib.hid (HOW.out.below hb5); clear hb5)
          | (go_at_call 26; refine (first_many A wi.n hA hp _).mono ?_; rintro e w6 ⟨rfl, hb6⟩; rw [setV_four]; have HL6 := Lib.hid (HL5.out.trans (hb6.mono HL5.out.size)); have HO6 := Lib.hid (HO5.out.below hb6); have HR6 := Lib.hid (HR5.out.below hb6); clear hb6))
        refine ⟨⟨k + 1, by go_num, by omega, HL6.out.alloc HL6.out.size _, HO6.out.below (below_alloc' w6 _), HR6.out.below (below_alloc' w6 _), Lib.hid fun i s hi hs => ?_⟩, by simp only [intOf]; omega⟩
        by_cases hik : i < k
        · exact HFL.out i s hik hs
        · obtain rfl : i = k := by omega
          have hx := HX.out
          rw [hx] at hs
          cases hs
          rw [HTE.out, HAE.out]
          exact hp
    · obtain rfl : k = nl := by omega
      obtain ⟨r0, r1, r2, r3⟩ := HR.out.cells
      have fR := HR.out.frozen
      go_wp2_with fail
      have hZ := four_set (y0 := 0) (y1 := 0) (y2 := 0) (y3 := 0) HR.out
      obtain ⟨z0, z1, z2, z3⟩ := hZ.cells
      refine bodyPost_ret (v := .tuple #[.int .i64 0, setV [0, 0, 0, 0], .int .i64 9]) ?_ rfl ⟨four_below HL.out (by omega), .inr ⟨rfl, HSN.out fun i s hs => HFL.out i s (by have := (List.getElem?_eq_some_iff.1 hs).1; have := HNL.out; omega) hs⟩⟩
      clear hZ r0 r1 r2 r3 fR
      simp [results, Tryd.results19, go_sem, setV, z0, z1, z2, z3]
end Go.Proofs.YtnnkibdjbodncaaDoor
