/- The walk of NodeReach: it returns true for every pair; no condition. -/
import Derived.Test.YtojinbckpjddmaaWm
import Derived.Test.YtojinbckpjddmaaWmay
import Derived.Maps.AppendAt
namespace Go.Proofs.Ytojinbckpjddmaa
open Go.RowKit

/-- One event of a state: what has been met, and what is to be gone on from. -/
def visitE (s : Int) (st : List Int × List Int) (ev : Int) : List Int × List Int :=
  if st.1.contains (nextF s 0 0 ev 0 3).1 then st else (st.1 ++ [(nextF s 0 0 ev 0 3).1], st.2 ++ [(nextF s 0 0 ev 0 3).1])
def visitS (st : List Int × List Int) (s : Int) : List Int × List Int := (evL s).foldl (visitE s) st
def roundF (st : List Int × List Int) : List Int × List Int := st.2.foldl visitS (st.1, [])
def reachF (a : Int) : Nat → List Int × List Int
  | 0 => ([a], [a])
  | k + 1 => roundF (reachF a k)

theorem reach_all : ∀ a, a < 8 → ∀ b, b < 8 → (reachF ((a : Nat) : Int) 8).1.contains ((b : Nat) : Int) = true := by decide +kernel
def smallB (l : List Int) : Bool := decide (l.length ≤ 8) && l.all fun s => decide (0 ≤ s ∧ s < 8)
theorem reach_small_nat : ∀ a, a < 8 → ∀ k, k < 9 → smallB (reachF ((a : Nat) : Int) k).2 = true := by decide +kernel

theorem next_reach (s ev : Int) (h0 : 0 ≤ s) (h1 : s < 8) (he : ev ∈ evL s) : ∃ nb nc, nextF s 0 0 ev 0 3 = ((nextF s 0 0 ev 0 3).1, nb, nc, 0) ∧ 0 ≤ (nextF s 0 0 ev 0 3).1 ∧ (nextF s 0 0 ev 0 3).1 < 8 := by
  have hok := may_ok s 0 0 ev 0 _ rfl
  have hev : 1 ≤ ev ∧ ev < 12 := by
    rw [show evL s = evK s.toNat 12 from if_pos ⟨h0, h1⟩, mem_evK] at he
    obtain ⟨h2, h3, h4⟩ := he
    unfold evIs at h4
    simp at h4
    omega
  have hq : inB (evL s) ev (evL s).length = true := (inB_all _ _).2 he
  rw [hq] at hok
  unfold MayOk at hok
  rcases hok with ⟨_, _, _, _, hh⟩ | ⟨_, _, _, _, hh⟩ | ⟨hd, hb, _, ha, ha7, _⟩
  · omega
  · simp at hh
  · have h4 : ∀ r : Int × Int × Int × Int, r.2.2.2 = 0 → r = (r.1, r.2.1, r.2.2.1, 0) := by
      rintro ⟨a, b, c, d⟩ h
      simp at h
      subst h
      rfl
    exact ⟨_, _, h4 _ hd, ha, by omega⟩
theorem evL_len (s : Int) : (evL s).length ≤ 12 := by
  unfold evL
  split
  · exact evK_len _ _
  · simp

/-- A slice of numbers of the call's own, written out. -/
def OwnS (w : World) (v : Value) (l : List Int) : Prop := ∃ ao cap, v = .slice ao l.length cap ∧ w.ownsRow 0 3 1 v l.length (l.map (Value.int .i64))
theorem OwnS.of_row {w : World} {base : Nat} {v : Value} {l : List Int} (h : w.ownsRow base 3 1 v l.length (l.map (Value.int .i64))) : OwnS w v l := by
  obtain ⟨ao, cap, rfl, _, _⟩ := own_shape h
  refine ⟨ao, cap, rfl, h.1, ?_⟩
  rcases h.2 with h2 | ⟨g, cap, cur, hv, _, r⟩
  · exact .inl h2
  · exact .inr ⟨g, cap, cur, hv, Nat.zero_le _, r⟩
theorem OwnS.below {w w' : World} {v : Value} {l : List Int} (h : OwnS w v l) (hb : Below w.heap.size w w') : OwnS w' v l := by
  obtain ⟨ao, cap, rfl, h⟩ := h
  exact ⟨ao, cap, rfl, own_below h hb⟩
theorem OwnS.alloc {w : World} {v : Value} {l : List Int} (h : OwnS w v l) (o : Obj) : OwnS (w.alloc o) v l := h.below ((Below.refl _ _).alloc (Nat.le_refl _) o)
theorem OwnS.set {w w' : World} {v : Value} {l : List Int} {B : Nat} {M N : List Int} (h : OwnS w v l) (hm : MapIs w B N) (hs : SetStep w w' B M) : OwnS w' v l := by
  obtain ⟨ao, cap, rfl, h⟩ := h
  exact ⟨ao, cap, rfl, own_set h hm hs⟩
theorem OwnS.kept {w w' : World} {v : Value} {l : List Int} (h : OwnS w v l) {row : Option Nat} (hg : w.grownBy w' row) (hne : v.ownBlock = none ∨ v.ownBlock ≠ row) : OwnS w' v l := by
  obtain ⟨ao, cap, rfl, h⟩ := h
  exact ⟨ao, cap, rfl, h.kept hg hne⟩
theorem OwnS.at {w : World} {ao : Option Addr} {cap : Nat} {l : List Int} (h : OwnS w (.slice ao l.length cap) l) (i : Nat) (hi : i < l.length) :
    ∃ g, ao = some ⟨g, 0, none⟩ ∧ g < w.heap.size ∧ w.cell? ⟨g, i, none⟩ = some (.int .i64 (l.getD i 0)) := by
  obtain ⟨_, _, _, hrow⟩ := h
  obtain ⟨ao', cap', hv, _, hc⟩ := own_shape hrow
  simp only [Value.slice.injEq] at hv
  obtain ⟨rfl, _, rfl⟩ := hv
  obtain ⟨g, hg, _, hl, hcell⟩ := hc i hi
  exact ⟨g, hg, hl, hcell⟩
theorem OwnS.row {w : World} {v : Value} {l : List Int} (h : OwnS w v l) : w.ownsRow 0 3 1 v l.length (l.map (Value.int .i64)) := by
  obtain ⟨_, _, _, hrow⟩ := h
  exact hrow
theorem OwnS.len_le {w : World} {v : Value} {l : List Int} (h : OwnS w v l) : l.length ≤ 9223372036854775807 := by
  obtain ⟨_, _, _, hrow⟩ := h
  obtain ⟨_, _, _, hm, _⟩ := own_shape hrow
  unfold maxLen at hm
  omega
/-- two slices lie in blocks of their own -/
def Apart (v u : Value) : Prop := v.ownBlock = none ∨ v.ownBlock ≠ u.ownBlock
theorem OwnS.lt {w : World} {v : Value} {l : List Int} (h : OwnS w v l) : ∀ k, v.ownBlock = some k → k < w.heap.size := by
  obtain ⟨ao, cap, rfl, h⟩ := h
  exact fun k hk => (h.lt k hk).2
theorem Apart.next {v u u' : Value} {w : World} {l : List Int} (h : Apart v u) (hv : OwnS w v l) {n : Nat} (hn : w.heap.size ≤ n) (hu : u'.ownBlock = u.ownBlock ∨ u'.ownBlock = some n) : Apart v u' := by
  rcases h with h | h
  · exact .inl h
  · rcases hu with hu | hu
    · exact .inr (by rw [hu]; exact h)
    · cases hk : v.ownBlock with
      | none => exact .inl hk
      | some k =>
        refine .inr ?_
        rw [hk, hu]
        have := hv.lt k hk
        intro e
        injection e with e
        omega
def EventsO (w : World) (l : List Int) (e : Ending) (w' : World) : Prop := ∃ v, e = .returned v ∧ OwnS w' v l ∧ (∀ k, v.ownBlock = some k → w.heap.size ≤ k) ∧ Below w.heap.size w w'
theorem events_o (s : Int) (w : World) : Calls Try.prog 11 #[.int .i64 s] w (EventsO w (evL s)) :=
  (events_any s w).mono fun _ _ ⟨v, he, hown, hb⟩ => ⟨v, he, .of_row hown, fun k hk => (hown.lt k hk).1, hb⟩

theorem Apart.new {v u : Value} {W : World} {l : List Int} (hu : OwnS W u l) (h : ∀ k, v.ownBlock = some k → W.heap.size ≤ k) : Apart v u := by
  cases hk : v.ownBlock with
  | none => exact .inl hk
  | some k =>
    refine .inr ?_
    rw [hk]
    intro e
    have h1 := h k hk
    have h2 := hu.lt k e.symm
    omega
theorem fold_take {α : Type} (f : α → Int → α) (l : List Int) (z : α) (k : Nat) (h : k < l.length) : (l.take (k + 1)).foldl f z = f ((l.take k).foldl f z) (l.getD k 0) := by
  rw [List.take_succ_eq_append_getElem h, List.foldl_append]
  simp [List.getD, h]
theorem visitE_old {s ev : Int} {M R : List Int} (h : M.contains (nextF s 0 0 ev 0 3).1 = true) : visitE s (M, R) ev = (M, R) := by unfold visitE; simp only [h, if_true]
theorem visitE_new {s ev : Int} {M R : List Int} (h : M.contains (nextF s 0 0 ev 0 3).1 = false) : visitE s (M, R) ev = (M ++ [(nextF s 0 0 ev 0 3).1], R ++ [(nextF s 0 0 ev 0 3).1]) := by
  unfold visitE; simp only [h]; rfl

/-- Where a round stands: the set, what is to be gone on from, and nothing old turned. -/
structure At (N B : Nat) (w wr : World) (v : Value) (st : List Int × List Int) : Prop where
  map : MapIs wr B st.1
  own : OwnS wr v st.2
  bel : Below N w wr
  nb : N ≤ B
  big : ∀ k, v.ownBlock = some k → N ≤ k

theorem At.below {N B : Nat} {w wr w' : World} {v : Value} {st : List Int × List Int} (h : At N B w wr v st) (hb : Below wr.heap.size wr w') : At N B w w' v st :=
  ⟨h.map.below hb, h.own.below hb, h.bel.trans (hb.mono (Nat.le_of_lt (Nat.lt_of_le_of_lt h.nb h.map.lt))), h.nb, h.big⟩
theorem At.alloc {N B : Nat} {w wr : World} {v : Value} {st : List Int × List Int} (h : At N B w wr v st) (o : Obj) : At N B w (wr.alloc o) v st := h.below ((Below.refl _ _).alloc (Nat.le_refl _) o)
theorem At.set {N B : Nat} {w wr w' : World} {v : Value} {M M' R : List Int} (h : At N B w wr v (M, R)) (hs : SetStep wr w' B M') : At N B w w' v (M', R) :=
  ⟨hs.is, h.own.set h.map hs, h.bel.trans ⟨hs.os, hs.tape, hs.output, by rw [hs.size]; exact Nat.le_refl _, fun k hk => hs.block k (by have := h.nb; omega)⟩, h.nb, h.big⟩
theorem At.push {N B : Nat} {w wr w' : World} {u v' : Value} {M R : List Int} {ns : Int} {o : Obj} (h : At N B w wr u (M, R)) (hg : (wr.alloc o).grownBy w' u.ownBlock)
    (hown : w'.ownsRow 0 3 1 v' (R.length + 1) (R.map (Value.int .i64) ++ [.int .i64 ns])) (hblk : v'.ownBlock = u.ownBlock ∨ v'.ownBlock = some (wr.heap.size + 1)) : At N B w w' v' (M, R ++ [ns]) := by
  have hN : N ≤ (wr.alloc o).heap.size := by have := h.map.lt; have := h.nb; simp; omega
  have hN2 : N ≤ wr.heap.size + 1 := by simpa using hN
  obtain ⟨_, _, _, hrow⟩ := h.own
  refine ⟨map_grown (h.map.alloc o) (hrow.alloc o) hg, .of_row (base := 0) (by simpa using hown), (h.alloc o).bel.grown hg hN (fun k hk => h.big k hk), h.nb, fun k hk => ?_⟩
  rcases hblk with e | e
  · exact h.big k (by rw [← e]; exact hk)
  · rw [e] at hk; injection hk with hk; omega
theorem SetStep.lt {w w' : World} {B : Nat} {M : List Int} (hs : SetStep w w' B M) {g : Nat} (h : g < w.heap.size) : g < w'.heap.size := by rw [hs.size]; exact h

set_option maxHeartbeats 1000000 in
set_option maxRecDepth 100000 in
theorem reach_any (x y : Int) (a b : Nat) (hx : x % 8 = (a : Int)) (hy : y % 8 = (b : Int)) (ha : a < 8) (hb : b < 8) (w : World) (hx0 : 0 ≤ x) (hy0 : 0 ≤ y) (hx1 : x ≤ 255) (hy1 : y ≤ 255) :
    Calls Try.prog 6 #[.int .u8 x, .int .u8 y] w fun e w' => e = .returned (.bool true) ∧ Below w.heap.size w w' := by
  obtain ⟨i0, hi, hz0, hz1, hz2⟩ := info_parts info3
  have hmm := @run_makeMap Try.prog
  have hM0 : MapIs (w.alloc (.map #[] 0)) w.heap.size [] := heap_alloc_new _ _
  have hb0 : Below w.heap.size w (w.alloc (.map #[] 0)) := (Below.refl _ _).alloc (Nat.le_refl _) _
  go_enter Try.func6, Try.ntmps6
  go_wp2_with (refine wpList_update_set _ rfl _ _ _ (.inr rfl) w.heap.size [] (a : Int) rfl rfl rfl hM0 rfl ?_)
  intro w1 hs1
  have hb1 : Below w.heap.size w w1 := hb0.trans ⟨hs1.os, hs1.tape, hs1.output, by rw [hs1.size]; exact Nat.le_refl _, fun k hk => hs1.block k (by omega)⟩
  have hz1' : w.heap.size < w1.heap.size := by rw [hs1.size]; simp
  have hm1 : MapIs w1 w.heap.size [(a : Int)] := hs1.is
  clear hM0 hb0 hs1 hmm
  go_wp2
  have hA0 : At w.heap.size w.heap.size w (w1.alloc (.cells #[.int .i64 (a : Int)] 3)) (.slice (some ⟨w1.heap.size, 0, none⟩) 1 1) (reachF (a : Int) 0) :=
    ⟨hm1.alloc _, ⟨some ⟨w1.heap.size, 0, none⟩, 1, rfl, rfl, .inr ⟨w1.heap.size, 1, #[.int .i64 (a : Int)], rfl, Nat.zero_le _, heap_alloc_new _ _, Nat.le_refl 1, by unfold maxLen; omega, rfl, rfl⟩⟩, hb1.alloc (by omega) _, Nat.le_refl _, fun k hk => by simp [Value.ownBlock] at hk; omega⟩
  go_loopw [8, 27] (fun v i wr => ∃ k : Nat, k ≤ 8 ∧ i = .int .i64 k ∧ At w.heap.size w.heap.size w wr v (reachF (a : Int) k)) (fun _ i _ => 8 - (intOf i).toNat)
  case atStart => exact ⟨0, by omega, rfl, hA0⟩
  case round =>
    clear hA0 hm1 hb1 hz1'
    obtain ⟨k, hk, rfl, hA⟩ := hrel
    by_cases hlt : k < 8
    · have hsm := reach_small_nat a ha k (by omega)
      have hstep : reachF (a : Int) (k + 1) = (reachF (a : Int) k).2.foldl visitS ((reachF (a : Int) k).1, []) := rfl
      generalize reachF (a : Int) k = st at hA hsm hstep
      obtain ⟨M, R⟩ := st
      have HSTEP := Lib.hid hstep
      have HSM := Lib.hid hsm
      clear hstep hsm
      dsimp only at HSTEP HSM hA
      obtain ⟨ao, cap, rfl, hown⟩ := hA.own
      have HR : Hid (OwnS wr (.slice ao R.length cap) R) := ⟨ao, cap, rfl, hown⟩
      have hrl : (0 : Int) ≤ (R.length : Int) := by omega
      have hrl2 : R.length ≤ 9223372036854775807 := HR.out.len_le
      clear hown
      go_wp2_with fail
      obtain ⟨wo, rfl⟩ : ∃ wo : World, wo = wr := ⟨_, rfl⟩
      go_loopw [9, 31] (fun v j wr => ∃ (j' : Nat) (st : List Int × List Int), j' ≤ R.length ∧ j = .int .i64 j' ∧ st = (R.take j').foldl visitS (M, []) ∧ st.2.length ≤ 12 * j' ∧ At w.heap.size w.heap.size w wr v st ∧ OwnS wr (.slice ao R.length cap) R ∧ Apart (.slice ao R.length cap) v) (fun _ j _ => R.length - (intOf j).toNat)
      case atStart => exact ⟨0, (M, []), by omega, rfl, rfl, by simp, ⟨hA.map, ⟨none, 0, rfl, rfl, .inl ⟨rfl, rfl⟩⟩, hA.bel, Nat.le_refl _, fun k hk => by simp [Value.ownBlock] at hk⟩, HR.out, by cases ao <;> simp [Apart, Value.ownBlock]⟩
      case round =>
        obtain ⟨j, st, hj, rfl, hst, hsl, hB, hR, hap⟩ := hrel
        by_cases hjl : j < R.length
        · obtain ⟨g, rfl, hgl, hcell⟩ := hR.at j hjl
          have hs := List.getElem_mem hjl
          have HF := Lib.hid (fold_take visitS R (M, []) j hjl)
          have hRj : R.getD j 0 = R[j] := by simp [List.getD, hjl]
          rw [← hRj] at hs
          clear hRj
          have hsr : 0 ≤ R.getD j 0 ∧ R.getD j 0 < 8 ∧ R.length ≤ 8 := by
            have h := HSM.out
            unfold smallB at h
            simp only [Bool.and_eq_true, decide_eq_true_eq, List.all_eq_true] at h
            exact ⟨(h.2 _ hs).1, (h.2 _ hs).2, h.1⟩
          generalize R.getD j 0 = s at hcell HF hsr
          clear hs
          obtain ⟨hs0, hs1, hR8⟩ := hsr
          have hjl' : (j : Int) < (R.length : Int) := by omega
          have hj0 : (0 : Int) ≤ (j : Int) := by omega
          have HR2 := Lib.hid hR
          have HB := Lib.hid hB
          have HAP := Lib.hid hap
          have HST := Lib.hid hst
          clear hR hB hap hst
          go_wp2_with fail
          refine (events_o _ _).mono ?_
          rintro e w3 ⟨v3, rfl, ⟨ao3, cap3, rfl, hrow3⟩, hbig3, hb3⟩
          have HO3 : Hid (OwnS w3 (.slice ao3 (evL s).length cap3) (evL s)) := ⟨_, _, rfl, hrow3⟩
          have hB3 : At w.heap.size w.heap.size w w3 u9 st := ⟨HB.out.map.below hb3, HB.out.own.below hb3, HB.out.bel.trans (hb3.mono (Nat.le_of_lt (Nat.lt_of_le_of_lt HB.out.nb HB.out.map.lt))), Nat.le_refl _, HB.out.big⟩
          have HR3 := Lib.hid (HR2.out.below hb3)
          have HA3 : Hid (Apart (.slice ao3 (evL s).length cap3) u9) := Apart.new HB.out.own hbig3
          have hl12 := evL_len s
          have HNX : Hid (∀ ev, ev ∈ evL s → ∃ nb nc, nextF s 0 0 ev 0 3 = ((nextF s 0 0 ev 0 3).1, nb, nc, 0) ∧ 0 ≤ (nextF s 0 0 ev 0 3).1 ∧ (nextF s 0 0 ev 0 3).1 < 8) := fun ev he => next_reach s ev hs0 hs1 he
          have HVS : Hid (visitS st s = (evL s).foldl (visitE s) st) := rfl
          clear hrow3 hbig3 hb3 hcell HB HR2
          generalize evL s = L at *
          go_wp2_with fail
          obtain ⟨wo3, rfl⟩ : ∃ wo3 : World, wo3 = w3 := ⟨_, rfl⟩
          obtain ⟨st0, rfl⟩ : ∃ st0 : List Int × List Int, st0 = st := ⟨_, rfl⟩
          go_loopw [9, 38] (fun v i wr => ∃ (i' : Nat) (st : List Int × List Int), i' ≤ L.length ∧ i = .int .i64 i' ∧ st = (L.take i').foldl (visitE s) st0 ∧ st.2.length ≤ 12 * j + i' ∧ At w.heap.size w.heap.size w wr v st ∧ OwnS wr (.slice (some ⟨g, 0, none⟩) R.length cap) R ∧ OwnS wr (.slice ao3 L.length cap3) L ∧ Apart (.slice (some ⟨g, 0, none⟩) R.length cap) v ∧ Apart (.slice ao3 L.length cap3) v) (fun _ i _ => L.length - (intOf i).toNat)
          case atStart => exact ⟨0, st0, by omega, rfl, rfl, by omega, hB3, HR3.out, HO3.out, HAP.out, HA3.out⟩
          case round =>
            clear HR3 HO3 HAP HA3 hB3
            obtain ⟨i, st, hi', rfl, hst, hsl, hB, hR, hL, hap1, hap2⟩ := hrel
            by_cases hil : i < L.length
            · obtain ⟨g3, rfl, hgl3, hcell3⟩ := hL.at i hil
              have hmem : L.getD i 0 ∈ L := by simp [List.getD, hil]
              obtain ⟨nb, nc, hnx, hn0, hn8⟩ := HNX.out _ hmem
              have HF2 := Lib.hid (fold_take (visitE s) L st0 i hil)
              clear hmem
              obtain ⟨M1, R1⟩ := st
              have hold := @visitE_old s (L.getD i 0) M1 R1
              have hnew := @visitE_new s (L.getD i 0) M1 R1
              generalize L.getD i 0 = ev at hcell3 HF2 hnx hn0 hn8 hold hnew
              generalize (nextF s 0 0 ev 0 3).1 = ns at hnx hn0 hn8 hold hnew
              have hil' : (i : Int) < (L.length : Int) := by omega
              have hi0 : (0 : Int) ≤ (i : Int) := by omega
              have hl9 : (L.length : Int) ≤ 9223372036854775807 := by omega
              dsimp only at hsl
              have HNS := Lib.hid hnx
              have HB := Lib.hid hB
              have HR := Lib.hid hR
              have HL := Lib.hid hL
              have HP1 := Lib.hid hap1
              have HP2 := Lib.hid hap2
              have HST2 := Lib.hid hst
              have HOLD := Lib.hid hold
              have HNEW := Lib.hid hnew
              clear hnx hB hR hL hap1 hap2 hst hold hnew
              go_wp2_with fail
              refine (next_at _ HNS.out).mono ?_
              rintro e w4 ⟨rfl, hb4⟩
              have hB4 : At w.heap.size w.heap.size w w4 u9 (M1, R1) := ⟨HB.out.map.below hb4, HB.out.own.below hb4, HB.out.bel.trans (hb4.mono (Nat.le_of_lt (Nat.lt_of_le_of_lt HB.out.nb HB.out.map.lt))), Nat.le_refl _, HB.out.big⟩
              have HR4 := Lib.hid (HR.out.below hb4)
              have HL4 := Lib.hid (HL.out.below hb4)
              have hm4 : MapIs (w4.alloc (.cells #[.int .i64 ns, .int .i64 nb, .int .i64 nc] 23)) w.heap.size M1 := hB4.map.alloc _
              have HB4 := Lib.hid hB4
              have hlk := run_lookup_set _ _ _ ns hm4
              clear hb4 hcell3
              cases hc : M1.contains ns with
              | true =>
                rw [hc] at hlk
                have HM4 := Lib.hid hm4
                clear hm4 hB4
                go_wp2_with fail
                exact ⟨⟨i + 1, (M1, R1), by omega, by go_num, by rw [HF2.out, ← HST2.out, HOLD.out hc], by dsimp only; omega, HB4.out.alloc _, HR4.out.alloc _, HL4.out.alloc _, HP1.out, HP2.out⟩, by simp [intOf]; omega⟩
              | false =>
                rw [hc] at hlk
                go_wp2_with (at_mapUpdate; refine wpList_update_set _ rfl _ _ _ (.inl rfl) w.heap.size M1 ns rfl rfl rfl hm4 hc ?_)
                intro w5 hs5
                have hne : w4.heap.size ≠ w.heap.size := by have := HB4.out.map.lt; omega
                have hc5 : w5.cell? ⟨w4.heap.size, 0, none⟩ = some (.int .i64 ns) := by
                  have := hs5.block _ hne
                  rw [heap_alloc_new] at this
                  simp [World.cell?, this]
                have hB5 := (HB4.out.alloc (.cells #[.int .i64 ns, .int .i64 nb, .int .i64 nc] 23)).set hs5
                have HR5 := Lib.hid ((HR4.out.alloc (.cells #[.int .i64 ns, .int .i64 nb, .int .i64 nc] 23)).set hm4 hs5)
                have HL5 := Lib.hid ((HL4.out.alloc (.cells #[.int .i64 ns, .int .i64 nb, .int .i64 nc] 23)).set hm4 hs5)
                have HB5 := Lib.hid hB5
                have hrow := hB5.own.row
                dsimp only at hrow
                have HM4 := Lib.hid hm4
                clear hm4 hB4 hlk hs5 hB5
                go_wp2_with (at_builtin; refine wpList_append_own_at _ rfl _ _ 24 rfl 0 3 i0 (.int .i64 0) 1 8 Try.underlying24 hi hz0 hz1 hz2 rfl (by decide) _ _ _ rfl (hrow.alloc _) ⟨w5.heap.size, 0, none⟩ 1 1 [.int .i64 ns] rfl rfl ?c1 ?c2 ?c3 ?c4 ?c5 ?_)
                case c1 => exact cell_one_new _ _ _
                case c2 => simp [Value.oneCell']
                case c3 => simp only [maxLen]; omega
                case c4 => omega
                case c5 => simp
                intro v' w6 hown6 hgrow _ hblk
                have hB6 := Lib.hid (HB5.out.push hgrow hown6 hblk)
                have hR6 := Lib.hid ((HR5.out.alloc _).kept hgrow HP1.out)
                have hL6 := Lib.hid ((HL5.out.alloc _).kept hgrow HP2.out)
                have hP16 := Lib.hid (HP1.out.next (HR5.out.alloc (.cells #[.int .i64 ns] 3)) (by simp) hblk)
                have hP26 := Lib.hid (HP2.out.next (HL5.out.alloc (.cells #[.int .i64 ns] 3)) (by simp) hblk)
                clear hown6 hgrow hblk hrow
                go_wp2_with fail
                exact ⟨⟨i + 1, (M1 ++ [ns], R1 ++ [ns]), by omega, by go_num, by rw [HF2.out, ← HST2.out, HNEW.out hc], by simp; omega, hB6.out, hR6.out, hL6.out, hP16.out, hP26.out⟩, by simp [intOf]; omega⟩
            · obtain rfl : i = L.length := by omega
              have hst' : st = visitS st0 s := by rw [HVS.out, hst, List.take_length]
              have HST3 := Lib.hid hst'
              have HB := Lib.hid hB
              have HR := Lib.hid hR
              have HP1 := Lib.hid hap1
              clear hst' hst hB hR hL hap1 hap2
              go_wp2_with fail
              exact ⟨⟨j + 1, st, by omega, by go_num, by rw [HF.out, ← HST.out]; exact HST3.out, by omega, HB.out, HR.out, HP1.out⟩, by simp [intOf]; omega⟩
        · obtain rfl : j = R.length := by omega
          have hst' : st = reachF (a : Int) (k + 1) := by rw [HSTEP.out, hst, List.take_length]
          have HST3 := Lib.hid hst'
          have HB := Lib.hid hB
          clear hst' hst hB hR hap
          go_wp2_with fail
          exact ⟨⟨k + 1, by omega, by go_num, by rw [← HST3.out]; exact HB.out⟩, by simp [intOf]; omega⟩
    · obtain rfl : k = 8 := by omega
      have hlk := run_lookup_set wr w.heap.size _ (b : Int) hA.map
      rw [reach_all a ha b hb] at hlk
      go_wp2_with (go_at_call 9; refine (alive_any _).mono ?_; rintro e w4 ⟨rfl, hb4⟩)
      go_ret
      exact ⟨rfl, hA.bel.trans (hb4.mono (by have := hA.map.lt; omega))⟩
end Go.Proofs.Ytojinbckpjddmaa
