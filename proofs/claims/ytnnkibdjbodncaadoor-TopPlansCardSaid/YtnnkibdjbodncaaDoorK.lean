/- Profiles: what is free during a span. No condition. -/
import Derived.Test.YtnnkibdjbodncaaDoorJ
namespace Go.Proofs.YtnnkibdjbodncaaDoor
open Go.RowKit
def andAll (u : Int) (l : List St) : Int := l.foldl (fun x s => bits .and .u64 x s.2) u
/-- The steps that a span meets. -/
def within (l : List St) (a b : Int) : List St := (l.drop (nUpto l a - 1)).take (nUpto l (b - 1) - (nUpto l a - 1))
def during (u : Int) (l : List St) (a b : Int) : Int := andAll u (within l a b)
theorem four_set {w : World} {g : Nat} {x0 x1 x2 x3 y0 y1 y2 y3 : Int} (H : Blk4 w g x0 x1 x2 x3) : Blk4 ((((w.setCell ⟨g, 0, none⟩ (.int .u64 y0)).setCell ⟨g, 1, none⟩ (.int .u64 y1)).setCell ⟨g, 2, none⟩ (.int .u64 y2)).setCell ⟨g, 3, none⟩ (.int .u64 y3)) g y0 y1 y2 y3 := by
  unfold Blk4
  rw [heap_set4 _ _ _ _ _ _ (heap_set4 _ _ _ _ _ _ (heap_set4 _ _ _ _ _ _ (heap_set4 _ _ _ _ _ _ H)))]
  rfl
theorem four_far {w : World} {g g' : Nat} {x0 x1 x2 x3 : Int} {v0 v1 v2 v3 : Value} (H : Blk4 w g x0 x1 x2 x3) (hg : g ≠ g') : Blk4 ((((w.setCell ⟨g', 0, none⟩ v0).setCell ⟨g', 1, none⟩ v1).setCell ⟨g', 2, none⟩ v2).setCell ⟨g', 3, none⟩ v3) g x0 x1 x2 x3 :=
  (((H.far hg _).far hg _).far hg _).far hg _
set_option maxHeartbeats 4000000 in
theorem during_any {w : World} {f : Nat} {u : Int} {l : List St} {g cap : Nat} (h : IsProf w f u l g cap) (hm : l.length ≤ 4096) (hr : Rising l) (ht : Timed l) (a b : Int) (s0 : St) (h0 : l[0]? = some s0) (ha : s0.1 ≤ a) (hab : a < b) (hb : b ≤ 2199023255552) (hs0 : 0 ≤ s0.1) :
    Calls Tryd.prog 20 #[.pointer (some ⟨f, 0, none⟩), .int .i64 a, .int .i64 b] w (fun e w' => e = .returned (.tuple #[.agg #[.int .u64 (during u l a b), .int .u64 0, .int .u64 0, .int .u64 0], .int .i64 0]) ∧ Below w.heap.size w w') := by
  have HS := Lib.hid (fun w' (hb' : Below w.heap.size w w') => span_any (h.below hb') a b s0 h0 ha hab hb)
  have HW := Lib.hid (fun w' (hb' : Below w.heap.size w w') => within_any (h.below hb') hm hr ht a b s0 h0 ha hab hb hs0)
  have HP := Lib.hid (fun w' (hb' : Below w.heap.size w w') => (h.below hb').blk.cells)
  have hcell : ∀ w', Below w.heap.size w w' → ∀ i s, (within l a b)[i]? = some s → w'.cell? ⟨g, (nUpto l a - 1) * 5 + i * 5, none⟩ = some (.int .i64 s.1) ∧ w'.cell? ⟨g, (nUpto l a - 1) * 5 + i * 5 + 1, none⟩ = some (.int .u64 s.2) ∧ w'.cell? ⟨g, (nUpto l a - 1) * 5 + i * 5 + 2, none⟩ = some (.int .u64 0) ∧ w'.cell? ⟨g, (nUpto l a - 1) * 5 + i * 5 + 3, none⟩ = some (.int .u64 0) ∧ w'.cell? ⟨g, (nUpto l a - 1) * 5 + i * 5 + 4, none⟩ = some (.int .u64 0) := by
    intro w' hb' i s hi
    obtain ⟨g', cap', he, _, hg, hc, hcm, hcell⟩ := (h.below hb').row.form h.some
    simp only [Value.slice.injEq, Option.some.injEq, Addr.mk.injEq, and_true, true_and] at he
    obtain ⟨rfl, rfl⟩ := he
    have hi2 : l[nUpto l a - 1 + i]? = some s := by
      unfold within at hi
      rw [List.getElem?_take] at hi
      split at hi
      · rwa [List.getElem?_drop] at hi
      · cases hi
    have := hcell _ s hi2
    rw [Nat.add_mul] at this
    exact this
  have hlen : (within l a b).length = nUpto l (b - 1) - (nUpto l a - 1) := by
    unfold within
    rw [List.length_take, List.length_drop]
    have := upto_le l (b - 1)
    omega
  have p1 := upto_pos h0 ha
  have p2 := upto_mono l (show a ≤ b - 1 by omega)
  have p3 := upto_le l (b - 1)
  have hmx : nUpto l (b - 1) - (nUpto l a - 1) ≤ 4096 := by omega
  unfold during
  obtain ⟨L, hL⟩ : ∃ L, within l a b = L := ⟨_, rfl⟩
  rw [hL] at hlen hcell ⊢
  obtain ⟨m, hm'⟩ : ∃ m, nUpto l (b - 1) - (nUpto l a - 1) = m := ⟨_, rfl⟩
  obtain ⟨o, ho⟩ : ∃ o, nUpto l a - 1 = o := ⟨_, rfl⟩
  rw [hm'] at HW hlen hmx
  rw [ho] at HW hcell
  have HC := Lib.hid hcell
  have h00 : bits .and .u64 0 0 = 0 := by decide
  obtain ⟨c0, c1, c2, c3, c4⟩ := h.blk.cells
  have HB1 := Lib.hid (below_alloc' w (.cells #[.int .u64 0, .int .u64 0, .int .u64 0, .int .u64 0] 28))
  clear h hcell ho hm' hL p1 p2 p3
  go_enter Tryd.func20, Tryd.ntmps20
  go_wp2_with (first
    | (go_at_call 27; refine (HS.out _ HB1.out).mono ?_; rintro e w2 ⟨rfl, rfl⟩; obtain ⟨k0, k1, k2, k3, k4⟩ := HP.out _ HB1.out)
    | (go_at_call 28; refine (HW.out _ ?_).mono ?_; exact HB1.out.alloc (by simp) _; rintro e w2 ⟨rfl, hb2⟩; have HL := Lib.hid hb2; clear hb2))
  have H2 := two w (.cells #[.int .u64 0, .int .u64 0, .int .u64 0, .int .u64 0] 28) (.cells #[.int .u64 u, .int .u64 0, .int .u64 0, .int .u64 0] 28)
  have hA := Blk4.below (show Blk4 _ w.heap.size 0 0 0 0 from H2.1) HL.out
  have hB := Blk4.below (show Blk4 _ (w.heap.size + 1) u 0 0 0 from H2.2) HL.out
  have hL2 : Below w.heap.size w w2 := (HB1.out.alloc (by simp) _).trans (HL.out.mono (by simp; omega))
  clear HL H2 HP HS HW k0 k1 k2 k3 k4 c0 c1 c2 c3 c4 HB1
  go_loopw [29] (fun i wr => ∃ k : Nat, i = .int .i64 k ∧ k ≤ m ∧ Blk4 wr w.heap.size 0 0 0 0 ∧ Blk4 wr (w.heap.size + 1) (andAll u (L.take k)) 0 0 0 ∧ Below w.heap.size w wr) (fun i _ => m - (intOf i).toNat)
  case atStart => exact ⟨0, rfl, Nat.zero_le _, hA, hB, hL2⟩
  case round =>
    obtain ⟨k, rfl, hk, hX, hY, hbel⟩ := hrel
    obtain ⟨x0, x1, x2, x3⟩ := hX.cells
    obtain ⟨y0, y1, y2, y3⟩ := hY.cells
    have fX := hX.frozen
    have fY := hY.frozen
    have HX := Lib.hid hX
    have HY := Lib.hid hY
    have HL := Lib.hid hbel
    by_cases hlt : k < m
    · obtain ⟨s, hs⟩ : ∃ s, L[k]? = some s := ⟨L[k]'(by omega), List.getElem?_eq_getElem (by omega)⟩
      have hC := HC.out _ hbel k s hs
      obtain ⟨c0, c1, c2, c3, c4⟩ := hC
      have hstep : andAll u (L.take (k + 1)) = bits .and .u64 (andAll u (L.take k)) s.2 := by
        unfold andAll
        rw [List.take_add_one, hs]
        simp [List.foldl_append]
      have HST := Lib.hid hstep
      obtain ⟨z, hz⟩ : ∃ z, andAll u (L.take k) = z := ⟨_, rfl⟩
      rw [hz] at HST HY y0
      have HY2 := Lib.hid (Blk4.below HY.out (below_alloc' wr (.cells #[.int .i64 s.1, .int .u64 s.2, .int .u64 0, .int .u64 0, .int .u64 0] 71)))
      have HX2 := Lib.hid (Blk4.below HX.out (below_alloc' wr (.cells #[.int .i64 s.1, .int .u64 s.2, .int .u64 0, .int .u64 0, .int .u64 0] 71)))
      have HL2 := Lib.hid (HL.out.alloc HL.out.size (.cells #[.int .i64 s.1, .int .u64 s.2, .int .u64 0, .int .u64 0, .int .u64 0] 71))
      obtain ⟨v0, v1, v2, v3⟩ := HY2.out.cells
      clear hs hbel hstep hz hX hY
      go_wp2_with (go_at_call 5; refine (and_any _ _ _ _ _ _ _ _ _).mono ?_; rintro e w5 ⟨rfl, hb5⟩; rw [setV_four, h00]; have hR := HY2.out.below hb5; have hR2 := HX2.out.below hb5; have HR := Lib.hid hR; have HR2 := Lib.hid hR2; obtain ⟨r0, r1, r2, r3⟩ := hR.cells; have fR := hR.frozen; have HL5 := Lib.hid (HL2.out.trans (hb5.mono HL2.out.size)); clear hb5 hR hR2)
      refine ⟨⟨k + 1, by go_num, by omega, four_far HR2.out (by omega), ?_, four_below HL5.out (by omega)⟩, by simp only [intOf]; omega⟩
      rw [HST.out]
      exact four_set HR.out
    · go_wp2_with fail
      have hW := four_set (y0 := andAll u (L.take k)) (y1 := 0) (y2 := 0) (y3 := 0) HX.out
      obtain ⟨z0, z1, z2, z3⟩ := hW.cells
      have e : L.take k = L := List.take_of_length_le (by omega)
      refine bodyPost_ret (v := .tuple #[setV [andAll u (L.take k), 0, 0, 0], .int .i64 0]) ?_ rfl ⟨by rw [e]; rfl, four_below HL.out (by omega)⟩
      clear hW x0 x1 x2 x3 y0 y1 y2 y3 fX fY
      simp [results, Tryd.results20, go_sem, setV, z0, z1, z2, z3]
end Go.Proofs.YtnnkibdjbodncaaDoor
