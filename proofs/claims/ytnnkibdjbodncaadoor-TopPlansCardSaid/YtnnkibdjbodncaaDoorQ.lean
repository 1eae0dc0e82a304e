/- Profiles: the nodes of a span taken out. Conditions: at most 2000 steps; the nodes are free. -/
import Derived.Test.YtnnkibdjbodncaaDoorP
namespace Go.Proofs.YtnnkibdjbodncaaDoor
open Go.RowKit
theorem set_any {w : World} {f : Nat} {u : Int} {v0 : Value} {g' n' cap' : Nat} (h : Prof w f u v0) (hn : n' ≤ 4096) :
    Calls Tryd.prog 21 #[.pointer (some ⟨f, 0, none⟩), .slice (some ⟨g', 0, none⟩) n' cap'] w (fun e w' => e = .returned (.int .i64 0) ∧ w' = w.setCell ⟨f, 4, none⟩ (.slice (some ⟨g', 0, none⟩) n' cap')) := by
  obtain ⟨c0, c1, c2, c3, c4⟩ := h.cells
  have fr := h.frozen
  have hn' : ¬ (4096 : Int) < (n' : Int) := by omega
  clear h
  go_enter Tryd.func21, Tryd.ntmps21
  go_wp2_with fail
  go_ret
  exact ⟨rfl, rfl⟩
theorem Prof.set {w : World} {f : Nat} {u : Int} {v0 v : Value} (h : Prof w f u v0) : Prof (w.setCell ⟨f, 4, none⟩ v) f u v := by
  unfold Prof at h ⊢
  rw [heap_set4 _ _ _ _ _ _ h]
  rfl
theorem andNot_zero {x y : Nat} (hx : x < 256) (hy : y < 256) (h : SubS x y) : bits .andNot .u64 (x : Int) (y : Int) = 0 := by
  rw [u64_andNot_nat _ _ (by omega) (by omega)]
  have : minus x y = 0 := by
    refine small_ext (minus_lt hx) (by omega) fun i _ => ?_
    rw [bit_minus hx hy, Nat.zero_testBit]
    cases hxi : x.testBit i with
    | false => rfl
    | true => rw [h i hxi]; rfl
  unfold minus at this
  rw [this]; rfl
theorem sub_full {x : Nat} (hx : x < 256) : SubS x 255 := fun i hi => by
  rw [show (255 : Nat) = 2 ^ 8 - 1 by rfl, Nat.testBit_two_pow_sub_one]
  simpa using bit_lt hx hi
theorem during_up {l : List St} {now T : Int} {F : Int → Nat} (h : Lay l now T F) {u : Nat} (hu : u < 256) (hFu : ∀ t, now ≤ t → SubS (F t) u) {a : Int} {k : Nat} (ha : now ≤ a) (hk : 1 ≤ k) (hT : a + k ≤ T) : during u l a (a + k) = (inter F a k : Nat) := by
  have hw : ∀ s ∈ within l a (a + k), ∃ y : Nat, y < 256 ∧ s.2 = y := fun s hs => by
    obtain ⟨j, _, _, hj⟩ := mem_within.1 hs
    exact h.free s (List.mem_of_getElem? hj)
  obtain ⟨z, hz, hz2, hb⟩ := andAll_nat (within l a (a + k)) u hu hw
  obtain ⟨z', hz', hz2', hb'⟩ := andAll_nat (within l a (a + k)) 255 (by omega) hw
  rw [← during_is h ha hk hT]
  unfold during
  rw [show ((255 : Nat) : Int) = 255 by rfl] at hz'
  rw [hz, hz']
  congr 1
  refine small_ext hz2 hz2' fun i hi => ?_
  rw [Bool.eq_iff_iff, hb, hb']
  have h255 : (255 : Nat).testBit i = true := by
    rw [show (255 : Nat) = 2 ^ 8 - 1 by rfl, Nat.testBit_two_pow_sub_one]; simpa using hi
  constructor
  · exact fun q => ⟨h255, q.2⟩
  · intro q
    refine ⟨?_, q.2⟩
    obtain ⟨s, h1, h2, h3, h4⟩ := h.piece (t := a) ha (by omega)
    have hm : s ∈ within l a (a + k) := mem_within.2 ⟨_, Nat.le_refl _, by have := upto_mono l (show a ≤ a + k - 1 by omega); omega, h1⟩
    have := q.2 s hm
    rw [← h4, Int.toNat_natCast] at this
    exact hFu a ha i this
def TakePost (w : World) (f u : Nat) (l : List St) (now b : Int) (G : Int → Nat) (e : Ending) (w' : World) : Prop :=
  e = .returned (.int .i64 0) ∧ (∃ l' g cap, IsProf w' f u l' g cap ∧ Lay l' now 2199023255552 G ∧ l'.length ≤ l.length + 2 ∧ ∀ H, (∀ s ∈ l, s.1 ≤ H) → b ≤ H → ∀ s ∈ l', s.1 ≤ H) ∧ Else f none w w'
theorem turn_times {l : List St} {a b S H : Int} (hl : ∀ s ∈ l, s.1 ≤ H) (ha : a ≤ b) (hb : b ≤ H) : ∀ k, ∀ s ∈ turnL l a b S k, s.1 ≤ H
  | 0, s, hs => by simp [turnL] at hs
  | k + 1, s, hs => by
    have ih := turn_times (S := S) hl ha hb k
    simp only [turnL] at hs
    split at hs
    · rename_i x hx
      have hxH := hl x (List.mem_of_getElem? hx)
      have step : ∀ {o : List St} {q : St}, (∀ s ∈ o, s.1 ≤ H) → q.1 ≤ H → ∀ s ∈ putL o q, s.1 ≤ H := fun ho hq s hs => by
        rcases mem_putL hs with h | rfl
        · exact ho s h
        · exact hq
      unfold roundL at hs
      simp only at hs
      have h1 : ∀ s ∈ (if x.1 < a then putL (turnL l a b S k) x else turnL l a b S k), s.1 ≤ H := by
        split
        · exact step ih hxH
        · exact ih
      generalize (if x.1 < a then putL (turnL l a b S k) x else turnL l a b S k) = o1 at h1 hs
      have h2 : ∀ s ∈ (if max x.1 a < min (nextT l k) b then putL o1 (max x.1 a, bits .andNot .u64 x.2 S) else o1), s.1 ≤ H := by
        split
        · exact step h1 (by simp only; omega)
        · exact h1
      generalize (if max x.1 a < min (nextT l k) b then putL o1 (max x.1 a, bits .andNot .u64 x.2 S) else o1) = o2 at h2 hs
      split at hs
      · exact step h2 (by simp only; omega) s hs
      · exact h2 s hs
    · exact ih s hs
theorem Lay.timed {l : List St} {now : Int} {F : Int → Nat} (h : Lay l now 2199023255552 F) (h0 : 0 ≤ now) : Timed l := fun s hs => ⟨by have := (h.before s hs).1; omega, (h.before s hs).2⟩
theorem else_below {w w' : World} {f : Nat} {row : Option Nat} (h : Below w.heap.size w w') : Else f row w w' := ⟨h.os, h.tape, h.output, h.size, fun k hk _ _ => h.block k hk⟩
theorem else_set {w w' : World} {f o : Nat} {v : Value} (h : Below w.heap.size w w') : Else f none w (w'.setCell ⟨f, o, none⟩ v) :=
  ⟨h.os, h.tape, h.output, by simp [World.setCell]; exact h.size, fun k hk hkf _ => by rw [Below.heap_setCell _ _ _ _ hkf, h.block k hk]⟩
theorem StRow.mono {w : World} {B B' : Nat} {v : Value} {l : List St} (h : StRow w B v l) (hB : B' ≤ B) : StRow w B' v l := by
  refine ⟨h.1, ?_⟩
  rcases h.2 with hn | ⟨g, cap, cur, hv, hb, hg, rest⟩
  · exact .inl hn
  · exact .inr ⟨g, cap, cur, hv, by omega, hg, rest⟩
theorem take_fin {w w5 w6 : World} {f u : Nat} {l out : List St} {g cap gt ct : Nat} {now : Int} {G : Int → Nat} (h : IsProf w f u l g cap) (h5 : Below w.heap.size w w5) (h6 : Below w.heap.size w w6) (hr : StRow w6 (w5.heap.size + 1) (.slice (some ⟨gt, 0, none⟩) out.length ct) out)
    (hne : out ≠ []) (hl : Lay out now 2199023255552 G) (ho : out.length ≤ l.length + 2) {b : Int} (hb : ∀ H, (∀ s ∈ l, s.1 ≤ H) → b ≤ H → ∀ s ∈ out, s.1 ≤ H) : TakePost w f u l now b G (.returned (.int .i64 0)) (w6.setCell ⟨f, 4, none⟩ (.slice (some ⟨gt, 0, none⟩) out.length ct)) := by
  have hf := h.blk.lt
  have hg := row_ge hr (k := gt) rfl
  have := h5.size
  refine ⟨rfl, ⟨out, gt, ct, ⟨(h.below h6).blk.set, ?_, hne⟩, hl, ho, hb⟩, else_set h6⟩
  exact ownsRow_setCell_other (hr.mono (Nat.zero_le _)) (by simp only [Value.ownBlock]; intro e; cases e; omega) _
set_option maxHeartbeats 4000000 in
theorem take_any {w : World} {f u : Nat} {l : List St} {g cap : Nat} {now a : Int} {F : Int → Nat} {S n : Nat} (h : IsProf w f u l g cap) (hu : u < 256) (hFu : ∀ t, now ≤ t → SubS (F t) u) (hl : Lay l now 2199023255552 F) (h0 : 0 ≤ now) (hm : l.length ≤ 2000) (hS : S < 256) (ha : now ≤ a) (hn : 1 ≤ n)
    (hb : a + n ≤ 2199023255552) (hfree : SubS S (inter F a n)) :
    Calls Tryd.prog 18 #[.pointer (some ⟨f, 0, none⟩), .agg #[.int .u64 S, .int .u64 0, .int .u64 0, .int .u64 0], .int .i64 a, .int .i64 (a + n)] w (TakePost w f u l now (a + n) (taken F S a n)) := by
  have hlen : 0 < l.length := by cases hl : l with | nil => exact absurd hl h.some | cons a b => simp
  have hs0 : l[0]? = some (l[0]'hlen) := List.getElem?_eq_getElem hlen
  have e0 := hl.first _ hs0
  generalize (l[0]'hlen) = s0 at hs0 e0
  have hlt := h.blk.lt
  have htm := Lib.hid (fun H (h1 : ∀ s ∈ l, s.1 ≤ H) h2 => turn_times (S := S) h1 (show a ≤ a + n by omega) h2 l.length)
  have HD := Lib.hid (fun w' (hb' : Below w.heap.size w w') => during_any (h.below hb') (by omega) hl.rising (hl.timed h0) a (a + n) s0 hs0 (by omega) (by omega) (by omega) (by omega))
  rw [during_up hl hu hFu ha hn hb] at HD
  have hD : inter F a n < 256 := inter_lt _ _ _
  obtain ⟨D, hDe⟩ : ∃ D, inter F a n = D := ⟨_, rfl⟩
  rw [hDe] at HD hD hfree
  have z1 : bits .andNot .u64 (S : Int) (u : Int) = 0 := andNot_zero hS hu (fun i hi => hFu a ha i (by have := hfree i hi; rw [← hDe, bit_inter] at this; have := this.2 0 (by omega); simpa using this))
  have z2 : bits .andNot .u64 (S : Int) (D : Int) = 0 := andNot_zero hS hD hfree
  have h00 : bits .andNot .u64 0 0 = 0 := by decide
  obtain ⟨out, hout⟩ : ∃ out, turnL l a (a + n) S l.length = out := ⟨_, rfl⟩
  obtain ⟨hlay, -, hlo⟩ := turn_lay hl hn hS (a := a) l.length (Nat.le_refl _)
  have HT := Lib.hid (fun (w' : World) gs (hb' : Below w.heap.size w w') (hS' : Blk4 w' gs S 0 0 0) => turn_any (h.below hb') hS' (by omega) a (a + n) (by omega) hb (fun k x hx => by
    have hk := (List.getElem?_eq_some_iff.1 hx).1
    obtain ⟨t1, t2, t3⟩ := turn_lay hl hn hS (a := a) k (by omega)
    rw [begin_is hl.first k x hx] at t1 t3
    refine ⟨fun s hs => (t1.before s hs).2, by split at t3 <;> split at t3 <;> omega, next_gt hl hx, ?_⟩
    unfold nextT
    split
    · rename_i s hs; have := (hl.before s (List.mem_of_getElem? hs)).2; omega
    · omega))
  have hend : beginT l now l.length = 2199023255552 := by
    cases hc : l.length with
    | zero => omega
    | succ k =>
      have : l[k + 1]? = none := by rw [List.getElem?_eq_none_iff]; omega
      simp [beginT, nextT, this]
  rw [hend] at hlay
  rw [hout] at HT hlay hlo htm
  have hlo2 : out.length ≤ l.length + 2 := by split at hlo <;> split at hlo <;> omega
  have HLAY := Lib.hid hlay
  have hne : out ≠ [] := hlay.some_ (by have := (hl.before s0 (List.mem_of_getElem? hs0)).2; omega)
  have HNE := Lib.hid hne
  have HH := Lib.hid h
  obtain ⟨c0, c1, c2, c3, c4⟩ := h.blk.cells
  have hB1 := below_alloc' w (.cells #[.int .u64 S, .int .u64 0, .int .u64 0, .int .u64 0] 28)
  have HB1 := Lib.hid hB1
  have HG1 := Lib.hid (show Blk4 (w.alloc (.cells #[.int .u64 S, .int .u64 0, .int .u64 0, .int .u64 0] 28)) w.heap.size S 0 0 0 from heap_alloc_new w _)
  have HP := Lib.hid (fun w' (hb' : Below w.heap.size w w') => (h.below hb').blk.cells)
  have g28 := guard28
  have q28 := fun x y w => equal28 x y w
  clear hout hlo hend hDe hs0 e0 hl h hlay hne hB1 c0 c1 c2 c3 c4
  go_enter Tryd.func18, Tryd.ntmps18
  go_wp2_with (first
    | (go_at_call 20; refine (HD.out _ HB1.out).mono ?_; rintro e w2 ⟨rfl, hb2⟩; have HL := Lib.hid (HB1.out.trans (hb2.mono HB1.out.size)); have HG := Lib.hid (HG1.out.below hb2); clear hb2))
  obtain ⟨W, hW⟩ : ∃ W, w2.alloc (.cells #[.int .u64 D, .int .u64 0, .int .u64 0, .int .u64 0] 28) = W := ⟨_, rfl⟩
  have hLW : Below w.heap.size w W := by rw [← hW]; exact HL.out.alloc HL.out.size _
  have hGW : Blk4 W w.heap.size S 0 0 0 := by rw [← hW]; exact HG.out.below (below_alloc' w2 _)
  have hXW : Blk4 W w2.heap.size D 0 0 0 := by rw [← hW]; exact heap_alloc_new w2 _
  obtain ⟨c0, c1, c2, c3, c4⟩ := HP.out _ hLW
  obtain ⟨s0, s1, s2, s3⟩ := hGW.cells
  obtain ⟨x0, x1, x2, x3⟩ := hXW.cells
  have HLW := Lib.hid hLW
  have HGW := Lib.hid hGW
  have HXW := Lib.hid hXW
  rw [hW]
  clear hLW hGW hXW
  go_region_with (go_at_call 6; refine (not_any _ _ _ _ _ _ _ _ _).mono ?_; rintro e w4 ⟨rfl, hb4⟩; rw [setV_four, h00, z1]; have hL4 := (by first | exact HLW.out.drew.trans (hb4.mono HLW.out.drew.size) | exact HLW.out.trans (hb4.mono HLW.out.size) : Below w.heap.size w w4); have hG4 := (by first | exact Blk4.below (w := W.drew) HGW.out hb4 | exact HGW.out.below hb4 : Blk4 w4 w.heap.size S 0 0 0); have hX4 := (by first | exact Blk4.below (w := W.drew) HXW.out hb4 | exact HXW.out.below hb4 : Blk4 w4 w2.heap.size D 0 0 0); have HL4 := Lib.hid hL4; have HG4 := Lib.hid hG4; have HX4 := Lib.hid hX4; obtain ⟨s0, s1, s2, s3⟩ := hG4.cells; obtain ⟨x0, x1, x2, x3⟩ := hX4.cells; clear hb4 hL4 hG4 hX4)
  all_goals go_wp2_with (first
    | (go_at_call 6; refine (not_any _ _ _ _ _ _ _ _ _).mono ?_; rintro e w5 ⟨rfl, hb5⟩; rw [setV_four, h00, z2]; have HL5 := Lib.hid (HL4.out.trans (hb5.mono HL4.out.size)); have HG5 := Lib.hid (HG4.out.below hb5); clear hb5)
    | (go_at_call 22; refine (HT.out _ _ HL5.out HG5.out).mono ?_; rintro e w6 ⟨v, rfl, hrow, hb6⟩; have HL6 := Lib.hid (HL5.out.trans (hb6.mono HL5.out.size)); obtain ⟨gt, ct, rfl, _⟩ := hrow.form HNE.out; have HR := Lib.hid hrow; clear hb6 hrow)
    | (go_at_call 21; refine (set_any (HH.out.below HL6.out).blk (by omega)).mono ?_; rintro e w7 ⟨rfl, rfl⟩))
  all_goals go_ret
  all_goals exact take_fin HH.out HL5.out HL6.out HR.out HNE.out HLAY.out hlo2 htm.out
end Go.Proofs.YtnnkibdjbodncaaDoor
