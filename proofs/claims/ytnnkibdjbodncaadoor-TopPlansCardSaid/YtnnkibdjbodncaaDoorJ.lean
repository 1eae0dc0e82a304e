/- Profiles: the steps that a span meets; what is free during it. No condition. -/
import Derived.Test.YtnnkibdjbodncaaDoorI
namespace Go.Proofs.YtnnkibdjbodncaaDoor
open Go.RowKit
theorem upto_pos {l : List St} {s0 : St} (h0 : l[0]? = some s0) {t : Int} (ht : s0.1 ≤ t) : 1 ≤ nUpto l t := by
  unfold nUpto
  cases l with
  | nil => simp at h0
  | cons a l => simp at h0; subst h0; rw [List.countP_cons]; simp [ht]
theorem upto_mono (l : List St) {a b : Int} (h : a ≤ b) : nUpto l a ≤ nUpto l b := by
  unfold nUpto
  exact List.countP_mono_left fun s _ => by simp; omega
theorem upto_le (l : List St) (t : Int) : nUpto l t ≤ l.length := List.countP_le_length
set_option maxHeartbeats 4000000 in
theorem within_any {w : World} {f : Nat} {u : Int} {l : List St} {g cap : Nat} (h : IsProf w f u l g cap) (hm : l.length ≤ 4096) (hr : Rising l) (ht : Timed l) (a b : Int) (s0 : St) (h0 : l[0]? = some s0) (ha : s0.1 ≤ a) (hab : a < b) (hb : b ≤ 2199023255552) (hs0 : 0 ≤ s0.1) :
    Calls Tryd.prog 28 #[.pointer (some ⟨f, 0, none⟩), .int .i64 a, .int .i64 b] w (fun e w' => e = .returned (.slice (some ⟨g, (nUpto l a - 1) * 5, none⟩) (nUpto l (b - 1) - (nUpto l a - 1)) (cap - (nUpto l a - 1))) ∧ Below w.heap.size w w') := by
  have p1 := upto_pos h0 ha
  have p2 := upto_mono l (show a ≤ b - 1 by omega)
  have p3 := upto_le l (b - 1)
  have HA := Lib.hid (fun w' (hb : Below w.heap.size w w') => find_any (h.below hb) hm hr ht a (by omega) (by omega))
  have HB := Lib.hid (fun w' (hb' : Below w.heap.size w w') => find_any (h.below hb') hm hr ht (b - 1) (by omega) (by omega))
  have HL := Lib.hid (Below.refl w.heap.size w)
  obtain ⟨g', cap', he, _, hg, hc, hcm, _⟩ := h.row.form h.some
  simp only [Value.slice.injEq, Option.some.injEq, Addr.mk.injEq, and_true, true_and] at he
  obtain ⟨rfl, rfl⟩ := he
  have HP := Lib.hid (fun w' (hb : Below w.heap.size w w') => (h.below hb).blk.cells)
  obtain ⟨c0, c1, c2, c3, c4⟩ := h.blk.cells
  obtain ⟨n, hn⟩ : ∃ n, l.length = n := ⟨_, rfl⟩
  rw [hn] at c4 hm hc p3 HP
  obtain ⟨x, hx⟩ : ∃ x, nUpto l a = x + 1 := ⟨nUpto l a - 1, by omega⟩
  obtain ⟨y, hy⟩ : ∃ y, nUpto l (b - 1) = y + 1 := ⟨nUpto l (b - 1) - 1, by omega⟩
  have e1 : ((nUpto l a : Nat) : Int) - 1 = x := by omega
  have e2 : ((nUpto l (b - 1) : Nat) : Int) - 1 = y := by omega
  rw [e1] at HA
  rw [e2] at HB
  rw [hx, hy] at p2 ⊢
  rw [hy] at p3
  clear h hn e1 e2 hx hy p1
  simp only [Nat.add_sub_cancel]
  obtain ⟨c, hcb⟩ : ∃ c, b - 1 = c := ⟨_, rfl⟩
  rw [hcb] at HB
  have ew : IntKind.i64.wrap c = c := IntWalk.i64_in _ (by omega)
  have q1 : (x : Int) ≤ (y : Int) + 1 := by omega
  have q2 : (y : Int) + 1 ≤ (cap : Int) := by omega
  have q3 : IntKind.i64.wrap ((y : Int) + 1) = (y : Int) + 1 := IntWalk.i64_in _ (by omega)
  have q4 : (cap = x) = False := by simp; omega
  have q5 : ((y : Int) + 1).toNat = y + 1 := by omega
  have q6 : (0 : Int) ≤ (y : Int) + 1 := by omega
  have q7 : x ≤ y + 1 := by omega
  have q8 : y + 1 ≤ cap := by omega
  have q9 : y < cap := by omega
  go_enter Tryd.func28, Tryd.ntmps28
  go_wp2_with fail
  go_region_with (first
    | (go_at_call_of 25 (Value.int IntKind.i64 c); refine (HB.out _ ?_).mono ?_; (first | with_reducible exact HL.out | with_reducible exact HL.out.drew); rintro e w2 ⟨rfl, hb2⟩; have HL' := (by first | exact HL.out.trans (hb2.mono HL.out.size) | exact HL.out.drew.trans (hb2.mono HL.out.drew.size) : Below w.heap.size w w2); clear HL; have HL := Lib.hid HL'; obtain ⟨-, -, -, -, k4⟩ := HP.out _ HL'; clear hb2 HL')
    | (go_at_call_of 25 (Value.int IntKind.i64 a); refine (HA.out _ ?_).mono ?_; (first | with_reducible exact HL.out | with_reducible exact HL.out.drew); rintro e w2 ⟨rfl, hb2⟩; have HL' := (by first | exact HL.out.trans (hb2.mono HL.out.size) | exact HL.out.drew.trans (hb2.mono HL.out.drew.size) : Below w.heap.size w w2); clear HL; have HL := Lib.hid HL'; obtain ⟨-, -, -, -, k4⟩ := HP.out _ HL'; clear hb2 HL'))
  all_goals go_wp2_with fail
  all_goals go_ret
  all_goals exact ⟨rfl, HL.out⟩
end Go.Proofs.YtnnkibdjbodncaaDoor
