/- Profiles: a step put behind others. No condition. -/
import Derived.Test.YtnnkibdjbodncaaDoorL
import Derived.Test.YtnnkibdjbodncaaDoorSc
import Derived.Laws.StructEq
namespace Go.Proofs.YtnnkibdjbodncaaDoor
open Go.RowKit
theorem guard28 : Tryd.prog.eqGuardType Tryd.prog.depth 28 = false := by kernel_rfl
theorem equal_int26 (d : Nat) (x y : Int) (w : World) : (Op.equalIn (d + 1) 26 (.int .u64 x) (.int .u64 y)).run Tryd.prog w = .ok (x == y) w := run_equalIn_int w d 26 _ _ x y Tryd.underlying26
theorem size26 (w : World) : (sizeOf 26).run Tryd.prog w = .ok 1 w := by kernel_rfl
theorem part26 (x0 x1 x2 x3 : Int) (w : World) :
  (part 26 #[.int .u64 x0, .int .u64 x1, .int .u64 x2, .int .u64 x3] 0).run Tryd.prog w = .ok (.int .u64 x0) w ∧
  (part 26 #[.int .u64 x0, .int .u64 x1, .int .u64 x2, .int .u64 x3] 1).run Tryd.prog w = .ok (.int .u64 x1) w ∧
  (part 26 #[.int .u64 x0, .int .u64 x1, .int .u64 x2, .int .u64 x3] 2).run Tryd.prog w = .ok (.int .u64 x2) w ∧
  (part 26 #[.int .u64 x0, .int .u64 x1, .int .u64 x2, .int .u64 x3] 3).run Tryd.prog w = .ok (.int .u64 x3) w := ⟨by kernel_rfl, by kernel_rfl, by kernel_rfl, by kernel_rfl⟩
theorem equal28d (d : Nat) (x y : Int) (w : World) : (Op.equalIn (d + 2) 28 (.agg #[.int .u64 x, .int .u64 0, .int .u64 0, .int .u64 0]) (.agg #[.int .u64 y, .int .u64 0, .int .u64 0, .int .u64 0])).run Tryd.prog w = .ok (x == y) w := by
  obtain ⟨a0, a1, a2, a3⟩ := part26 x 0 0 0 w
  obtain ⟨b0, b1, b2, b3⟩ := part26 y 0 0 0 w
  rw [show d + 2 = (d + 1) + 1 from rfl, Op.equalIn]
  by_cases h : x = y
  · simp [run_underlying Tryd.underlying28, Result.andThen, Std.Legacy.Range.forIn_eq_forIn_range', Std.Legacy.Range.size, List.range', b0, b1, b2, b3, equal_int26, h]
  · simp [run_underlying Tryd.underlying28, Result.andThen, Std.Legacy.Range.forIn_eq_forIn_range', Std.Legacy.Range.size, List.range', a0, b0, equal_int26, h]
theorem equal28 (x y : Int) (w : World) : (Op.equalIn 10000 28 (.agg #[.int .u64 x, .int .u64 0, .int .u64 0, .int .u64 0]) (.agg #[.int .u64 y, .int .u64 0, .int .u64 0, .int .u64 0])).run Tryd.prog w = .ok (x == y) w := equal28d 9998 x y w
theorem neq28 (x y : Int) (w : World) : (binOp .neq 28 (.agg #[.int .u64 x, .int .u64 0, .int .u64 0, .int .u64 0]) (.agg #[.int .u64 y, .int .u64 0, .int .u64 0, .int .u64 0])).run Tryd.prog w = .ok (.bool (!(x == y))) w := by
  rw [run_neq_struct, equal28]; rfl
theorem own_of {w : World} {B n : Nat} {v : Value} {l : List St} (hn : l.length = n) (h : StRow w B v l) : w.ownsRow B 71 5 v n (stCs l) := hn ▸ h
theorem own_snoc {w : World} {B n : Nat} {v : Value} {l : List St} {s : St} (hn : l.length = n) (h : w.ownsRow B 71 5 v (n + 1) (stCs l ++ stC s)) : StRow w B v (l ++ [s]) := by
  unfold StRow
  rw [stCs_snoc, List.length_append, hn]
  exact h
theorem last_cells {w : World} {B n cap g0 : Nat} {m : List St} {s : St} (hm : m.length = n) (h : StRow w B (.slice (some ⟨g0, 0, none⟩) (n + 1) cap) (m ++ [s])) :
    w.cell? ⟨g0, n * 5, none⟩ = some (.int .i64 s.1) ∧ w.cell? ⟨g0, n * 5 + 1, none⟩ = some (.int .u64 s.2) ∧ w.cell? ⟨g0, n * 5 + 2, none⟩ = some (.int .u64 0) ∧ w.cell? ⟨g0, n * 5 + 3, none⟩ = some (.int .u64 0) ∧ w.cell? ⟨g0, n * 5 + 4, none⟩ = some (.int .u64 0) := by
  obtain ⟨g', cap', he, _, _, _, _, hc⟩ := h.form (by simp)
  simp only [Value.slice.injEq, Option.some.injEq, Addr.mk.injEq, and_true] at he
  obtain ⟨rfl, _, _⟩ := he
  exact hc n s (by rw [← hm]; simp)
theorem else_one (w : World) (g : Nat) (row : Option Nat) (o : Obj) : Else g row w (w.alloc o) :=
  ⟨rfl, rfl, rfl, by simp, fun k hk _ _ => by rw [Below.heap_alloc _ _ _ hk]⟩
theorem else_one_drew (w : World) (g : Nat) (row : Option Nat) (o : Obj) : Else g row w (w.alloc o).drew :=
  ⟨rfl, rfl, rfl, by show _ ≤ (w.alloc o).heap.size; simp, fun k hk _ _ => by
    show (w.alloc o).heap[k]? = _
    rw [Below.heap_alloc _ _ _ hk]⟩
set_option maxHeartbeats 2000000 in
theorem put_new {w : World} {g B g0 n cap : Nat} {m : List St} {s : St} (hm : m.length = n) (hn : n ≤ 20000) (hb : Box w g (.slice (some ⟨g0, 0, none⟩) (n + 1) cap)) (hr : StRow w B (.slice (some ⟨g0, 0, none⟩) (n + 1) cap) (m ++ [s])) (hB : B ≤ w.heap.size) (t x : Int) (ht : ¬ s.1 = t) (hx : ¬ s.2 = x) :
    Calls Tryd.prog 29 #[.int .i64 t, .agg #[.int .u64 x, .int .u64 0, .int .u64 0, .int .u64 0], .pointer (some ⟨g, 0, none⟩)] w (PutPost w g B (.slice (some ⟨g0, 0, none⟩) (n + 1) cap) ((m ++ [s]) ++ [(t, x)])) := by
  have hb1 := hb.below (below_alloc' w (.cells #[.int .u64 x, .int .u64 0, .int .u64 0, .int .u64 0] 28)) hb.lt
  have hr1 : StRow (w.alloc (.cells #[.int .u64 x, .int .u64 0, .int .u64 0, .int .u64 0] 28)) B (.slice (some ⟨g0, 0, none⟩) (n + 1) cap) (m ++ [s]) := World.ownsRow.alloc hr _
  have hs1 : (w.alloc (.cells #[.int .u64 x, .int .u64 0, .int .u64 0, .int .u64 0] 28)).heap[w.heap.size]? = _ := heap_alloc_new w _
  obtain ⟨d0, d1, d2, d3, d4⟩ := last_cells hm hr1
  have H2 := Lib.hid (two w (.cells #[.int .u64 x, .int .u64 0, .int .u64 0, .int .u64 0] 28) (.cells #[.int .i64 t, .int .u64 x, .int .u64 0, .int .u64 0, .int .u64 0] 71)).2
  have HB2 := Lib.hid (hb1.below (below_alloc' _ (.cells #[.int .i64 t, .int .u64 x, .int .u64 0, .int .u64 0, .int .u64 0] 71)) hb1.lt)
  have hR2 : StRow ((w.alloc (.cells #[.int .u64 x, .int .u64 0, .int .u64 0, .int .u64 0] 28)).alloc (.cells #[.int .i64 t, .int .u64 x, .int .u64 0, .int .u64 0, .int .u64 0] 71)) B (.slice (some ⟨g0, 0, none⟩) (n + 1) cap) (m ++ [s]) := World.ownsRow.alloc hr1 _
  have HR2 := Lib.hid hR2
  have HO := Lib.hid (own_of (n := n + 1) (by simp [hm]) hR2)
  have c0 := hb1.cell
  have fr := hb1.frozen
  obtain ⟨i0, hi, hz0, hz1, hz2⟩ := info_parts Tryd.info71
  have HE := Lib.hid (else_two w g (.cells #[.int .u64 x, .int .u64 0, .int .u64 0, .int .u64 0] 28) (.cells #[.int .i64 t, .int .u64 x, .int .u64 0, .int .u64 0, .int .u64 0] 71))
  clear hr hr1 hR2 hb1 hb
  have e1 : ((n : Int) + 1 == 0) = false := by simp; omega
  have e2 : (s.2 == x) = false := by simpa using hx
  have e3 : (s.1 == t) = false := by simpa using ht
  have e4 : IntKind.i64.wrap ((n : Int) + 1 - 1) = n := by rw [IntWalk.i64_in _ (by omega)]; omega
  have e5 : IntKind.i64.wrap (n : Int) = n := IntWalk.i64_in _ (by omega)
  have g28 := guard28
  have hne : ∀ w, (binOp .neq 28 (.agg #[.int .u64 s.2, .int .u64 0, .int .u64 0, .int .u64 0]) (.agg #[.int .u64 x, .int .u64 0, .int .u64 0, .int .u64 0])).run Tryd.prog w = .ok (.bool true) w := fun w => by rw [neq28, e2]; rfl
  go_enter Tryd.func29, Tryd.ntmps29
  go_wp2_with fail
  go_region
  go_wp2_with (at_builtin; refine wpList_append_own_at _ rfl _ _ 72 rfl B 71 i0 (.agg #[.int .i64 0, .int .u64 0, .int .u64 0, .int .u64 0, .int .u64 0]) 5 40 Tryd.underlying72 hi hz0 hz1 hz2 rfl (by decide) (.slice (some ⟨g0, 0, none⟩) (n + 1) cap) (n + 1) (stCs (m ++ [s])) rfl HO.out ⟨w.heap.size + 1, 0, none⟩ 1 1 (stC (t, x)) rfl rfl (st_news H2.out) (st_one t x) (by unfold maxLen; omega) (by omega) (by simp; omega) ?_; intro v' w3 hown' hgrow hnil hloc; obtain ⟨g', cap', rfl⟩ := row_form hown' (by omega); have hb3 := box_grown hgrow HB2.out HR2.out; have fb3 := hb3.frozen; have hfin := put_done (w := w) (v0 := (.slice (some ⟨g0, 0, none⟩) (n + 1) cap)) (l' := (m ++ [s]) ++ [(t, x)]) hgrow rfl HE.out HB2.out HR2.out (own_snoc (by simp [hm]) hown') hloc; have HF := Lib.hid hfin; have cb3 := hb3.cell; clear hb3 hnil hloc hgrow hown' hfin)
  exact bodyPost_end (v := .tuple #[]) (by simp [results, Tryd.results29, go_sem]) rfl HF.out
set_option maxHeartbeats 2000000 in
theorem put_same {w : World} {g B g0 n cap : Nat} {m : List St} {s : St} (hm : m.length = n) (hn : n ≤ 20000) (hb : Box w g (.slice (some ⟨g0, 0, none⟩) (n + 1) cap)) (hr : StRow w B (.slice (some ⟨g0, 0, none⟩) (n + 1) cap) (m ++ [s])) (t : Int) (ht : ¬ s.1 = t) :
    Calls Tryd.prog 29 #[.int .i64 t, .agg #[.int .u64 s.2, .int .u64 0, .int .u64 0, .int .u64 0], .pointer (some ⟨g, 0, none⟩)] w (PutPost w g B (.slice (some ⟨g0, 0, none⟩) (n + 1) cap) (m ++ [s])) := by
  obtain ⟨x, hx⟩ : ∃ x, s.2 = x := ⟨_, rfl⟩
  have hb1 := hb.below (below_alloc' w (.cells #[.int .u64 s.2, .int .u64 0, .int .u64 0, .int .u64 0] 28)) hb.lt
  have hr1 : StRow (w.alloc (.cells #[.int .u64 s.2, .int .u64 0, .int .u64 0, .int .u64 0] 28)) B (.slice (some ⟨g0, 0, none⟩) (n + 1) cap) (m ++ [s]) := World.ownsRow.alloc hr _
  obtain ⟨d0, d1, d2, d3, d4⟩ := last_cells hm hr1
  have HB1 := Lib.hid hb1
  have HR1 := Lib.hid hr1
  have HE := Lib.hid (else_one_drew w g (some g0) (.cells #[.int .u64 s.2, .int .u64 0, .int .u64 0, .int .u64 0] 28))
  have c0 := hb1.cell
  rw [hx] at HB1 HR1 HE c0 d0 d1 d2 d3 d4
  rw [hx]
  clear hr hr1 hb1 hb
  have e1 : ((n : Int) + 1 == 0) = false := by simp; omega
  have e3 : (s.1 == t) = false := by simpa using ht
  have e4 : IntKind.i64.wrap ((n : Int) + 1 - 1) = n := by rw [IntWalk.i64_in _ (by omega)]; omega
  have e5 : IntKind.i64.wrap (n : Int) = n := IntWalk.i64_in _ (by omega)
  have g28 := guard28
  have hne : ∀ w, (binOp .neq 28 (.agg #[.int .u64 x, .int .u64 0, .int .u64 0, .int .u64 0]) (.agg #[.int .u64 x, .int .u64 0, .int .u64 0, .int .u64 0])).run Tryd.prog w = .ok (.bool false) w := fun w => by rw [neq28]; simp
  go_enter Tryd.func29, Tryd.ntmps29
  go_wp2_with fail
  go_region
  go_wp2_with fail
  exact bodyPost_end (v := .tuple #[]) (by simp [results, Tryd.results29, go_sem]) rfl ⟨_, rfl, HB1.out, HR1.out, .inl rfl, HE.out⟩
theorem put_any {w : World} {g B : Nat} {v : Value} {out : List St} (hn : out.length ≤ 20000) (hb : Box w g v) (hr : StRow w B v out) (hB : B ≤ w.heap.size) (t x : Int) (ht : ∀ s ∈ out, s.1 < t) :
    Calls Tryd.prog 29 #[.int .i64 t, .agg #[.int .u64 x, .int .u64 0, .int .u64 0, .int .u64 0], .pointer (some ⟨g, 0, none⟩)] w (PutPost w g B v (putL out (t, x))) := by
  by_cases h0 : out = []
  · subst h0
    rw [putL_nil]
    have hr' := hr
    rcases hr'.2 with ⟨rfl, _⟩ | ⟨g0, cap, cur, rfl, _⟩
    · exact put_first hb hr hB t x
    · exact put_first hb hr hB t x
  · obtain ⟨m, s, rfl⟩ := snoc_of h0
    have hst := ht s (by simp)
    obtain ⟨g0, cap, rfl, -⟩ := hr.form h0
    rw [List.length_append] at hb hr hn ⊢
    simp only [List.length_cons, List.length_nil, Nat.zero_add] at hb hr hn ⊢
    by_cases hx : s.2 = x
    · rw [putL_same (by exact hx)]
      subst hx
      exact put_same rfl (by omega) hb hr t (by omega)
    · rw [putL_new (by exact hx)]
      exact put_new rfl (by omega) hb hr hB t x (by omega) hx
end Go.Proofs.YtnnkibdjbodncaaDoor
