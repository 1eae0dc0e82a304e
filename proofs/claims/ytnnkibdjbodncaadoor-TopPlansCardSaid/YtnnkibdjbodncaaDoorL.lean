/- Profiles: a step put behind the others. No condition. -/
import Derived.Test.YtnnkibdjbodncaaDoorK
import Derived.Maps.AppendAt
import Derived.WalkSmall
namespace Go.Proofs.YtnnkibdjbodncaaDoor
open Go.RowKit
/-- w' is w but for the block g, the row's block, and new blocks. -/
structure Else (g : Nat) (row : Option Nat) (w w' : World) : Prop where
  os : w'.os = w.os
  tape : w'.tape = w.tape
  output : w'.output = w.output
  size : w.heap.size ≤ w'.heap.size
  block : ∀ k, k < w.heap.size → k ≠ g → some k ≠ row → w'.heap[k]? = w.heap[k]?
theorem Else.below {g : Nat} {row : Option Nat} {w0 w w' : World} {N : Nat} (h : Else g row w w') (hb : Below N w0 w) (hN : N ≤ w.heap.size) (hg : N ≤ g) (hr : ∀ k, row = some k → N ≤ k) : Below N w0 w' :=
  hb.trans ⟨h.os, h.tape, h.output, h.size, fun k hk => h.block k (by omega) (by omega) fun e => by have := hr k e.symm; omega⟩
/-- The steps laid so far: a box that holds their slice. -/
def Box (w : World) (g : Nat) (v : Value) : Prop := w.heap[g]? = some (.cells #[v] 72)
theorem Box.lt {w : World} {g : Nat} {v : Value} (h : Box w g v) : g < w.heap.size := by
  unfold Box at h
  exact (Array.getElem?_eq_some_iff.1 h).1
theorem Box.cell {w : World} {g : Nat} {v : Value} (h : Box w g v) : w.cell? ⟨g, 0, none⟩ = some v := by
  unfold Box at h
  simp [World.cell?, h]
theorem Box.frozen {w : World} {g : Nat} {v : Value} (h : Box w g v) (o : Nat) : w.frozen? ⟨g, o, none⟩ = false := by
  unfold Box at h
  simp [World.frozen?, h]
theorem Box.below {w w' : World} {g N : Nat} {v : Value} (h : Box w g v) (hb : Below N w w') (hN : g < N) : Box w' g v := by
  unfold Box; rw [hb.block g hN]; exact h
theorem Tryd.info71 : (Tryd.prog.info? 71).map (fun i => (i.zero, i.size, i.bytes)) = some (some (.agg #[.int .i64 0, .int .u64 0, .int .u64 0, .int .u64 0, .int .u64 0]), 5, 40) := by kernel_rfl
def PutPost (w : World) (g B : Nat) (v : Value) (l : List St) (e : Ending) (w' : World) : Prop :=
  ∃ v', e = .returned (.tuple #[]) ∧ Box w' g v' ∧ StRow w' B v' l ∧ (v'.ownBlock = v.ownBlock ∨ ∃ k, w.heap.size ≤ k ∧ v'.ownBlock = some k) ∧ Else g v.ownBlock w w'
theorem box_row {w : World} {g B : Nat} {v u : Value} {l : List St} (hb : Box w g v) (hr : StRow w B u l) : u.ownBlock ≠ some g := by
  intro h
  rcases hr.2 with ⟨rfl, _⟩ | ⟨g', cap, cur, rfl, _, hg, _⟩
  · cases h
  · simp only [Value.ownBlock, Option.some.injEq] at h
    subst h
    unfold Box at hb
    rw [hb] at hg
    simp at hg
theorem box_grown {W2 w3 : World} {g B : Nat} {v : Value} {l : List St} (hgr : W2.grownBy w3 v.ownBlock) (hb : Box W2 g v) (hr : StRow W2 B v l) : Box w3 g v := by
  unfold Box
  rw [hgr.block g hb.lt (fun e => box_row hb hr e.symm)]
  exact hb
theorem row_form {w : World} {B n : Nat} {v : Value} {xs : List Value} (h : w.ownsRow B 71 5 v n xs) (hn : 0 < n) : ∃ g cap, v = .slice (some ⟨g, 0, none⟩) n cap := by
  rcases h.2 with ⟨_, h0⟩ | ⟨g, cap, cur, hv, _⟩
  · omega
  · exact ⟨g, cap, hv⟩
theorem put_done {w W2 w3 : World} {g B : Nat} {v0 v v' : Value} {l l' : List St} (hgr : W2.grownBy w3 v.ownBlock) (hv : v.ownBlock = v0.ownBlock) (h2 : Else g none w W2) (hb : Box W2 g v) (hr : StRow W2 B v l) (ho : StRow w3 B v' l')
    (hloc : v'.ownBlock = v.ownBlock ∨ v'.ownBlock = some W2.heap.size) : PutPost w g B v0 l' (.returned (.tuple #[])) (w3.setCell ⟨g, 0, none⟩ v') := by
  have hb3 : Box w3 g v := box_grown hgr hb hr
  refine ⟨v', rfl, ?_, ?_, ?_, ?_⟩
  · unfold Box at hb3 ⊢
    rw [heap_set4 _ _ _ _ _ _ hb3]
    rfl
  · exact ownsRow_setCell_other ho (box_row hb3 ho) _
  · rcases hloc with h | h
    · exact .inl (h.trans hv)
    · exact .inr ⟨_, h2.size, h⟩
  · refine ⟨hgr.os.trans h2.os, hgr.tape.trans h2.tape, hgr.output.trans h2.output, ?_, ?_⟩
    · have := h2.size; have := hgr.size; simp [World.setCell]; omega
    · intro k hk hkg hkr
      rw [Below.heap_setCell _ _ _ _ hkg, hgr.block k (Nat.lt_of_lt_of_le hk h2.size) (by rw [hv]; exact hkr), h2.block k hk hkg (by simp)]
theorem st_news {W : World} {b : Nat} {t x : Int} (h : W.heap[b]? = some (.cells #[.int .i64 t, .int .u64 x, .int .u64 0, .int .u64 0, .int .u64 0] 71)) : ∀ j u, (stC (t, x))[j]? = some u → W.cell? ((⟨b, 0, none⟩ : Addr).add j) = some u := by
  intro j u hj
  match j, hj with
  | 0, hj => simp [stC] at hj; subst hj; simp [Addr.add, World.cell?, h]
  | 1, hj => simp [stC] at hj; subst hj; simp [Addr.add, World.cell?, h]
  | 2, hj => simp [stC] at hj; subst hj; simp [Addr.add, World.cell?, h]
  | 3, hj => simp [stC] at hj; subst hj; simp [Addr.add, World.cell?, h]
  | 4, hj => simp [stC] at hj; subst hj; simp [Addr.add, World.cell?, h]
  | j + 5, hj => simp [stC] at hj
theorem st_one (t x : Int) : ∀ u ∈ stC (t, x), u.oneCell' = true := by
  intro u hu
  simp only [stC, List.mem_cons, List.not_mem_nil, or_false] at hu
  rcases hu with rfl | rfl | rfl | rfl | rfl <;> rfl
theorem stCs_snoc (l : List St) (s : St) : stCs (l ++ [s]) = stCs l ++ stC s := by simp [stCs]
theorem else_two (w : World) (g : Nat) (o1 o2 : Obj) : Else g none w ((w.alloc o1).alloc o2).drew :=
  ⟨rfl, rfl, rfl, by show _ ≤ ((w.alloc o1).alloc o2).heap.size; simp; omega, fun k hk _ _ => by
    show ((w.alloc o1).alloc o2).heap[k]? = _
    rw [Below.heap_alloc _ _ _ (by simp; omega), Below.heap_alloc _ _ _ hk]⟩
set_option maxHeartbeats 2000000 in
theorem put_first {w : World} {g B : Nat} {ao : Option Addr} {cap : Nat} (hb : Box w g (.slice ao 0 cap)) (hr : StRow w B (.slice ao 0 cap) []) (hB : B ≤ w.heap.size) (t x : Int) :
    Calls Tryd.prog 29 #[.int .i64 t, .agg #[.int .u64 x, .int .u64 0, .int .u64 0, .int .u64 0], .pointer (some ⟨g, 0, none⟩)] w (PutPost w g B (.slice ao 0 cap) [(t, x)]) := by
  have hb1 := hb.below (below_alloc' w (.cells #[.int .u64 x, .int .u64 0, .int .u64 0, .int .u64 0] 28)) hb.lt
  have hs1 : (w.alloc (.cells #[.int .u64 x, .int .u64 0, .int .u64 0, .int .u64 0] 28)).heap[w.heap.size]? = _ := heap_alloc_new w _
  have hO : (((w.alloc (.cells #[.int .u64 x, .int .u64 0, .int .u64 0, .int .u64 0] 28)).alloc (.cells #[.int .i64 t, .int .u64 x, .int .u64 0, .int .u64 0, .int .u64 0] 71))).ownsRow B 71 5 (.slice ao 0 cap) 0 [] := (World.ownsRow.alloc hr _).alloc _
  have H2 := Lib.hid (two w (.cells #[.int .u64 x, .int .u64 0, .int .u64 0, .int .u64 0] 28) (.cells #[.int .i64 t, .int .u64 x, .int .u64 0, .int .u64 0, .int .u64 0] 71)).2
  have HB2 := Lib.hid (hb1.below (below_alloc' _ (.cells #[.int .i64 t, .int .u64 x, .int .u64 0, .int .u64 0, .int .u64 0] 71)) hb1.lt)
  have c0 := hb1.cell
  have fr := hb1.frozen
  obtain ⟨i0, hi, hz0, hz1, hz2⟩ := info_parts Tryd.info71
  have HO := Lib.hid hO
  have HE := Lib.hid (else_two w g (.cells #[.int .u64 x, .int .u64 0, .int .u64 0, .int .u64 0] 28) (.cells #[.int .i64 t, .int .u64 x, .int .u64 0, .int .u64 0, .int .u64 0] 71))
  clear hr hO hb1 hb
  go_enter Tryd.func29, Tryd.ntmps29
  go_wp2_with fail
  go_region
  go_wp2_with (at_builtin; go_loud (refine wpList_append_own_at _ rfl _ _ 72 rfl B 71 i0 (.agg #[.int .i64 0, .int .u64 0, .int .u64 0, .int .u64 0, .int .u64 0]) 5 40 Tryd.underlying72 hi hz0 hz1 hz2 rfl (by decide) (.slice ao 0 cap) 0 [] rfl HO.out ⟨w.heap.size + 1, 0, none⟩ 1 1 (stC (t, x)) rfl rfl (st_news H2.out) (st_one t x) (by unfold maxLen; omega) (by omega) (by simp; omega) ?_; intro v' w3 hown' hgrow hnil hloc; obtain ⟨g', cap', rfl⟩ := row_form hown' (by omega); have hb3 := box_grown hgrow HB2.out HO.out (l := []); have fb3 := hb3.frozen; have HF := Lib.hid (put_done (w := w) (v0 := .slice ao 0 cap) (l := []) (l' := [(t, x)]) hgrow rfl HE.out HB2.out HO.out hown' hloc); have cb3 := hb3.cell; clear hb3 hnil hloc hgrow hown'))
  exact bodyPost_end (v := .tuple #[]) (by simp [results, Tryd.results29, go_sem]) rfl HF.out
end Go.Proofs.YtnnkibdjbodncaaDoor
