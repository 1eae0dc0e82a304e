/-
  A set of numbers, kept as a map from int to bool that the call itself made: what it holds, look-up, and a new key. No condition.
-/
import Derived.Test.YtojinbckpjddmaaWe
import Derived.Maps.OwnOps
namespace Go.Proofs.Ytojinbckpjddmaa
open Go.RowKit

/-- The entries of a set, in the order in which they came. -/
def entsFrom : Nat → List Int → List MapEntry
  | _, [] => []
  | i, m :: r => { key := .int .i64 m, val := .bool true, born := i } :: entsFrom (i + 1) r
theorem entsFrom_snoc : ∀ (M : List Int) (i : Nat) (x : Int), entsFrom i (M ++ [x]) = entsFrom i M ++ [{ key := .int .i64 x, val := .bool true, born := i + M.length }]
  | [], i, x => by simp [entsFrom]
  | m :: r, i, x => by simp [entsFrom, entsFrom_snoc r (i + 1) x]; omega
def MapIs (w : World) (B : Nat) (M : List Int) : Prop := w.heap[B]? = some (.map (entsFrom 0 M).toArray M.length)
theorem find_none : ∀ (M : List Int) (i j : Nat) (x : Int), M.contains x = false → Instr.findNow (.int .i64) (.int .i64 x) (entsFrom i M) j = some none
  | [], _, _, _, _ => rfl
  | m :: r, i, j, x, h => by
    simp only [List.contains_cons, Bool.or_eq_false_iff] at h
    simp only [entsFrom, Instr.findNow, Instr.sameNow, if_true]
    rw [h.1]
    exact find_none r (i + 1) (j + 1) x h.2
theorem find_some : ∀ (M : List Int) (i j : Nat) (x : Int), M.contains x = true → ∃ n, Instr.findNow (.int .i64) (.int .i64 x) (entsFrom i M) j = some (some (n, .bool true))
  | [], _, _, _, h => by simp at h
  | m :: r, i, j, x, h => by
    simp only [entsFrom, Instr.findNow, Instr.sameNow, if_true]
    cases hx : (x == m) with
    | true => exact ⟨j, rfl⟩
    | false =>
      simp only [List.contains_cons, hx, Bool.false_or] at h
      exact find_some r (i + 1) (j + 1) x h
theorem check_int (e : Bool) (x : Int) (w : World) : (Instr.checkKey e 10000 3 (.int .i64 x)).run Try.prog w = .ok () w :=
  MapKept.run_checkKey Try.underlying3 (by simp [MapKept.IsKey]) e 9999
theorem run_lookup_set (w : World) (B : Nat) (M : List Int) (x : Int) (h : MapIs w B M) : (Instr.lookup 35 (.map (some B)) (.int .i64 x) false).run Try.prog w = .ok (.bool (M.contains x)) w := by
  have hz : (zeroValue 4).run Try.prog w = .ok (.bool false) w := by kernel_rfl
  cases hc : M.contains x with
  | false =>
    have hf := find_none M 0 0 x hc
    simp [Instr.lookup, run_underlying Try.underlying35, MapKept.run_getObj_map h, check_int, Instr.findKey, run_underlying Try.underlying3, hf, hz, Result.andThen]
  | true =>
    obtain ⟨n, hf⟩ := find_some M 0 0 x hc
    simp [Instr.lookup, run_underlying Try.underlying35, MapKept.run_getObj_map h, check_int, Instr.findKey, run_underlying Try.underlying3, hf, Result.andThen]
theorem run_update_set (w : World) (B : Nat) (M : List Int) (x : Int) (h : MapIs w B M) (hx : M.contains x = false) :
    (Instr.mapUpdate 35 (.map (some B)) (.int .i64 x) (.bool true)).run Try.prog w = .ok () (ChangeMaps.setBlock w B (.map (entsFrom 0 (M ++ [x])).toArray (M.length + 1))) := by
  have hf := find_none M 0 0 x hx
  have e : (entsFrom 0 M).toArray.push { key := .int .i64 x, val := .bool true, born := M.length } = (entsFrom 0 (M ++ [x])).toArray := by
    rw [entsFrom_snoc]; simp
  simp [Instr.mapUpdate, run_underlying Try.underlying35, MapKept.run_getObj_map h, check_int, Instr.findKey, run_underlying Try.underlying3, hf, Result.andThen, MapKept.run_setObj_map _ h, ChangeMaps.setBlock, e]
/-- What a new key leaves. -/
structure SetStep (w w' : World) (B : Nat) (M : List Int) : Prop where
  is : MapIs w' B M
  os : w'.os = w.os
  tape : w'.tape = w.tape
  output : w'.output = w.output
  size : w'.heap.size = w.heap.size
  block : ∀ k, k ≠ B → w'.heap[k]? = w.heap[k]?
theorem setStep_of (w : World) (B : Nat) (M : List Int) (x : Int) (h : MapIs w B M) : SetStep w (ChangeMaps.setBlock w B (.map (entsFrom 0 (M ++ [x])).toArray (M.length + 1))) B (M ++ [x]) := by
  have hlt : B < w.heap.size := (Array.getElem?_eq_some_iff.1 h).1
  refine ⟨?_, rfl, rfl, rfl, by simp [ChangeMaps.setBlock], fun k hk => ?_⟩
  · show (w.heap.setIfInBounds B _)[B]? = _
    simp [hlt]
  · show (w.heap.setIfInBounds B _)[k]? = _
    rw [Array.getElem?_setIfInBounds_ne (Ne.symm hk)]
theorem wpList_update_set (w : World) {ops : Array Oper} {rest : List Oper} {o : Oper} {a : Act} {Q : Exit → Act → World → Prop}
    (hg : o.guard = none) (m k v : Operand) (hop : o.op = Op.mapUpdate 35 m k v ∨ o.op = Op.insert 35 m k v) (B : Nat) (M : List Int) (x : Int) (hm : a.eval m = .map (some B)) (hk : a.eval k = .int .i64 x) (hv : a.eval v = .bool true)
    (h : MapIs w B M) (hx : M.contains x = false) (hK : ∀ w', SetStep w w' B (M ++ [x]) → wpList Try.prog ops Q rest (a.put o.dst undef) w') :
    wpList Try.prog ops Q (o :: rest) a w := by
  refine wpList_plain hg fun K' hK' => ?_
  have hrun := run_update_set w B M x h hx
  unfold Oper.wp
  rcases hop with hop | hop
  · simp [execOp, hop, hm, hk, hv, hrun, Result.andThen]
    exact hK' _ _ (hK _ (setStep_of w B M x h))
  · simp [execOp, hop, hm, hk, hv, hrun, Result.andThen]
    exact hK' _ _ (hK _ (setStep_of w B M x h))
theorem MapIs.lt {w : World} {B : Nat} {M : List Int} (h : MapIs w B M) : B < w.heap.size := (Array.getElem?_eq_some_iff.1 h).1
theorem MapIs.below {w w' : World} {B : Nat} {M : List Int} (h : MapIs w B M) (hb : Below w.heap.size w w') : MapIs w' B M := (hb.block B h.lt).trans h
theorem MapIs.alloc {w : World} {B : Nat} {M : List Int} (h : MapIs w B M) (o : Obj) : MapIs (w.alloc o) B M := h.below ((Below.refl _ _).alloc (Nat.le_refl _) o)
theorem grown_of_below {w w' : World} (hb : Below w.heap.size w w') : w.grownBy w' none := ⟨hb.os, hb.tape, hb.output, hb.size, fun k hk _ => hb.block k hk⟩
theorem own_below {w w' : World} {base : Nat} {e : TypeId} {size : Nat} {v : Value} {n : Nat} {xs : List Value} (h : w.ownsRow base e size v n xs) (hb : Below w.heap.size w w') : w'.ownsRow base e size v n xs := by
  refine h.kept (grown_of_below hb) ?_
  cases hv : v.ownBlock with
  | none => exact .inl rfl
  | some k => exact .inr (by simp)
/-- A row is no map: a new key turns no row. -/
theorem own_set {w w' : World} {base : Nat} {e : TypeId} {size : Nat} {v : Value} {n : Nat} {xs : List Value} {B : Nat} {M N : List Int} (h : w.ownsRow base e size v n xs) (hm : MapIs w B N) (hs : SetStep w w' B M) : w'.ownsRow base e size v n xs := by
  obtain ⟨h1, h2⟩ := h
  refine ⟨h1, ?_⟩
  rcases h2 with h2 | ⟨g, cap, cur, hv, hg, hh, r⟩
  · exact .inl h2
  · refine .inr ⟨g, cap, cur, hv, hg, ?_, r⟩
    rw [hs.block g (fun e => ?_)]
    · exact hh
    · subst e
      have hm' : w.heap[g]? = some (.map (entsFrom 0 N).toArray N.length) := hm
      rw [hm'] at hh
      simp at hh
/-- A row of the call's own is no map. -/
theorem map_grown {w w' : World} {B : Nat} {M : List Int} {base : Nat} {e : TypeId} {size : Nat} {v : Value} {n : Nat} {xs : List Value} (h : MapIs w B M) (ho : w.ownsRow base e size v n xs) (hg : w.grownBy w' v.ownBlock) : MapIs w' B M := by
  refine (hg.block B h.lt ?_).trans h
  obtain ⟨h1, ⟨rfl, _⟩ | ⟨g, cap, cur, rfl, _, hh, _⟩⟩ := ho
  · simp [Value.ownBlock]
  · simp only [Value.ownBlock]
    intro e
    injection e with e
    subst e
    have h' : w.heap[B]? = some (.map (entsFrom 0 M).toArray M.length) := h
    rw [h'] at hh
    simp at hh
end Go.Proofs.Ytojinbckpjddmaa
