/- Laws for the statement's own code: a slice cut, a map from numbers to plans, rows appended. No condition. -/
import Derived.Test.YtnnkibdjbodncaaDoorV
import Derived.Deep.AppendSrc
namespace Go.Proofs.YtnnkibdjbodncaaDoor
open Go.RowKit
/-- 's[:m]' of whatever slice. -/
theorem run_cut {t e : TypeId} (ht : Tryd.prog.underlying t = some (.slice e)) (hs : ∃ k, ∀ w, (sizeOf e).run Tryd.prog w = .ok k w) (ao : Option Addr) (n cap m : Nat) (hm : m ≤ cap) (w : World) :
    (Instr.slice t (.slice ao n cap) none (some (.int .i64 m)) none).run Tryd.prog w = .ok (.slice ao m cap) w := by
  obtain ⟨k, hk⟩ := hs
  have h2 : ((m : Int) ≤ (cap : Int)) := by omega
  simp [Instr.slice, run_underlying ht, Instr.sliceBounds, Instr.sliceBound, asIntOf, Result.andThen, hk]
  cases ao <;> simp [Addr.add, hm]
/-- A map from numbers to plans that the call made: its entries, in the order in which they came. -/
def plVal (p : Pl) : Value := .agg #[.int .i64 p.1, .int .i64 p.2.1, .int .u64 p.2.2, .int .u64 0, .int .u64 0, .int .u64 0]
def entsP : Nat → List Pl → List MapEntry
  | _, [] => []
  | i, p :: r => { key := .int .i64 p.1, val := plVal p, born := i } :: entsP (i + 1) r
theorem entsP_snoc : ∀ (M : List Pl) (i : Nat) (x : Pl), entsP i (M ++ [x]) = entsP i M ++ [{ key := .int .i64 x.1, val := plVal x, born := i + M.length }]
  | [], i, x => by simp [entsP]
  | m :: r, i, x => by simp [entsP, entsP_snoc r (i + 1) x]; omega
def MapP (w : World) (B : Nat) (M : List Pl) : Prop := w.heap[B]? = some (.map (entsP 0 M).toArray M.length)
/-- Whose plan is known. -/
def look (M : List Pl) (id : Nat) : Option Pl := M.find? fun p => p.1 == id
theorem find_look : ∀ (M : List Pl) (i j : Nat) (x : Nat), (look M x = none → Instr.findNow (.int .i64) (.int .i64 x) (entsP i M) j = some none) ∧ (∀ p, look M x = some p → ∃ n, j ≤ n ∧ M[n - j]? = some p ∧ Instr.findNow (.int .i64) (.int .i64 x) (entsP i M) j = some (some (n, plVal p)))
  | [], _, _, _ => ⟨fun _ => rfl, fun p h => by simp [look] at h⟩
  | m :: r, i, j, x => by
    obtain ⟨h1, h2⟩ := find_look r (i + 1) (j + 1) x
    unfold look at h1 h2 ⊢
    rw [List.find?_cons]
    simp only [entsP, Instr.findNow, Instr.sameNow, if_true]
    by_cases hx : m.1 = x
    · have e1 : (m.1 == x) = true := by simpa using hx
      have e2 : ((x : Int) == (m.1 : Int)) = true := by simp [hx]
      rw [e1, e2]
      simp only
      refine ⟨fun h => by simp at h, fun p hp => ?_⟩
      simp only [Option.some.injEq] at hp
      subst hp
      exact ⟨j, Nat.le_refl _, by simp, rfl⟩
    · have e1 : (m.1 == x) = false := by simpa using hx
      have e2 : ((x : Int) == (m.1 : Int)) = false := by simp; omega
      rw [e1, e2]
      simp only
      refine ⟨h1, fun p hp => ?_⟩
      obtain ⟨n, hn, hg, hf⟩ := h2 p hp
      refine ⟨n, by omega, ?_, hf⟩
      rw [show n - j = (n - (j + 1)) + 1 by omega, List.getElem?_cons_succ]
      exact hg
theorem zero48 (w : World) : (zeroValue 48).run Tryd.prog w = .ok (.agg #[.int .i64 0, .int .i64 0, .int .u64 0, .int .u64 0, .int .u64 0, .int .u64 0]) w := by kernel_rfl
theorem run_look_none {w : World} {B : Nat} {M : List Pl} {x : Nat} (h : MapP w B M) (hx : look M x = none) : (Instr.lookup 42 (.map (some B)) (.int .i64 x) true).run Tryd.prog w = .ok (.tuple #[.agg #[.int .i64 0, .int .i64 0, .int .u64 0, .int .u64 0, .int .u64 0, .int .u64 0], .bool false]) w := by
  have hf := (find_look M 0 0 x).1 hx
  simp [Instr.lookup, run_underlying Tryd.underlying42, MapKept.run_getObj_map h, check_int, Instr.findKey, run_underlying Tryd.underlying3, hf, Result.andThen]
theorem run_look_some {w : World} {B : Nat} {M : List Pl} {x : Nat} {p : Pl} (h : MapP w B M) (hx : look M x = some p) : (Instr.lookup 42 (.map (some B)) (.int .i64 x) true).run Tryd.prog w = .ok (.tuple #[.agg #[.int .i64 p.1, .int .i64 p.2.1, .int .u64 p.2.2, .int .u64 0, .int .u64 0, .int .u64 0], .bool true]) w := by
  obtain ⟨n, _, _, hf⟩ := (find_look M 0 0 x).2 p hx
  simp [Instr.lookup, run_underlying Tryd.underlying42, MapKept.run_getObj_map h, check_int, Instr.findKey, run_underlying Tryd.underlying3, hf, Result.andThen, plVal]
/-- What a plan that is put into the map leaves. -/
structure StepP (w w' : World) (B : Nat) (M : List Pl) : Prop where
  is : MapP w' B M
  os : w'.os = w.os
  tape : w'.tape = w.tape
  output : w'.output = w.output
  size : w'.heap.size = w.heap.size
  block : ∀ k, k ≠ B → w'.heap[k]? = w.heap[k]?
theorem stepP_of {w : World} {B : Nat} {M N : List Pl} (h : MapP w B M) : StepP w (ChangeMaps.setBlock w B (.map (entsP 0 N).toArray N.length)) B N := by
  have hlt : B < w.heap.size := (Array.getElem?_eq_some_iff.1 h).1
  refine ⟨?_, rfl, rfl, rfl, by simp [ChangeMaps.setBlock], fun k hk => ?_⟩
  · show (w.heap.setIfInBounds B _)[B]? = _
    simp [hlt]
  · show (w.heap.setIfInBounds B _)[k]? = _
    rw [Array.getElem?_setIfInBounds_ne (Ne.symm hk)]
theorem run_put_new {w : World} {B : Nat} {M : List Pl} {p : Pl} (h : MapP w B M) (hx : look M p.1 = none) :
    (Instr.mapUpdate 42 (.map (some B)) (.int .i64 p.1) (plVal p)).run Tryd.prog w = .ok () (ChangeMaps.setBlock w B (.map (entsP 0 (M ++ [p])).toArray (M ++ [p]).length)) := by
  have hf := (find_look M 0 0 p.1).1 hx
  have e : (entsP 0 M).toArray.push { key := .int .i64 p.1, val := plVal p, born := M.length } = (entsP 0 (M ++ [p])).toArray := by
    rw [entsP_snoc]; simp
  simp [Instr.mapUpdate, run_underlying Tryd.underlying42, MapKept.run_getObj_map h, check_int, Instr.findKey, run_underlying Tryd.underlying3, hf, Result.andThen, MapKept.run_setObj_map _ h, ChangeMaps.setBlock, e]
theorem look_id {M : List Pl} {x : Nat} {p : Pl} (h : look M x = some p) : p.1 = x := by
  have := List.find?_some h
  simpa using this
theorem entsP_get : ∀ (M : List Pl) (i n : Nat) (p : Pl), M[n]? = some p → (entsP i M)[n]? = some { key := .int .i64 p.1, val := plVal p, born := i + n }
  | [], _, _, _, h => by simp at h
  | m :: r, i, 0, p, h => by simp at h; subst h; simp [entsP]
  | m :: r, i, n + 1, p, h => by
    simp at h
    simp only [entsP, List.getElem?_cons_succ]
    rw [entsP_get r (i + 1) n p h]
    congr 2
    omega
theorem run_put_same {w : World} {B : Nat} {M : List Pl} {p : Pl} (h : MapP w B M) (hx : look M p.1 = some p) :
    (Instr.mapUpdate 42 (.map (some B)) (.int .i64 p.1) (plVal p)).run Tryd.prog w = .ok () (ChangeMaps.setBlock w B (.map (entsP 0 M).toArray M.length)) := by
  obtain ⟨n, _, hg, hf⟩ := (find_look M 0 0 p.1).2 p hx
  rw [Nat.sub_zero] at hg
  have he := entsP_get M 0 n p hg
  have e : (entsP 0 M).toArray.modify n (fun e => { e with key := .int .i64 p.1, val := plVal p }) = (entsP 0 M).toArray := by
    apply Array.ext'
    rw [Array.toList_modify]
    simp only
    apply List.ext_getElem?
    intro k
    rw [List.getElem?_modify]
    by_cases hk : n = k
    · subst hk
      rw [he]; simp
    · simp [hk]
  simp only [Nat.zero_add] at he
  simp [Instr.mapUpdate, run_underlying Tryd.underlying42, MapKept.run_getObj_map h, check_int, Instr.findKey, run_underlying Tryd.underlying3, hf, Result.andThen, MapKept.run_setObj_map _ h, ChangeMaps.setBlock, Instr.keyThatStays, he, Instr.sameBits]
  congr 3
  simpa using congrArg Array.toList e
theorem guard48 : Tryd.prog.eqGuardType Tryd.prog.depth 48 = false := by kernel_rfl
theorem held48 : Tryd.prog.stoodInHeld 48 = false := by kernel_rfl
theorem fields48 : Tryd.prog.underlying 48 = some (.struct (Tryd.prog.fieldsOf 48)) := by kernel_rfl
theorem fieldsL48 : (Tryd.prog.fieldsOf 48).toList.map (fun f => (f.name, f.type, f.offset)) = [("Id", 3, 0), ("At", 3, 1), ("Nodes", 28, 2)] := by kernel_rfl
theorem part48 (a b c : Value) (w : World) : (part 3 #[a, b, c, .int .u64 0, .int .u64 0, .int .u64 0] 0).run Tryd.prog w = .ok a w ∧ (part 3 #[a, b, c, .int .u64 0, .int .u64 0, .int .u64 0] 1).run Tryd.prog w = .ok b w ∧
    (part 28 #[a, b, c, .int .u64 0, .int .u64 0, .int .u64 0] 2).run Tryd.prog w = .ok (.agg #[c, .int .u64 0, .int .u64 0, .int .u64 0]) w := ⟨by kernel_rfl, by kernel_rfl, by kernel_rfl⟩
/-- A plan is itself. -/
theorem equal48 (id t S : Int) (w : World) : (Op.equalIn 10000 48 (.agg #[.int .i64 id, .int .i64 t, .int .u64 S, .int .u64 0, .int .u64 0, .int .u64 0]) (.agg #[.int .i64 id, .int .i64 t, .int .u64 S, .int .u64 0, .int .u64 0, .int .u64 0])).run Tryd.prog w = .ok true w := by
  rw [show (10000 : Nat) = 9999 + 1 from rfl, run_equalIn_agg _ _ _ _ _ fields48 held48]
  obtain ⟨p0, p1, p2⟩ := part48 (.int .i64 id) (.int .i64 t) (.int .u64 S) w
  have hl := fieldsL48
  generalize (Tryd.prog.fieldsOf 48).toList = L at hl
  obtain ⟨f, g, h, rfl⟩ : ∃ f g h, L = [f, g, h] := by
    rcases L with _ | ⟨f, _ | ⟨g, _ | ⟨h, _ | ⟨k, r⟩⟩⟩⟩
    · simp at hl
    · simp at hl
    · simp at hl
    · exact ⟨f, g, h, rfl⟩
    · simp at hl
  simp only [List.map_cons, List.map_nil, List.cons.injEq, Prod.mk.injEq, and_true] at hl
  obtain ⟨⟨f1, f2, f3⟩, ⟨g1, g2, g3⟩, ⟨h1, h2, h3⟩⟩ := hl
  have e3 : ∀ x : Int, (Op.equalIn 9999 3 (.int .i64 x) (.int .i64 x)).run Tryd.prog w = .ok true w := fun x => by
    rw [show (9999 : Nat) = 9998 + 1 from rfl, run_equalIn_int w 9998 3 _ _ x x Tryd.underlying3]; simp
  have e28 := equal28d 9997 S S w
  simp only [Op.eqFields, f1, f2, f3, g1, g2, g3, h1, h2, h3]
  simp [p0, p1, p2, e3, e28, Result.andThen]
/-- append of a whole slice to a slice of the call's own. -/
theorem run_append_row {P : Program} (w : World) (base : Nat) (t ty e : TypeId) (i : TypeInfo) (z : Value) (size bytes : Nat) (ht : P.underlying t = some (.slice e)) (hi : P.info? e = some i) (hz : i.zero = some z)
    (hsize : i.size = size) (hby : i.bytes = bytes) (hzs : z.cells.size = size) (hsz : 0 < size)
    (v : Value) (n : Nat) (xs : List Value) (hown : w.ownsRow base e size v n xs) {B2 m : Nat} {x : Value} {news : List Value} (hx : w.ownsRow B2 e size x m news) (h1 : ∀ u ∈ news, u.oneCell' = true)
    (h63 : n + m ≤ maxLen) (hbytes : (n + m) * bytes ≤ 140737488355328) (hbase : base ≤ w.heap.size) :
    ∃ v' w', (Builtin.append_ #[t, t] ty #[v, x]).run P w = .ok v' w' ∧ w'.ownsRow base e size v' (n + m) (xs ++ news) ∧ w.grownBy w' v.ownBlock ∧ (v'.ownBlock = v.ownBlock ∨ v'.ownBlock = some w.heap.size) := by
  rcases hx.2 with ⟨rfl, rfl⟩ | ⟨g, cap, cur, rfl, _⟩
  · have hn : news = [] := List.eq_nil_of_length_eq_zero (by simpa using hx.1)
    subst hn
    refine ⟨v, w, ?_, by simpa using hown, ⟨rfl, rfl, rfl, Nat.le_refl _, fun _ _ _ => rfl⟩, .inl rfl⟩
    rcases hown.2 with ⟨rfl, rfl⟩ | ⟨g, cap, cur, rfl, hbg, hg, hnc, hcm, hcs, htake⟩
    · simp [Builtin.append_, run_underlying ht, sizeOf, typeInfo, hi, Builtin.lenOf, Builtin.firstCells]
    · have := run_append_room_src (P := P) w t t ty e i ht hi g 0 n cap (.slice none 0 0) 0 [] (Src.ofNil w ht 0) (by omega) (by simp) (by simp)
      simp only [Nat.add_zero] at this
      rw [this]
      rfl
  · obtain ⟨v', w', hr, h2, h3, _, h5⟩ := run_append_own_at (P := P) w base t ty e i z size bytes ht hi hz hsize hby hzs hsz v n xs hown ⟨g, 0, none⟩ m cap news hx.1 (hx.cells (g := g) rfl) h1 h63 hbytes hbase
    exact ⟨v', w', hr, h2, h3, h5⟩
theorem wpList_append_row {P : Program} {w : World} {ops : Array Oper} {rest : List Oper} {o : Oper} {a : Act} {Q : Exit → Act → World → Prop} (hgd : o.guard = none) (s x : Operand) (t : TypeId)
    (ho : o.op = .call { callee := .builtin .append, args := #[s, x], argTypes := #[t, t] })
    (base : Nat) (e : TypeId) (i : TypeInfo) (z : Value) (size bytes : Nat) (ht : P.underlying t = some (.slice e)) (hi : P.info? e = some i) (hz : i.zero = some z)
    (hsize : i.size = size) (hby : i.bytes = bytes) (hzs : z.cells.size = size) (hsz : 0 < size)
    (v : Value) (n : Nat) (xs : List Value) (hs : a.eval s = v) (hown : w.ownsRow base e size v n xs) {B2 m : Nat} {y : Value} {news : List Value} (hx : a.eval x = y) (hy : w.ownsRow B2 e size y m news) (h1 : ∀ u ∈ news, u.oneCell' = true)
    (h63 : n + m ≤ maxLen) (hbytes : (n + m) * bytes ≤ 140737488355328) (hbase : base ≤ w.heap.size)
    (h : ∀ v' w', w'.ownsRow base e size v' (n + m) (xs ++ news) → w.grownBy w' v.ownBlock → (v'.ownBlock = v.ownBlock ∨ v'.ownBlock = some w.heap.size) → wpList P ops Q rest (a.put o.dst v') w') :
    wpList P ops Q (o :: rest) a w := by
  refine wpList_plain hgd fun K hK => ?_
  obtain ⟨v', w', hr, h2, h3, h5⟩ := run_append_row (P := P) w base t o.type e i z size bytes ht hi hz hsize hby hzs hsz v n xs hown hy h1 h63 hbytes hbase
  unfold Oper.wp execOp
  simp only [ho, resolve, invoke, builtin, Sem.run_bind, Sem.run_pure, Result.andThen_ok, List.map_toArray, List.map_cons, List.map_nil, hs, hx, hr]
  exact hK _ _ (h v' w' h2 h3 h5)
end Go.Proofs.YtnnkibdjbodncaaDoor
