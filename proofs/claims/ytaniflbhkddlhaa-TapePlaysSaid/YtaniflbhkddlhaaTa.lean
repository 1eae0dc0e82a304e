/- A tape in memory: its struct behind a pointer, its bytes; worlds that differ in one block. No condition. -/
import Derived.Test.YtaniflbhkddlhaaWx
import Derived.Deep.RegionLaw
namespace Go.Proofs.Ytaniflbhkddlhaa
open Go.RowKit
/-- w' is w but for the block g, and new blocks. -/
structure But (g : Nat) (w w' : World) : Prop where
  os : w'.os = w.os
  tape : w'.tape = w.tape
  output : w'.output = w.output
  size : w.heap.size ≤ w'.heap.size
  block : ∀ k, k < w.heap.size → k ≠ g → w'.heap[k]? = w.heap[k]?
theorem But.refl (g : Nat) (w : World) : But g w w := ⟨rfl, rfl, rfl, Nat.le_refl _, fun _ _ _ => rfl⟩
theorem But.trans {g : Nat} {a b c : World} (h : But g a b) (k : But g b c) : But g a c :=
  ⟨k.os.trans h.os, k.tape.trans h.tape, k.output.trans h.output, Nat.le_trans h.size k.size, fun i h1 h2 => (k.block i (Nat.lt_of_lt_of_le h1 h.size) h2).trans (h.block i h1 h2)⟩
theorem but_of {g : Nat} {w w' : World} (h : Below w.heap.size w w') : But g w w' := ⟨h.os, h.tape, h.output, h.size, fun k h1 _ => h.block k h1⟩
theorem But.below {g N : Nat} {w0 w w' : World} (h : But g w w') (hb : Below N w0 w) (hg : N ≤ g) (hN : N ≤ w.heap.size) : Below N w0 w' :=
  hb.trans ⟨h.os, h.tape, h.output, h.size, fun k hk => h.block k (by omega) (by omega)⟩
theorem But.cell {g : Nat} {w w' : World} (h : But g w w') {p : Addr} {v : Value} (hc : w.cell? p = some v) (hp : p.block ≠ g) : w'.cell? p = some v := by
  rw [World.cell?_of_block (w := w) (h.block p.block (block_lt_of_cell hc) hp)]; exact hc
theorem But.setCell (g : Nat) (w : World) (o : Nat) (v : Value) : But g w (w.setCell ⟨g, o, none⟩ v) :=
  ⟨rfl, rfl, rfl, by simp [World.setCell], fun k _ h2 => Below.heap_setCell _ _ _ _ h2⟩
theorem But.drew (g : Nat) (w : World) : But g w w.drew := but_of (below_drew w)
/-- The block g holds no bytes. -/
def NoBytes (w : World) (g : Nat) : Prop := ∀ o x, w.cell? ⟨g, o, none⟩ ≠ some (.int .u8 x)
theorem Bs.but {g : Nat} {w w' : World} {ao : Option Addr} {cap : Nat} {l : List Int} (h : Bs w ao cap l) (hg : NoBytes w g) (hb : But g w w') : Bs w' ao cap l := by
  refine ⟨fun i hi => ?_, h.cap_le, h.max, h.nil, h.byte⟩
  obtain ⟨b, o, e, hc⟩ := h.cells i hi
  exact ⟨b, o, e, hb.cell hc fun e => hg _ _ (by rw [← e]; exact hc)⟩
/-- A tape's struct. -/
def TapeBlk (w : World) (g : Nat) (off : Bool) (fuse : Int) (v : Value) (kept : Int) : Prop :=
  w.heap[g]? = some (.cells #[.bool true, .bool off, .int .i64 fuse, v, .int .i64 kept] 81)
theorem TapeBlk.lt {w : World} {g : Nat} {off : Bool} {fuse : Int} {v : Value} {kept : Int} (h : TapeBlk w g off fuse v kept) : g < w.heap.size := by
  unfold TapeBlk at h
  exact (Array.getElem?_eq_some_iff.1 h).1
theorem TapeBlk.cells {w : World} {g : Nat} {off : Bool} {fuse : Int} {v : Value} {kept : Int} (h : TapeBlk w g off fuse v kept) :
    w.cell? ⟨g, 0, none⟩ = some (.bool true) ∧ w.cell? ⟨g, 1, none⟩ = some (.bool off) ∧ w.cell? ⟨g, 2, none⟩ = some (.int .i64 fuse) ∧ w.cell? ⟨g, 3, none⟩ = some v ∧ w.cell? ⟨g, 4, none⟩ = some (.int .i64 kept) := by
  unfold TapeBlk at h
  simp [World.cell?, h]
theorem TapeBlk.frozen {w : World} {g : Nat} {off : Bool} {fuse : Int} {v : Value} {kept : Int} (h : TapeBlk w g off fuse v kept) (o : Nat) : w.frozen? ⟨g, o, none⟩ = false := by
  unfold TapeBlk at h
  simp [World.frozen?, h]
theorem TapeBlk.noBytes {w : World} {g : Nat} {off : Bool} {fuse : Int} {ao : Option Addr} {n cap : Nat} {kept : Int} (h : TapeBlk w g off fuse (.slice ao n cap) kept) : NoBytes w g := by
  intro o x hc
  unfold TapeBlk at h
  simp only [World.cell?, h] at hc
  match o, hc with
  | 0, hc => simp at hc
  | 1, hc => simp at hc
  | 2, hc => simp at hc
  | 3, hc => simp at hc
  | 4, hc => simp at hc
  | n + 5, hc => simp at hc
theorem TapeBlk.below {w w' : World} {g : Nat} {off : Bool} {fuse : Int} {v : Value} {kept : Int} (h : TapeBlk w g off fuse v kept) (hb : Below w.heap.size w w') : TapeBlk w' g off fuse v kept := by
  unfold TapeBlk; rw [hb.block g h.lt]; exact h
theorem TapeBlk.but {w w' : World} {g k : Nat} {off : Bool} {fuse : Int} {v : Value} {kept : Int} (h : TapeBlk w g off fuse v kept) (hb : But k w w') (hk : g ≠ k) : TapeBlk w' g off fuse v kept := by
  unfold TapeBlk; rw [hb.block g h.lt hk]; exact h
theorem heap_set (w : World) (g o : Nat) (v : Value) (c : Array Value) (e : TypeId) (h : w.heap[g]? = some (.cells c e)) : (w.setCell ⟨g, o, none⟩ v).heap[g]? = some (.cells (c.setIfInBounds o v) e) := by
  simp [World.setCell, Array.getElem?_modify, h]
theorem TapeBlk.set1 {w : World} {g : Nat} {off : Bool} {fuse : Int} {v : Value} {kept : Int} (h : TapeBlk w g off fuse v kept) (x : Bool) : TapeBlk (w.setCell ⟨g, 1, none⟩ (.bool x)) g x fuse v kept := by
  unfold TapeBlk; rw [heap_set _ _ _ _ _ _ h]; rfl
theorem TapeBlk.set2 {w : World} {g : Nat} {off : Bool} {fuse : Int} {v : Value} {kept : Int} (h : TapeBlk w g off fuse v kept) (x : Int) : TapeBlk (w.setCell ⟨g, 2, none⟩ (.int .i64 x)) g off x v kept := by
  unfold TapeBlk; rw [heap_set _ _ _ _ _ _ h]; rfl
theorem TapeBlk.set3 {w : World} {g : Nat} {off : Bool} {fuse : Int} {v : Value} {kept : Int} (h : TapeBlk w g off fuse v kept) (x : Value) : TapeBlk (w.setCell ⟨g, 3, none⟩ x) g off fuse x kept := by
  unfold TapeBlk; rw [heap_set _ _ _ _ _ _ h]; rfl
theorem TapeBlk.set4 {w : World} {g : Nat} {off : Bool} {fuse : Int} {v : Value} {kept : Int} (h : TapeBlk w g off fuse v kept) (x : Int) : TapeBlk (w.setCell ⟨g, 4, none⟩ (.int .i64 x)) g off fuse v x := by
  unfold TapeBlk; rw [heap_set _ _ _ _ _ _ h]; rfl
theorem TapeBlk.drew {w : World} {g : Nat} {off : Bool} {fuse : Int} {v : Value} {kept : Int} (h : TapeBlk w g off fuse v kept) : TapeBlk w.drew g off fuse v kept := h
/-- 'append' onto a slice without room, of whatever bytes, as a step of a region that draws. -/
theorem step_app_full {ops : Array Oper} {o : Oper} {a : Act} {w : World} {K : Act → World → Prop} {Q : Exit → Act → World → Prop} {E : Prop}
    (hg : o.guard = none) (s x : Operand) (hop : o.op = Op.call { callee := Callee.builtin Builtin.append, args := #[s, x], argTypes := #[22, 22] })
    (ao : Option Addr) (n : Nat) (l : List Int) (hs : a.eval s = .slice ao n n) (hl : Bs w ao n l) (hn : l.length = n)
    (bo : Option Addr) (m c : Nat) (b : List Int) (hx : a.eval x = .slice bo m c) (hb : Bs w bo c b) (hm : b.length = m) (hsz : n + m ≤ 140737488355328)
    (hK : ∀ ao' cap' w', Bs w' ao' cap' (l ++ b) → Below w.heap.size w w' → K (a.put o.dst (.slice ao' (n + m) cap')) w') :
    if Region.wanted o (yielded ops a.tmps) = true then Oper.wp Try.prog o a w K Q else E := by
  obtain ⟨i0, hi, hz0, hz1, hz2⟩ := info_parts info5
  have hw : Region.wanted o (yielded ops a.tmps) = true := by simp [Region.wanted, hg]
  rw [if_pos hw]
  subst hn hm
  by_cases h0 : b.length = 0
  · obtain rfl : b = [] := List.eq_nil_of_length_eq_zero h0
    have hrun : (Builtin.append_ #[22, 22] o.type #[.slice ao l.length l.length, .slice bo 0 c]).run Try.prog w = .ok (.slice ao l.length l.length) w := by
      have hfc : (Builtin.firstCells 1 0 (.slice bo 0 c)).run Try.prog w = .ok #[] w := by
        cases bo with
        | none => simp [Builtin.firstCells]
        | some ad => simpa using run_firstCells_some (P := Try.prog) w 1 0 ad 0 c [] rfl (fun j u h => by simp at h)
      cases ao with
      | none => simp [Builtin.append_, run_underlying Try.underlying22, sizeOf, typeInfo, hi, hz1, Builtin.lenOf, hfc]
      | some ad => simp [Builtin.append_, run_underlying Try.underlying22, sizeOf, typeInfo, hi, hz1, Builtin.lenOf, hfc, storeCells]
    unfold Oper.wp
    simp only [List.length_nil] at hx
    simp [execOp, hop, resolve, invoke, builtin, hs, hx, hrun, Result.andThen]
    have := hK ao l.length w (by simpa using hl) (Below.refl _ _)
    simp only [List.length_nil, Nat.add_zero] at this
    exact this
  · obtain ⟨b1, o1, rfl, _⟩ := hb.cells 0 (by omega)
    have hnews : ∀ j u, (b.map (Value.int .u8))[j]? = some u → w.cell? ((⟨b1, o1, none⟩ : Addr).add j) = some u := fun j u hu => by
      have hj : j < b.length := by have := (List.getElem?_eq_some_iff.1 hu).1; simpa using this
      obtain ⟨b', o', he, hc⟩ := hb.cells j hj
      injection he with he
      injection he with he1 he2
      subst he1 he2
      rw [Addr.add_lit, hc]
      rw [← hu]
      simp [List.getD, hj]
    have hby : Byte (l ++ b) := Byte.append hl.byte hb.byte
    have hone : ∀ u ∈ b.map (Value.int .u8), u.oneCell' = true := fun u hu => by
      obtain ⟨_, _, rfl⟩ := List.mem_map.1 hu
      rfl
    have fin : ∀ v' w', w'.ownsRow w.heap.size 5 1 v' (l.length + b.length) (l.map (Value.int .u8) ++ b.map (Value.int .u8)) → w.grownBy w' none → K (a.put o.dst v') w' := fun v' w' h1 h2 => by
      have hO : OwnB w' w.heap.size v' (l ++ b) := ⟨by simpa using h1, hby⟩
      obtain ⟨ao', cap', rfl, hB⟩ := hO.shape
      have := hK ao' cap' w' hB ((Below.refl _ _).grown h2 (Nat.le_refl _) (fun k hk => by cases hk))
      simpa using this
    cases ao with
    | some ad =>
      have holds : ∀ j u, (l.map (Value.int .u8))[j]? = some u → w.cell? (ad.add j) = some u := fun j u hu => by
        have hj : j < l.length := by have := (List.getElem?_eq_some_iff.1 hu).1; simpa using this
        obtain ⟨b', o', he, hc⟩ := hl.cells j hj
        injection he with he
        subst he
        rw [Addr.add_lit, hc]
        rw [← hu]
        simp [List.getD, hj]
      obtain ⟨v', w', hrun, r1, r2⟩ := run_append_arg_grows (P := Try.prog) w 22 o.type 5 i0 (.int .u8 0) 1 1 Try.underlying22 hi hz0 hz1 hz2 rfl (by decide) ad l.length l.length (l.map (Value.int .u8)) (by simp) holds ⟨b1, o1, none⟩ b.length c (b.map (Value.int .u8)) (by simp) hnews (by omega) (by unfold maxLen; omega) (by omega)
      unfold Oper.wp
      simp [execOp, hop, resolve, invoke, builtin, hs, hx, hrun, Result.andThen]
      exact fin v' w' r1 r2
    | none =>
      have h00 := hl.nil rfl
      obtain rfl : l = [] := List.eq_nil_of_length_eq_zero h00
      obtain ⟨v', w', hrun, r1, r2, _⟩ := run_append_own (P := Try.prog) w w.heap.size 22 o.type 5 i0 (.int .u8 0) 1 1 Try.underlying22 hi hz0 hz1 hz2 rfl (by decide) (.slice none 0 0) 0 [] (World.ownsRow_nil w _ 5 1) ⟨b1, o1, none⟩ b.length c (b.map (Value.int .u8)) (by simp) hnews hone (by unfold maxLen; simp at hsz; omega) (by simp at hsz; omega) (Nat.le_refl _)
      unfold Oper.wp
      simp only [List.length_nil] at hs
      simp [execOp, hop, resolve, invoke, builtin, hs, hx, hrun, Result.andThen]
      exact fin v' w' (by simpa using r1) r2
end Go.Proofs.Ytaniflbhkddlhaa
