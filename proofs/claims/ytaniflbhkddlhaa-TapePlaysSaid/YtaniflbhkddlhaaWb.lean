/- Appends of bytes onto bytes of the call's own; contracts of a number's bytes. No condition but the sizes. -/
import Derived.Test.YtaniflbhkddlhaaWs
import Derived.Laws.AppendOwnNone
import Derived.Maps.AppendAt
namespace Go.Proofs.Ytaniflbhkddlhaa
open Go.RowKit
/-- Bytes in memory of the call's own. -/
def OwnB (w : World) (base : Nat) (v : Value) (l : List Int) : Prop := w.ownsRow base 5 1 v l.length (l.map (Value.int .u8)) ∧ Byte l
theorem OwnB.shape {w : World} {base : Nat} {v : Value} {l : List Int} (h : OwnB w base v l) : ∃ ao cap, v = .slice ao l.length cap ∧ Bs w ao cap l := by
  obtain ⟨⟨hlen, ⟨rfl, h0⟩ | ⟨g, cap, cur, rfl, hb, hg, hn, hm, hs, ht⟩⟩, hby⟩ := h
  · obtain rfl : l = [] := List.eq_nil_of_length_eq_zero h0
    exact ⟨none, 0, rfl, fun i hi => by simp at hi, Nat.le_refl _, Nat.zero_le _, fun _ => rfl, hby⟩
  · refine ⟨_, cap, rfl, fun i hi => ⟨g, 0, rfl, ?_⟩, hn, hm, (fun h => by cases h), hby⟩
    have hown : w.ownsRow base 5 1 (.slice (some ⟨g, 0, none⟩) l.length cap) l.length (l.map (Value.int .u8)) := ⟨hlen, .inr ⟨g, cap, cur, rfl, hb, hg, hn, hm, hs, ht⟩⟩
    rw [Nat.zero_add, hown.cellAt i (by omega)]
    simp [List.getD, hi]
def MadeB (w : World) (l : List Int) (e : Ending) (w' : World) : Prop := ∃ v, e = .returned v ∧ OwnB w' w.heap.size v l ∧ Below w.heap.size w w'
/-- 'append' of whatever bytes onto bytes of the call's own. -/
theorem wpList_app (w : World) {ops : Array Oper} {rest : List Oper} {o : Oper} {a : Act} {Q : Exit → Act → World → Prop} (hg : o.guard = none) (s x : Operand)
    (hop : o.op = .call { callee := .builtin .append, args := #[s, x], argTypes := #[22, 22] }) (base : Nat) (v : Value) (l : List Int) (hs : a.eval s = v) (hown : OwnB w base v l)
    (ao : Option Addr) (n cap : Nat) (m : List Int) (hx : a.eval x = .slice ao n cap) (hm : Bs w ao cap m) (hn : m.length = n) (hb : l.length + m.length ≤ 140737488355328) (hbase : base ≤ w.heap.size)
    (hK : ∀ v' w', OwnB w' base v' (l ++ m) → w.grownBy w' v.ownBlock → (v'.ownBlock = v.ownBlock ∨ v'.ownBlock = some w.heap.size) → wpList Try.prog ops Q rest (a.put o.dst v') w') :
    wpList Try.prog ops Q (o :: rest) a w := by
  obtain ⟨i0, hi, hz0, hz1, hz2⟩ := info_parts info5
  subst hn
  have hby := hown.2.append hm.byte
  cases ao with
  | none =>
    have h0 := hm.nil rfl
    obtain rfl : m = [] := List.eq_nil_of_length_eq_zero (by have := hm.cap_le; omega)
    subst h0
    refine wpList_append_own_none hg s x 22 hop base 5 i0 1 Try.underlying22 hi v l.length _ hs hown.1 hx ?_
    exact hK v w (by simpa using hown) ⟨rfl, rfl, rfl, Nat.le_refl _, fun _ _ _ => rfl⟩ (.inl rfl)
  | some ad =>
    refine wpList_append_own_at w hg s x 22 hop base 5 i0 (.int .u8 0) 1 1 Try.underlying22 hi hz0 hz1 hz2 rfl (by decide) v l.length _ hs hown.1 ad m.length cap (m.map (Value.int .u8)) hx (by simp) ?_ ?_
      (by unfold maxLen; omega) (by omega) hbase ?_
    · intro j u hu
      have hj : j < m.length := by have := (List.getElem?_eq_some_iff.1 hu).1; simpa using this
      obtain ⟨b, o', he, hc⟩ := hm.cells j hj
      injection he with he
      subst he
      rw [Addr.add_lit, hc]
      rw [← hu]
      simp [List.getD, hj]
    · intro u hu
      obtain ⟨_, _, rfl⟩ := List.mem_map.1 hu
      rfl
    · intro v' w' h1 h2 _ h4
      exact hK v' w' ⟨by simpa using h1, hby⟩ h2 h4
/-- A slice of one byte, just laid. -/
theorem bs_one (w : World) (c : Int) (h0 : 0 ≤ c) (h1 : c ≤ 255) : Bs (w.alloc (.cells #[.int .u8 c] 5)) (some ⟨w.heap.size, 0, none⟩) 1 [c] := by
  refine ⟨fun i hi => ?_, Nat.le_refl _, by unfold maxLen; omega, (fun h => by cases h), fun x hx => by simp at hx; subst hx; exact ⟨h0, h1⟩⟩
  obtain rfl : i = 0 := by simp at hi; omega
  exact ⟨_, _, rfl, by simp⟩
theorem OwnB.nil (w : World) (base : Nat) : OwnB w base (.slice none 0 0) [] := ⟨⟨rfl, .inl ⟨rfl, rfl⟩⟩, fun _ h => by cases h⟩
theorem grown_of_below {w w' : World} (hb : Below w.heap.size w w') (row : Option Nat) : w.grownBy w' row := ⟨hb.os, hb.tape, hb.output, hb.size, fun k hk _ => hb.block k hk⟩
theorem own_kept {w w' : World} {base : Nat} {v : Value} {l : List Int} (h : OwnB w base v l) (hb : Below w.heap.size w w') : OwnB w' base v l := by
  refine ⟨h.1.kept (grown_of_below hb none) ?_, h.2⟩
  cases hv : v.ownBlock with
  | none => exact .inl rfl
  | some k => exact .inr (by simp)
theorem OwnB.alloc {w : World} {base : Nat} {v : Value} {l : List Int} (h : OwnB w base v l) (o : Obj) : OwnB (w.alloc o) base v l := own_kept h (below_alloc _ _)
theorem OwnB.mono {w : World} {base base' : Nat} {v : Value} {l : List Int} (h : OwnB w base v l) (hb : base' ≤ base) : OwnB w base' v l := by
  obtain ⟨⟨h1, h2⟩, h3⟩ := h
  refine ⟨⟨h1, ?_⟩, h3⟩
  rcases h2 with h2 | ⟨g, cap, cur, hv, hg, r⟩
  · exact .inl h2
  · exact .inr ⟨g, cap, cur, hv, Nat.le_trans hb hg, r⟩
/-- Behind an append nothing below the own memory has turned. -/
theorem below_grown {N : Nat} {w wr w' : World} {v : Value} {l : List Int} (h : Below N w wr) (hg : wr.grownBy w' v.ownBlock) (hN : N ≤ wr.heap.size) {base : Nat} (ho : OwnB wr base v l) (hb : N ≤ base) : Below N w w' :=
  h.grown hg hN fun k hk => Nat.le_trans hb (ho.1.lt k hk).1
/-- A number's bytes, so many, the lowest first. -/
def bytesL (n : Int) (m : Nat) : List Int := (List.range m).map fun i => n / 2 ^ (8 * i) % 256
/-- .. of which the first k are laid -/
def bytesK (n : Int) (m k : Nat) : List Int := (List.range m).map fun i => if i < k then n / 2 ^ (8 * i) % 256 else 0
theorem bytesK_step (n : Int) (m k : Nat) : ((bytesK n m k).map (Value.int .u8)).set k (.int .u8 (n / 2 ^ (8 * k) % 256)) = (bytesK n m (k + 1)).map (Value.int .u8) := by
  apply List.ext_getElem?
  intro j
  by_cases hj : j < m
  · by_cases e : k = j
    · subst e; simp [bytesK, hj]
    · rw [List.getElem?_set_ne e]
      simp only [bytesK, List.getElem?_map, List.getElem?_range hj, Option.map_some]
      by_cases h1 : j < k
      · rw [if_pos h1, if_pos (by omega)]
      · rw [if_neg h1, if_neg (by omega)]
  · rw [List.getElem?_eq_none (by simp [bytesK]; omega), List.getElem?_eq_none (by simp [bytesK]; omega)]
theorem bytesK_all (n : Int) (m : Nat) : bytesK n m m = bytesL n m := by
  unfold bytesK bytesL
  apply List.map_congr_left
  intro i hi
  rw [if_pos (List.mem_range.1 hi)]
theorem bytesK_none (n : Int) (m : Nat) : (bytesK n m 0).map (Value.int .u8) = List.replicate m (.int .u8 0) := by
  apply List.ext_getElem?
  intro j
  by_cases hj : j < m
  · simp [bytesK, hj]
  · rw [List.getElem?_eq_none (by simp [bytesK]; omega), List.getElem?_eq_none (by simp; omega)]
theorem bytesL_len (n : Int) (m : Nat) : (bytesL n m).length = m := by simp [bytesL]
theorem bytesK_len (n : Int) (m k : Nat) : (bytesK n m k).length = m := by simp [bytesK]
theorem bytesL_byte (n : Int) (m : Nat) : Byte (bytesL n m) := by
  intro x hx
  simp only [bytesL, List.mem_map] at hx
  obtain ⟨i, _, rfl⟩ := hx
  omega
theorem wrap_u8 (n : Int) : IntKind.u8.wrap n = n % 256 := by simp [IntKind.wrap, IntKind.bits, IntKind.signed]

set_option maxHeartbeats 400000 in
set_option maxRecDepth 100000 in
theorem bytes_any (n : Int) (m : Nat) (w : World) (_ : 0 ≤ n) (_ : n < 18446744073709551616) (hm : m = 4 ∨ m = 8) :
    Calls Try.prog 47 #[.int .u64 n, .int .i64 m] w (MadeB w (bytesL n m)) := by
  obtain ⟨i0, hi, hz0, hz1, hz2⟩ := info_parts info5
  have hm8 : m ≤ 8 := by omega
  go_enter Try.func47, Try.ntmps47
  go_wp2_with (at_make; refine wpList_make_full _ rfl _ _ 22 rfl w.heap.size 5 i0 (.int .u8 0) 1 Try.underlying22 hi hz0 hz1 _ _ _ _ m rfl rfl rfl rfl ?b1 ?b2 ?b3 ?_)
  case b1 => rw [hz2]; omega
  case b2 => unfold maxLen; omega
  case b3 => exact Nat.le_refl _
  intro w1 hown hgrow
  rw [toList_madeCells_one, ← bytesK_none n m] at hown
  have hb1 : Below w.heap.size w w1 := (Below.refl _ _).grown hgrow (Nat.le_refl _) (fun k hk => by simp at hk)
  have HO := Lib.hid hown
  clear hown hgrow hm hi hz0 hz1 hz2
  go_wp2_with fail
  go_loopw [11] (fun i wr => ∃ k : Nat, k ≤ m ∧ i = .int .i64 k ∧ wr.ownsRow w.heap.size 5 1 (.slice (some ⟨w.heap.size, 0, none⟩) m m) m ((bytesK n m k).map (Value.int .u8)) ∧ Below w.heap.size w wr) (fun i _ => m - (intOf i).toNat)
  case atStart => exact ⟨0, by omega, rfl, HO.out, hb1⟩
  case round =>
    clear HO hb1
    obtain ⟨k, hk, rfl, hown, hb⟩ := hrel
    by_cases hlt : k < m
    · have hc := hown.cellAt k (by omega)
      have hf := hown.frozenAt k
      have hst := (hown.stored k (.int .u8 (n / 2 ^ (8 * k) % 256))).1
      rw [bytesK_step] at hst
      have HST := Lib.hid hst
      clear hst hown
      have hcv : ∃ v, ((bytesK n m k).map (Value.int .u8))[k]? = some v := by
        rw [List.getElem?_eq_getElem (by simp [bytesK]; omega)]; exact ⟨_, rfl⟩
      obtain ⟨u, hu⟩ := hcv
      rw [hu] at hc
      clear hu
      have hk0 : (0 : Int) ≤ (k : Int) := by omega
      have hk1 : (k : Int) < (m : Int) := by omega
      have hk7 : (k : Int) ≤ 7 := by omega
      go_wp2_with fail
      exact ⟨⟨k + 1, by omega, by go_num, HST.out, hb.setCell (Nat.le_refl _) _⟩, by simp [intOf]; omega⟩
    · obtain rfl : k = m := by omega
      go_wp2_with fail
      go_ret
      exact ⟨_, rfl, ⟨by rw [bytesL_len, ← bytesK_all]; exact hown, bytesL_byte _ _⟩, hb⟩

theorem bytesL_succ (n : Int) (k : Nat) : bytesL n (k + 1) = bytesL n k ++ [n / 2 ^ (8 * k) % 256] := by simp [bytesL, List.range_succ]
theorem div_step (n : Int) (k : Nat) : n / 2 ^ (8 * k) / 256 = n / 2 ^ (8 * (k + 1)) := by
  rw [Int.ediv_ediv_of_nonneg (by exact Int.pow_nonneg (by omega)), Nat.mul_succ, Int.pow_add]
  rfl
theorem div_range (n : Int) (k : Nat) (h0 : 0 ≤ n) (h1 : n < 18446744073709551616) : 0 ≤ n / 2 ^ (8 * k) ∧ n / 2 ^ (8 * k) < 18446744073709551616 :=
  ⟨Int.ediv_nonneg h0 (Int.pow_nonneg (by omega)), Int.lt_of_le_of_lt (Int.ediv_le_self _ h0) h1⟩
set_option maxHeartbeats 400000 in
set_option maxRecDepth 100000 in
theorem number_any (n : Int) (m : Nat) (w : World) (h0 : 0 ≤ n) (h1 : n < 18446744073709551616) (hm : m = 4 ∨ m = 8) :
    Calls Try.prog 48 #[.int .u64 n, .int .i64 m] w (MadeB w (bytesL n m)) := by
  obtain ⟨i0, hi, hz0, hz1, hz2⟩ := info_parts info5
  have hm8 : m ≤ 8 := by omega
  clear hm
  go_enter Try.func48, Try.ntmps48
  go_wp2_with fail
  go_loopw [0, 5, 6] (fun q v i wr => ∃ k : Nat, k ≤ m ∧ i = .int .i64 k ∧ q = .int .u64 (n / 2 ^ (8 * k)) ∧ wr.ownsRow w.heap.size 5 1 v (bytesL n k).length ((bytesL n k).map (Value.int .u8)) ∧ Below w.heap.size w wr) (fun _ _ i _ => m - (intOf i).toNat)
  case atStart => exact ⟨0, by omega, rfl, by simp, ⟨by simp, .inl ⟨rfl, rfl⟩⟩, Below.refl _ _⟩
  case round =>
    obtain ⟨k, hk, rfl, rfl, hown, hb⟩ := hrel
    by_cases hlt : k < m
    · have hsz := hb.size
      have hdr := div_range n k h0 h1
      have HS := Lib.hid (div_step n k)
      have HL := Lib.hid (bytesL_succ n k)
      have hlen := bytesL_len n k
      have hlen' : (bytesL n k).length ≤ 8 := by omega
      generalize n / 2 ^ (8 * k) = q at *
      obtain ⟨hd0, hd1⟩ := hdr
      have e1 : decide ((k : Int) < (m : Int)) = true := by simp; omega
      have hrow : OwnB (wr.alloc (.cells #[.int .u8 (q % 256)] 5)) w.heap.size u5 (bytesL n k) := OwnB.alloc ⟨hown, bytesL_byte _ _⟩ _
      have hone := bs_one wr (q % 256) (by omega) (by omega)
      clear hlen
      have HROW := Lib.hid hrow
      have HONE := Lib.hid hone
      clear hrow hone hown
      go_wp2_with (at_builtin; refine wpList_app _ rfl _ _ rfl w.heap.size _ _ rfl HROW.out _ _ _ _ rfl HONE.out rfl ?c1 ?c2 ?_)
      case c1 => simp; omega
      case c2 => simp; omega
      intro v' w1 hown1 hgrow _
      have hb1 := below_grown (hb.alloc hsz _) hgrow (by simp; omega) HROW.out (Nat.le_refl _)
      have H1 := Lib.hid hown1.1
      clear hown1 hgrow
      go_wp2_with fail
      exact ⟨⟨k + 1, by omega, by go_num, by rw [HS.out], by rw [HL.out]; simpa using H1.out, hb1⟩, by simp [intOf]; omega⟩
    · obtain rfl : k = m := by omega
      go_wp2_with fail
      go_ret
      exact ⟨_, rfl, ⟨hown, bytesL_byte _ _⟩, hb⟩
end Go.Proofs.Ytaniflbhkddlhaa
