/- Contract of an act's records. No condition but the sizes. -/
import Derived.Test.YtaniflbhkddlhaaTm
import Derived.Deep.Slices
namespace Go.Proofs.Ytaniflbhkddlhaa
open Go.RowKit
/-- 'append' of whatever slices of bytes onto one that the call has just laid. -/
theorem wpList_rows (w0 w : World) {ops : Array Oper} {rest : List Oper} {o : Oper} {a : Act} {Q : Exit → Act → World → Prop} (hg : o.guard = none) (s x : Operand)
    (hop : o.op = .call { callee := .builtin .append, args := #[s, x], argTypes := #[37, 37] }) (hb0 : Below w0.heap.size w0 w) (v : Value) (hs : a.eval s = v) (bo : Option Addr) (bn bc : Nat) (B : List Int)
    (hown : w.ownsRow w0.heap.size 22 1 v 1 [.slice bo bn bc]) (hB : Bs w0 bo bc B) (hbn : B.length = bn) (mo : Option Addr) (mn mc : Nat) (ms : List (List Int)) (hx : a.eval x = .slice mo mn mc) (hm : Rs w0 mo mc ms) (hmn : ms.length = mn) (hsz : mn ≤ 1000000)
    (hK : ∀ ao cap w', Rs w' ao cap (B :: ms) → Below w0.heap.size w0 w' → wpList Try.prog ops Q rest (a.put o.dst (.slice ao (mn + 1) cap)) w') :
    wpList Try.prog ops Q (o :: rest) a w := by
  obtain ⟨i0, hi, hz0, hz1, hz2⟩ := info_parts info22
  subst hmn hbn
  have fin : ∀ (news : List Value) (v' : Value) (w' : World), news.length = ms.length → (∀ i, i < ms.length → ∃ ao c, news.getD i undef = .slice ao (ms.getD i []).length c ∧ Bs w0 ao c (ms.getD i [])) →
      w'.ownsRow w0.heap.size 22 1 v' (1 + ms.length) ([.slice bo B.length bc] ++ news) → Below w0.heap.size w0 w' → wpList Try.prog ops Q rest (a.put o.dst v') w' := fun news v' w' hnl hnews h1 hbel => by
    obtain ⟨hlen, ⟨_, h0⟩ | ⟨g, cap, cur, rfl, _, _, hn, hmx, _, _⟩⟩ := id h1
    · omega
    rw [Nat.add_comm 1 ms.length] at hn h1 ⊢
    refine hK _ cap w' ⟨fun i hi => ?_, by simpa using hn, hmx, fun h => by cases h⟩ hbel
    cases i with
    | zero =>
      refine ⟨g, 0, bo, bc, rfl, ?_, hB.below hbel⟩
      have := h1.cellAt 0 (by omega)
      simpa using this
    | succ i =>
      have hi' : i < ms.length := by simpa using hi
      obtain ⟨ao', c', e, hB'⟩ := hnews i hi'
      refine ⟨g, 0, ao', c', rfl, ?_, hB'.below hbel⟩
      rw [Nat.zero_add, h1.cellAt (i + 1) (by omega)]
      have : ([Value.slice bo B.length bc] ++ news)[i + 1]? = some (news.getD i undef) := by simp [List.getD, show i < news.length by omega]
      rw [this, e]
      simp [List.getD]
  have grow : ∀ w' : World, w.grownBy w' v.ownBlock → Below w0.heap.size w0 w' := fun w' hg' => hb0.grown hg' hb0.size fun k hk => (hown.lt k hk).1
  cases mo with
  | none =>
    have h0 := hm.nil rfl
    obtain rfl : ms = [] := List.eq_nil_of_length_eq_zero (by have := hm.cap_le; omega)
    subst h0
    refine wpList_append_own_none hg s x 37 hop w0.heap.size 22 i0 1 Try.underlying37 hi v 1 _ hs hown hx ?_
    exact fin [] v w rfl (fun i hi => by simp at hi) (by simpa using hown) hb0
  | some ad =>
    obtain ⟨V, hV⟩ := Deep.choose_lt (α := Value) (n := ms.length) (p := fun i u => w0.cell? (ad.add i) = some u ∧ ∃ ao c, u = .slice ao (ms.getD i []).length c ∧ Bs w0 ao c (ms.getD i [])) (fun i hi => by
      obtain ⟨b', o', ao', c', e, hc, hB'⟩ := hm.cells i hi
      injection e with e
      subst e
      rw [Addr.add_lit]
      exact ⟨_, hc, ao', c', rfl, hB'⟩)
    refine wpList_append_own_at w hg s x 37 hop w0.heap.size 22 i0 (.slice none 0 0) 1 24 Try.underlying37 hi hz0 hz1 hz2 rfl (by decide) v 1 _ hs hown ad ms.length mc ((List.range ms.length).map V) hx (by simp) ?_ ?_
      (by unfold maxLen; omega) (by omega) hb0.size ?_
    · intro j u hu
      have hj : j < ms.length := by have := (List.getElem?_eq_some_iff.1 hu).1; simpa using this
      have hc := (hV j hj).1
      rw [(hb0.cell (block_lt_of_cell hc)).trans hc, ← hu]
      simp [hj]
    · intro u hu
      obtain ⟨j, hj, rfl⟩ := List.mem_map.1 hu
      obtain ⟨_, _, _, e, _⟩ := hV j (List.mem_range.1 hj)
      rw [e]
      rfl
    · intro v' w' h1 h2 _ _
      refine fin _ v' w' (by simp) (fun i hi => ?_) h1 (grow w' h2)
      obtain ⟨_, ao', c', e, hB'⟩ := hV i hi
      exact ⟨ao', c', by rw [← e]; simp [List.getD, hi], hB'⟩
def RowsPost (w : World) (rs : List (List Int)) (n : Nat) (e : Ending) (w' : World) : Prop := ∃ ao cap, e = .returned (.slice ao n cap) ∧ Rs w' ao cap rs ∧ Below w.heap.size w w'
set_option maxHeartbeats 1000000 in
set_option maxRecDepth 100000 in
theorem actAll_any (kind N : Int) (bo mo : Option Addr) (bn bc mn mc : Nat) (B : List Int) (ms : List (List Int)) (w : World) (hB : Bs w bo bc B) (hbn : B.length = bn) (hm : Rs w mo mc ms) (hmn : ms.length = mn) (hsz : mn ≤ 1000000) :
    Calls Try.prog 52 #[.agg #[.int .u8 kind, .slice bo bn bc, .slice mo mn mc, .int .i64 N]] w (RowsPost w (B :: ms) (mn + 1)) := by
  have HB := Lib.hid hB
  have HM := Lib.hid hm
  have HBN := Lib.hid hbn
  have HMN := Lib.hid hmn
  have ho := World.ownsRow_lit (base := w.heap.size) (e := 22) (size := 1) (w.alloc (.cells #[.int .u8 kind, .slice bo bn bc, .slice mo mn mc, .int .i64 N] 65)) #[.slice bo bn bc] 1 (by simp) (by unfold maxLen; omega) (by simp)
  rw [World.size_alloc] at ho
  have HO := Lib.hid ho
  clear ho
  clear hB hm hbn hmn
  go_enter Try.func52, Try.ntmps52
  go_wp2_with (at_builtin; refine wpList_rows w _ rfl (.tmp 5) (.tmp 7) rfl (below_two w _ _) _ rfl bo bn bc B HO.out HB.out HBN.out mo mn mc ms rfl HM.out HMN.out hsz ?_; intro ao' cap' w2 h1 h2; have H1 := Lib.hid h1; have H2 := Lib.hid h2; clear h1 h2)
  go_ret
  exact ⟨ao', cap', rfl, H1.out, H2.out⟩
end Go.Proofs.Ytaniflbhkddlhaa
