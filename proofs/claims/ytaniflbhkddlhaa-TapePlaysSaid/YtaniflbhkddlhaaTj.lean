/- Write once more: where the bytes lie behind it. No condition. -/
import Derived.Test.YtaniflbhkddlhaaTg
namespace Go.Proofs.Ytaniflbhkddlhaa
open Go.RowKit
/-- 'append' onto a slice without room: the value, and where it lies. -/
theorem run_app_full (w : World) (ty : TypeId) (ao : Option Addr) (n : Nat) (l : List Int) (hl : Bs w ao n l) (hn : l.length = n)
    (bo : Option Addr) (m c : Nat) (b : List Int) (hb : Bs w bo c b) (hm : b.length = m) (hsz : n + m ≤ 140737488355328) :
    ∃ ao' cap' w', (Builtin.append_ #[22, 22] ty #[.slice ao n n, .slice bo m c]).run Try.prog w = .ok (.slice ao' (n + m) cap') w' ∧ Bs w' ao' cap' (l ++ b) ∧ Below w.heap.size w w' ∧ ((ao' = ao ∧ b = []) ∨ ∀ a, ao' = some a → w.heap.size ≤ a.block) := by
  obtain ⟨i0, hi, hz0, hz1, hz2⟩ := info_parts info5
  subst hn hm
  by_cases h0 : b.length = 0
  · obtain rfl : b = [] := List.eq_nil_of_length_eq_zero h0
    have hrun : (Builtin.append_ #[22, 22] ty #[.slice ao l.length l.length, .slice bo 0 c]).run Try.prog w = .ok (.slice ao l.length l.length) w := by
      have hfc : (Builtin.firstCells 1 0 (.slice bo 0 c)).run Try.prog w = .ok #[] w := by
        cases bo with
        | none => simp [Builtin.firstCells]
        | some ad => simpa using run_firstCells_some (P := Try.prog) w 1 0 ad 0 c [] rfl (fun j u h => by simp at h)
      cases ao with
      | none => simp [Builtin.append_, run_underlying Try.underlying22, sizeOf, typeInfo, hi, hz1, Builtin.lenOf, hfc]
      | some ad => simp [Builtin.append_, run_underlying Try.underlying22, sizeOf, typeInfo, hi, hz1, Builtin.lenOf, hfc, storeCells]
    exact ⟨ao, l.length, w, hrun, by simpa using hl, Below.refl _ _, .inl ⟨rfl, rfl⟩⟩
  · obtain ⟨b1, o1, rfl, _⟩ := hb.cells 0 (by omega)
    have hnews : ∀ j u, (b.map (Value.int .u8))[j]? = some u → w.cell? ((⟨b1, o1, none⟩ : Addr).add j) = some u := fun j u hu => by
      have hj : j < b.length := by have := (List.getElem?_eq_some_iff.1 hu).1; simpa using this
      obtain ⟨b', o', he, hc⟩ := hb.cells j hj
      injection he with he
      injection he with he1 he2
      subst he1 he2
      rw [Addr.add_lit, hc]
      rw [← hu]
      simp [List.getD, hj]
    have hby : Byte (l ++ b) := Byte.append hl.byte hb.byte
    have hone : ∀ u ∈ b.map (Value.int .u8), u.oneCell' = true := fun u hu => by
      obtain ⟨_, _, rfl⟩ := List.mem_map.1 hu
      rfl
    have fin : ∀ v' w', w'.ownsRow w.heap.size 5 1 v' (l.length + b.length) (l.map (Value.int .u8) ++ b.map (Value.int .u8)) → w.grownBy w' none →
        ∃ ao' cap', v' = .slice ao' (l.length + b.length) cap' ∧ Bs w' ao' cap' (l ++ b) ∧ Below w.heap.size w w' ∧ ((ao' = ao ∧ b = []) ∨ ∀ a, ao' = some a → w.heap.size ≤ a.block) := fun v' w' h1 h2 => by
      have hO : OwnB w' w.heap.size v' (l ++ b) := ⟨by simpa using h1, hby⟩
      obtain ⟨ao', cap', rfl, hB⟩ := hO.shape
      exact ⟨ao', cap', by simp, hB, (Below.refl _ _).grown h2 (Nat.le_refl _) (fun k hk => by cases hk), .inr fun a ha => (hO.lt a ha).1⟩
    cases ao with
    | some ad =>
      have holds : ∀ j u, (l.map (Value.int .u8))[j]? = some u → w.cell? (ad.add j) = some u := fun j u hu => by
        have hj : j < l.length := by have := (List.getElem?_eq_some_iff.1 hu).1; simpa using this
        obtain ⟨b', o', he, hc⟩ := hl.cells j hj
        injection he with he
        subst he
        rw [Addr.add_lit, hc]
        rw [← hu]
        simp [List.getD, hj]
      obtain ⟨v', w', hrun, r1, r2⟩ := run_append_arg_grows (P := Try.prog) w 22 ty 5 i0 (.int .u8 0) 1 1 Try.underlying22 hi hz0 hz1 hz2 rfl (by decide) ad l.length l.length (l.map (Value.int .u8)) (by simp) holds ⟨b1, o1, none⟩ b.length c (b.map (Value.int .u8)) (by simp) hnews (by omega) (by unfold maxLen; omega) (by omega)
      obtain ⟨ao', cap', rfl, h1, h2, h3⟩ := fin v' w' r1 r2
      exact ⟨ao', cap', w', hrun, h1, h2, h3⟩
    | none =>
      have h00 := hl.nil rfl
      obtain rfl : l = [] := List.eq_nil_of_length_eq_zero h00
      obtain ⟨v', w', hrun, r1, r2, _⟩ := run_append_own (P := Try.prog) w w.heap.size 22 ty 5 i0 (.int .u8 0) 1 1 Try.underlying22 hi hz0 hz1 hz2 rfl (by decide) (.slice none 0 0) 0 [] (World.ownsRow_nil w _ 5 1) ⟨b1, o1, none⟩ b.length c (b.map (Value.int .u8)) (by simp) hnews hone (by unfold maxLen; simp at hsz; omega) (by simp at hsz; omega) (Nat.le_refl _)
      obtain ⟨ao', cap', rfl, h1, h2, h3⟩ := fin v' w' (by simpa using r1) r2
      exact ⟨ao', cap', w', hrun, h1, h2, h3⟩
theorem step_app_z {ops : Array Oper} {o : Oper} {a : Act} {w : World} {K : Act → World → Prop} {Q : Exit → Act → World → Prop} {E : Prop}
    (hg : o.guard = none) (s x : Operand) (hop : o.op = Op.call { callee := Callee.builtin Builtin.append, args := #[s, x], argTypes := #[22, 22] })
    (ao : Option Addr) (n : Nat) (l : List Int) (hs : a.eval s = .slice ao n n) (hl : Bs w ao n l) (hn : l.length = n)
    (bo : Option Addr) (m c : Nat) (b : List Int) (hx : a.eval x = .slice bo m c) (hb : Bs w bo c b) (hm : b.length = m) (hsz : n + m ≤ 140737488355328)
    (hK : ∀ ao' cap' w', Bs w' ao' cap' (l ++ b) → Below w.heap.size w w' → ((ao' = ao ∧ b = []) ∨ ∀ a, ao' = some a → w.heap.size ≤ a.block) → K (a.put o.dst (.slice ao' (n + m) cap')) w') :
    if Region.wanted o (yielded ops a.tmps) = true then Oper.wp Try.prog o a w K Q else E := by
  have hw : Region.wanted o (yielded ops a.tmps) = true := by simp [Region.wanted, hg]
  rw [if_pos hw]
  obtain ⟨ao', cap', w', hrun, h1, h2, h3⟩ := run_app_full w o.type ao n l hl hn bo m c b hb hm hsz
  unfold Oper.wp
  simp [execOp, hop, resolve, invoke, builtin, hs, hx, hrun, Result.andThen]
  exact hK ao' cap' w' h1 h2 h3
/-- A tape whose bytes lie in none of the blocks Z. -/
structure TapeZ (w : World) (g : Nat) (off : Bool) (fuse : Int) (b : List Int) (k : Nat) (Z : Nat → Prop) : Prop where
  ex : ∃ ao cap, TapeBlk w g off fuse (.slice ao b.length cap) k ∧ Bs w ao cap b ∧ ∀ a, ao = some a → b ≠ [] → ¬ Z a.block
  low : -1 ≤ fuse
  high : fuse ≤ 9223372036854775807
  len : b.length ≤ 1048576
  kept : k ≤ b.length
theorem TapeZ.at {w : World} {g : Nat} {off : Bool} {fuse : Int} {b : List Int} {k : Nat} {Z : Nat → Prop} (h : TapeZ w g off fuse b k Z) : TapeAt w g off fuse b k := by
  obtain ⟨⟨ao, cap, h1, h2, _⟩, h3, h4, h5, h6⟩ := h
  exact ⟨⟨ao, cap, h1, h2⟩, h3, h4, h5, h6⟩
def CallZ (w : World) (g : Nat) (c : Int) (off : Bool) (fuse : Int) (b : List Int) (k : Nat) (Z : Nat → Prop) (e : Ending) (w' : World) : Prop :=
  e = .returned (.int .i64 c) ∧ TapeZ w' g off fuse b k Z ∧ But g w w'
theorem fresh_z {g : Nat} {w w1 : World} {ao ao' : Option Addr} {b x : List Int} {Z : Nat → Prop} (h : (ao' = ao ∧ x = []) ∨ ∀ a, ao' = some a → w1.drew.heap.size ≤ a.block)
    (h2 : ∀ a, ao = some a → b ≠ [] → ¬ Z a.block) (hz : ∀ q, Z q → q < w.heap.size) (hb : But g w w1) : ∀ a, ao' = some a → b ++ x ≠ [] → ¬ Z a.block := fun a ha hne hq => by
  rcases h with ⟨rfl, rfl⟩ | h
  · exact h2 a ha (by simpa using hne) hq
  · have h1 := h a ha
    have h3 := hz _ hq
    have h4 := hb.size
    rw [show w1.drew.heap.size = w1.heap.size from rfl] at h1
    omega
set_option maxHeartbeats 4000000 in
set_option maxRecDepth 100000 in
theorem write_z (w : World) (g : Nat) (b : List Int) (k m : Nat) (Z : Nat → Prop) (h : TapeZ w g false (-1) b k Z) (hz : ∀ q, Z q → q < w.heap.size) (xo : Option Addr) (xc : Nat) (x : List Int) (hx : Bs w xo xc x) (hm : x.length = m) (hfit : b.length + m ≤ 1048576) :
    Calls Try.prog 43 #[.pointer (some ⟨g, 0, none⟩), .slice xo m xc] w (CallZ w g 0 false (-1) (b ++ x) k Z) := by
  obtain ⟨⟨ao, cap, h1, h2, h2z⟩, h3, h4, h5, h6⟩ := h
  have hF := fits_any w g false (-1) (.slice ao b.length cap) k b.length m h1 h3 h4 (by omega) (by omega)
  rw [show fitsR false (-1) b.length (m : Int) = (0, false, -1) by unfold fitsR burnR; simp; omega] at hF
  have HF := Lib.hid hF
  have HN := Lib.hid h1.noBytes
  obtain ⟨c0, c1, c2, c3, c4⟩ := h1.cells
  have H2 := Lib.hid h2
  have HX := Lib.hid hx
  have HM := Lib.hid hm
  have HZ := Lib.hid hz
  have H2Z := Lib.hid h2z
  have hbl := h2.cap_le
  have hbm := h2.max
  obtain ⟨n, hn⟩ : ∃ n, b.length = n := ⟨_, rfl⟩
  have HB := Lib.hid hn
  rw [hn] at HF c3 hbl h6 hfit
  clear h1 h2 hx hm hn hF hz h2z
  go_enter Try.func43, Try.ntmps43
  go_wp2_with (go_at_call 50; refine HF.out.mono ?_; rintro e w1 ⟨rfl, h5, h6⟩; have H5 := Lib.hid h5; have H6 := Lib.hid h6; obtain ⟨d0, d1, d2, d3, d4⟩ := h5.cells; have HL1 := Lib.hid h5.lt; clear h5 h6)
  go_region_law (refine step_app_z rfl (.tmp 36) (.tmp 37) rfl ao n b (by simp [Act.eval, Act.put]) ((H2.out.but HN.out H6.out).clip_n HB.out).drew HB.out xo m xc x (by simp [Act.eval, Act.put]) (HX.out.but HN.out H6.out).drew HM.out (by omega) ?_; intro ao' cap' w2 hB hbw hfr; have H7 := Lib.hid hB; have H8 := Lib.hid hbw; have HFR := Lib.hid hfr; have h9 := TapeBlk.below H5.out.drew hbw; have f3 := h9.frozen 3; obtain ⟨e0, e1, e2, e3, e4⟩ := h9.cells; have H9 := Lib.hid h9; clear hB hbw h9 hfr d0 d1 d2 d3 d4 c0 c1 c2 c3 c4)
  all_goals go_wp2_with fail
  all_goals go_ret
  all_goals have hbut : But g w (w2.setCell ⟨g, 3, none⟩ (.slice ao' (n + m) cap')) := (H6.out.trans ((But.drew g w1).trans (but_of H8.out))).trans (But.setCell _ _ _ _)
  all_goals have hfr := fresh_z HFR.out H2Z.out HZ.out H6.out
  all_goals exact ⟨rfl, ⟨⟨ao', cap', (by rw [List.length_append, HB.out, HM.out]; exact H9.out.set3 _), H7.out.but H9.out.noBytes (But.setCell _ _ _ _), hfr⟩, by omega, by omega, (by rw [List.length_append, HB.out, HM.out]; omega), (by rw [List.length_append, HB.out]; omega)⟩, hbut⟩
end Go.Proofs.Ytaniflbhkddlhaa
