/- The contract of Get; no condition. -/
import Derived.Test.YtaniflbhkddlhaaWe
import Derived.Laws.CopyOwn
import Derived.Deep.RegionHeld3
namespace Go.Proofs.Ytaniflbhkddlhaa
open Go.RowKit
theorem cells5 : (Try.prog.info? 5).map (·.size) = some 1 := by kernel_rfl
theorem wpList_copy_b {w : World} {ops : Array Oper} {rest : List Oper} {o : Oper} {a : Act} {Q : Exit → Act → World → Prop} (hg : o.guard = none) (d s : Operand)
    (hop : o.op = .call { callee := .builtin .copy, args := #[d, s], argTypes := #[22, 22] }) (base g n cap : Nat) (l : List Int) (hd : a.eval d = .slice (some ⟨g, 0, none⟩) n cap)
    (hown : OwnB w base (.slice (some ⟨g, 0, none⟩) n cap) l) (hln : l.length = n) (ao : Option Addr) (k c : Nat) (m : List Int) (hs : a.eval s = .slice ao k c) (hm : Bs w ao c m) (hk : m.length = k) (hnk : n ≤ k)
    (N : Nat) (w0 : World) (hb : Below N w0 w) (hN : N ≤ base)
    (hK : ∀ w', OwnB w' base (.slice (some ⟨g, 0, none⟩) n cap) (m.take n) → Below N w0 w' → wpList Try.prog ops Q rest (a.put o.dst (goInt n)) w') :
    wpList Try.prog ops Q (o :: rest) a w := by
  subst hln
  obtain ⟨⟨hlen, ⟨h, _⟩ | ⟨g', cap', cur, h, hbg, hh, hnc, hmx, hsz, ht⟩⟩, hby⟩ := hown
  · simp at h
  simp only [Value.slice.injEq, Option.some.injEq, Addr.mk.injEq, and_true, true_and] at h
  obtain ⟨rfl, rfl⟩ := h
  have hlt : ((m.take l.length).map (Value.int .u8)).length = l.length := by simp; omega
  refine wpList_copy_splice hg d s 22 22 hop 5 Try.underlying22 cells5 _ ao l.length cap k c hd hs g 0 cur.toList 5 (by simpa using hh) ((m.take l.length).map (Value.int .u8)) (by rw [hlt]; exact (Nat.min_eq_right (by omega)).symm)
    ?_ (by rw [hlt]; simp; omega) ?_ N w0 hb (by omega) ?_
  · intro hpos
    refine ⟨rfl, ?_⟩
    rw [hlt] at hpos
    obtain ⟨b, o', rfl, _⟩ := hm.cells 0 (by omega)
    refine ⟨_, rfl, fun j v hv => ?_⟩
    have hj : j < l.length := by have := (List.getElem?_eq_some_iff.1 hv).1; omega
    obtain ⟨b', o'', he, hc⟩ := hm.cells j (by omega)
    injection he with he
    injection he with e1 e2
    subst e1 e2
    rw [Addr.add_lit, hc, ← hv]
    simp [List.getD, hj, show j < m.length by omega]
  · intro v hv
    obtain ⟨_, _, rfl⟩ := List.mem_map.1 hv
    rfl
  · intro w' hw' hb'
    rw [hlt]
    have e : (m.take l.length).length = l.length := by simp; omega
    refine hK w' ⟨?_, Byte.take hm.byte _⟩ hb'
    rw [e]
    refine ⟨by simp; omega, .inr ⟨g, cap, _, rfl, hbg, hw'.out, hnc, hmx, ?_, ?_⟩⟩
    · simp [splice]; omega
    · simp [splice]
      rw [List.take_append_of_le_length (by simp; omega), List.take_of_length_le (by simp; omega)]
def GetPost (w : World) (l : List Int) (n c : Int) (e : Ending) (w' : World) : Prop := ∃ v, e = .returned (.tuple #[v, .int .i64 n, .int .i64 c]) ∧ OwnB w' w.heap.size v l ∧ Below w.heap.size w w'
/-- What Get answers: the frame's bytes, how many bytes it has, the error. -/
def headL (b : List Int) : Nat := (wordL (b.take 4)).toNat
def tailL (b : List Int) : Int := wordL ((b.take (12 + headL b)).drop (4 + headL b))
def bodyL (b : List Int) : List Int := (b.take (4 + headL b)).drop 4
def getL (b : List Int) : List Int × Int × Int :=
  if b.length < 4 then ([], 0, 4) else if 65536 < headL b then ([], 0, 5) else if b.length < headL b + 12 then ([], 0, 4)
  else if tailL b ≠ sumL (bodyL b) then ([], 0, 8) else (bodyL b, headL b + 12, 0)
theorem headL_eq (b : List Int) (hb : Byte b) : (headL b : Int) = wordL (b.take 4) ∧ headL b < 4294967296 := by
  have h := word_small (b.take 4) (hb.take 4) (by simp; omega)
  unfold headL
  omega
def GetP (w : World) (r : List Int × Int × Int) : Ending → World → Prop := GetPost w r.1 r.2.1 r.2.2

set_option maxHeartbeats 400000 in
set_option maxRecDepth 100000 in
theorem get_short (ao : Option Addr) (ca n : Nat) (w : World) (hn : n < 4) : Calls Try.prog 21 #[.slice ao n ca] w (GetPost w [] 0 4) := by
  go_enter Try.func21, Try.ntmps21
  go_wp2
  go_ret3
  exact ⟨_, rfl, OwnB.nil _ _, Below.refl _ _⟩

set_option maxHeartbeats 400000 in
set_option maxRecDepth 100000 in
theorem get_more (ao : Option Addr) (ca n : Nat) (b : List Int) (w : World) (h : Bs w ao ca b) (hn : b.length = n) (h4 : 4 ≤ n) :
    Calls Try.prog 21 #[.slice ao n ca] w (GetP w (getL b)) := by
  have hl := h.len_le
  subst hn
  have hw := word_any (cutA ao ca 0) ca 4 (b.take 4) w (h.cut_h 4 h4) (by simp; omega) (by omega)
  rw [← (headL_eq b h.byte).1] at hw
  have hh := (headL_eq b h.byte).2
  have hs1 : ∀ W, (Instr.sliceAt 22 (.slice ao b.length ca) none (some (.int .i64 4)) none).run Try.prog W = .ok (.slice (cutA ao ca 0) 4 ca) W := fun W => cut_h h 4 (by omega) W
  have H := Lib.hid h
  have HW := Lib.hid hw
  clear h hw
  go_enter Try.func21, Try.ntmps21
  go_wp2_with fail
  refine HW.out.mono ?_
  rintro e w' ⟨rfl, rfl⟩
  clear HW hs1
  by_cases c1 : 65536 < headL b
  · have HR := Lib.hid (show getL b = ([], 0, 5) by unfold getL; rw [if_neg (by omega), if_pos c1])
    generalize headL b = p at *
    go_wp2_with fail
    go_ret3
    rw [HR.out]
    exact ⟨_, rfl, OwnB.nil _ _, Below.refl _ _⟩
  · by_cases c2 : b.length < headL b + 12
    · have HR := Lib.hid (show getL b = ([], 0, 4) by unfold getL; rw [if_neg (by omega), if_neg c1, if_pos c2])
      generalize headL b = p at *
      go_wp2_with fail
      go_ret3
      rw [HR.out]
      exact ⟨_, rfl, OwnB.nil _ _, Below.refl _ _⟩
    · have hs2 : ∀ W, (Instr.sliceAt 22 (.slice ao b.length ca) (some (.int .i64 (4 + (headL b : Int)))) (some (.int .i64 (4 + (headL b : Int) + 8))) none).run Try.prog W = .ok (.slice (cutA ao ca (4 + headL b)) 8 (ca - (4 + headL b))) W := fun W => by
        have h1 := cut_lh H.out (4 + headL b) (12 + headL b) (by omega) (by omega) W
        rw [show 12 + headL b - (4 + headL b) = 8 by omega] at h1
        rw [show (4 : Int) + (headL b : Int) = ((4 + headL b : Nat) : Int) by omega, show ((4 + headL b : Nat) : Int) + 8 = ((12 + headL b : Nat) : Int) by omega]
        exact h1
      have hs3 : ∀ W, (Instr.sliceAt 22 (.slice ao b.length ca) (some (.int .i64 4)) (some (.int .i64 (4 + (headL b : Int)))) none).run Try.prog W = .ok (.slice (cutA ao ca 4) (headL b) (ca - 4)) W := fun W => by
        have h1 := cut_lh H.out 4 (4 + headL b) (by omega) (by omega) W
        rw [show 4 + headL b - 4 = headL b by omega] at h1
        rw [show (4 : Int) + (headL b : Int) = ((4 + headL b : Nat) : Int) by omega]
        exact h1
      have hs4 : ∀ W, (Instr.sliceAt 22 (.slice ao b.length ca) (some (.int .i64 4)) none none).run Try.prog W = .ok (.slice (cutA ao ca 4) (b.length - 4) (ca - 4)) W := fun W => cut_l H.out 4 h4 W
      have HW : Hid (∀ W, Below w.heap.size w W → Calls Try.prog 45 #[.slice (cutA ao ca (4 + headL b)) 8 (ca - (4 + headL b))] W (NumPost W .u64 (tailL b))) := fun W hW =>
        word_any _ _ 8 _ W ((H.out.below hW).cut (4 + headL b) (12 + headL b) (by omega) (by omega)) (by simp; omega) (by omega)
      have HS : Hid (∀ W, Below w.heap.size w W → Calls Try.prog 15 #[.slice (cutA ao ca 4) (headL b) (ca - 4)] W (NumPost W .u64 (sumL (bodyL b)))) := fun W hW =>
        sum_any _ _ (headL b) (bodyL b) W ((H.out.below hW).cut 4 (4 + headL b) (by omega) (by omega)) (by simp [bodyL]; omega)
      have hlen : (bodyL b).length = headL b := by simp [bodyL]; omega
      by_cases c3 : tailL b = sumL (bodyL b)
      · have HR := Lib.hid (show getL b = (bodyL b, (headL b : Int) + 12, 0) by unfold getL; rw [if_neg (by omega), if_neg c1, if_neg c2, if_neg (by simpa using c3)])
        obtain ⟨i0, hi, hz0, hz1, hz2⟩ := info_parts info5
        have HLEN := Lib.hid hlen
        have HBD := Lib.hid (show bodyL b = (b.drop 4).take (headL b) by unfold bodyL; rw [List.drop_take]; congr 1; omega)
        have HBS := Lib.hid (fun W hW => (H.out.below (w' := W) hW).cut_l 4 h4)
        have hdl : (b.drop 4).length = b.length - 4 := by simp
        have HDL := Lib.hid hdl
        rw [← c3] at HS
        generalize tailL b = tl at *
        clear c3 hlen hdl
        generalize bodyL b = bd at *
        generalize headL b = p at *
        have hwr : IntKind.i64.wrap (4 + (p : Int) + 8) = 4 + (p : Int) + 8 := IntWalk.i64_in _ (by omega)
        go_wp2_with fail
        go_region_held3 (fun w' => True) (trivial)
          (first | (go_at_call 45; refine (HW.out _ ?_).mono ?_; (exact (Below.refl _ _).drew); rintro e w' ⟨rfl, rfl⟩) | (go_at_call 15; refine (HS.out _ ?_).mono ?_; (exact (Below.refl _ _).drew); rintro e w' ⟨rfl, rfl⟩))
        clear hwr
        go_wp2_with (at_make; refine wpList_make_full _ rfl _ _ 22 rfl w.heap.size 5 i0 (.int .u8 0) 1 Try.underlying22 hi hz0 hz1 _ _ _ _ p rfl rfl rfl rfl ?b1 ?b2 ?b3 ?_)
        case b1 => rw [hz2]; omega
        case b2 => unfold maxLen; omega
        case b3 => simp
        intro w1 hown hgrow
        rw [toList_madeCells_one] at hown
        have HB1 := Lib.hid ((Below.refl w.heap.size w).drew.grown hgrow (by simp) (fun k hk => by simp at hk))
        have HO : Hid (OwnB w1 w.heap.size (.slice (some ⟨w.heap.size, 0, none⟩) p p) (List.replicate p 0)) := ⟨by simpa using hown, fun x hx => by rw [List.eq_of_mem_replicate hx]; omega⟩
        clear hown hgrow
        go_wp2_with (with_reducible refine wpList_copy_b rfl _ _ rfl w.heap.size w.heap.size p p _ rfl HO.out (by simp) _ _ _ _ rfl (HBS.out _ HB1.out) HDL.out (by omega) w.heap.size w HB1.out (Nat.le_refl _) ?_)
        intro w2 ho2 hb2
        rw [← HBD.out] at ho2
        have HO2 := Lib.hid ho2
        have HB2 := Lib.hid hb2
        clear ho2 hb2
        go_wp2_with fail
        go_ret3
        rw [HR.out]
        exact ⟨.slice (some ⟨w.heap.size, 0, none⟩) p p, by show Ending.returned (.tuple #[.slice (some ⟨w.heap.size, 0, none⟩) p p, .int .i64 (4 + (p : Int) + 8), .int .i64 0]) = _; rw [show 4 + (p : Int) + 8 = (p : Int) + 12 by omega], HO2.out, HB2.out⟩
      · have HR := Lib.hid (show getL b = ([], 0, 8) by unfold getL; rw [if_neg (by omega), if_neg c1, if_neg c2, if_pos c3])
        have e1 : (tailL b == sumL (bodyL b)) = false := by simpa using c3
        have e2 : (tailL b != sumL (bodyL b)) = true := by simpa using c3
        clear c3 hlen
        generalize tailL b = tl at *
        generalize sumL (bodyL b) = sb at *
        generalize headL b = p at *
        have hwr : IntKind.i64.wrap (4 + (p : Int) + 8) = 4 + (p : Int) + 8 := IntWalk.i64_in _ (by omega)
        go_wp2_with fail
        go_region_held3 (fun w' => True) (trivial)
          (first | (go_at_call 45; refine (HW.out _ ?_).mono ?_; (exact (Below.refl _ _).drew); rintro e w' ⟨rfl, rfl⟩) | (go_at_call 15; refine (HS.out _ ?_).mono ?_; (exact (Below.refl _ _).drew); rintro e w' ⟨rfl, rfl⟩))
        go_wp2_with fail
        go_ret3
        rw [HR.out]
        exact ⟨_, rfl, OwnB.nil _ _, (Below.refl _ _).drew⟩
theorem get_any (ao : Option Addr) (ca n : Nat) (b : List Int) (w : World) (h : Bs w ao ca b) (hn : b.length = n) : Calls Try.prog 21 #[.slice ao n ca] w (GetP w (getL b)) := by
  by_cases h4 : n < 4
  · rw [show getL b = ([], 0, 4) by unfold getL; rw [if_pos (by omega)]]
    exact get_short ao ca n w h4
  · exact get_more ao ca n b w h hn (by omega)
end Go.Proofs.Ytaniflbhkddlhaa
