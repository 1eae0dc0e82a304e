/- The law TapeRow, walked. No condition. -/
import Derived.Test.YtaniflbhkddlhaaTj
namespace Go.Proofs.Ytaniflbhkddlhaa
open Go.RowKit
theorem But.grown {g : Nat} {w w' : World} (h : But g w w') : w.grownBy w' (some g) := ⟨h.os, h.tape, h.output, h.size, fun k h1 h2 => h.block k h1 fun e => h2 (by rw [e])⟩
theorem own_not_tape {w : World} {base g : Nat} {v : Value} {l : List Int} {off : Bool} {fuse kept : Int} {u : Value} (h : OwnB w base v l) (ht : TapeBlk w g off fuse u kept) : v.ownBlock ≠ some g := by
  obtain ⟨⟨_, ⟨rfl, _⟩ | ⟨b, cap, cur, rfl, _, hg, _⟩⟩, _⟩ := h
  · simp [Value.ownBlock]
  · intro e
    simp only [Value.ownBlock, Option.some.injEq] at e
    subst e
    unfold TapeBlk at ht
    rw [ht] at hg
    simp at hg
theorem own_but {w w' : World} {base g : Nat} {v : Value} {l : List Int} {off : Bool} {fuse kept : Int} {u : Value} (h : OwnB w base v l) (ht : TapeBlk w g off fuse u kept) (hb : But g w w') : OwnB w' base v l :=
  ⟨h.1.kept hb.grown (.inr (own_not_tape h ht)), h.2⟩
theorem Bs.grown' {w w' : World} {row : Option Nat} {ao : Option Addr} {cap : Nat} {l : List Int} (h : Bs w ao cap l) (hg : w.grownBy w' row) (hr : ∀ a, ao = some a → l ≠ [] → some a.block ≠ row) : Bs w' ao cap l := by
  refine ⟨fun i hi => ?_, h.cap_le, h.max, h.nil, h.byte⟩
  obtain ⟨b, o, e, hc⟩ := h.cells i hi
  refine ⟨b, o, e, ?_⟩
  rw [World.cell?_of_block (w := w) (hg.block b (block_lt_of_cell hc) (hr _ e (by intro e; subst e; simp at hi)))]
  exact hc
/-- The tape, behind an append onto bytes that lie elsewhere. -/
theorem tapeZ_app {w w' : World} {g base : Nat} {v v' : Value} {l : List Int} {b : List Int} {k : Nat} {off : Bool} {fuse : Int} (hv : OwnB w base v l) (h : TapeZ w g off fuse b k fun q => v.ownBlock = some q) (hg : w.grownBy w' v.ownBlock)
    (hv' : v'.ownBlock = v.ownBlock ∨ v'.ownBlock = some w.heap.size) : TapeZ w' g off fuse b k fun q => v'.ownBlock = some q := by
  obtain ⟨⟨ao, cap, h1, h2, hz⟩, h3, h4, h5, h6⟩ := h
  refine ⟨⟨ao, cap, ?_, h2.grown' hg fun a ha hl e => hz a ha hl e.symm, fun a ha hl e => ?_⟩, h3, h4, h5, h6⟩
  · unfold TapeBlk
    rw [hg.block g h1.lt fun e => own_not_tape hv h1 e.symm]
    exact h1
  · rcases hv' with h | h
    · rw [h] at e; exact hz a ha hl e
    · rw [h] at e
      injection e with e
      obtain ⟨b', o', e', hc⟩ := h2.cells 0 (List.length_pos_iff.2 hl)
      rw [e'] at ha
      injection ha with ha
      subst ha
      have := block_lt_of_cell hc
      simp only at this e
      omega
theorem tapeZ_blk {w : World} {g : Nat} {off : Bool} {fuse : Int} {b : List Int} {k : Nat} {Z : Nat → Prop} (h : TapeZ w g off fuse b k Z) : ∃ v, TapeBlk w g off fuse v k := by
  obtain ⟨⟨ao, cap, h1, _⟩, _⟩ := h
  exact ⟨_, h1⟩
theorem own_lt {w : World} {base : Nat} {v : Value} {l : List Int} (h : OwnB w base v l) : ∀ q, v.ownBlock = some q → q < w.heap.size := fun q hq => (h.1.lt q hq).2
theorem flat_len (l : List (List Int)) (k : Nat) (h : ∀ j, j < k → (l.getD j []).length ≤ 2000) (hk : k ≤ l.length) : (l.take k).flatten.length ≤ 2000 * k := by
  induction k with
  | zero => simp
  | succ k ih =>
    rw [flat_take l k (by omega), List.length_append]
    have h1 := ih (fun j hj => h j (by omega)) (by omega)
    have h2 := h k (by omega)
    omega
theorem lay_len (l : List (List Int)) (k : Nat) (h : ∀ j, j < k → (l.getD j []).length ≤ 2000) (hk : k ≤ l.length) : (layL (l.take k)).length ≤ 2012 * k := by
  induction k with
  | zero => simp [layL_nil]
  | succ k ih =>
    rw [layL_take l k (by omega), List.length_append, encL_len]
    have h1 := ih (fun j hj => h j (by omega)) (by omega)
    have h2 := h k (by omega)
    omega
theorem row_log (b x : List Int) (h : b.length + (encL x).length ≤ 1048576) : logR (-1) b b.length (logB [x]) = (0, false, -1, b ++ encL x, (b ++ encL x).length) := by
  have e : logB [x] = encL x := by simp [logB, logStep]
  have hc : logC (-1) b (encL x) = (0, false, -1) := by unfold logC fitsR burnR; simp; omega
  rw [e]
  unfold logR
  rw [hc]
  simp [fitsR, burnR]
theorem few_of {l : List (List Int)} (h : ∀ j, j < l.length → (l.getD j []).length ≤ 2000) : Few l := fun x hx => by
  obtain ⟨j, hj, rfl⟩ := List.mem_iff_getElem.1 hx
  have := h j hj
  simp [List.getD, hj] at this
  omega
set_option maxHeartbeats 1000000 in
set_option maxRecDepth 100000 in
theorem row_many (ao bo : Option Addr) (ca cb n m : Nat) (w : World) (h : (100 : Int) < n ∨ (100 : Int) < m) :
    Calls Try.prog 14 #[.slice ao n ca, .slice bo m cb] w (TruePost w) := by
  by_cases h1 : (100 : Int) < n
  · clear h
    go_enter Try.func14, Try.ntmps14
    go_wp2_with (first | (go_at_call 27; refine (tnew_any w).mono ?_; rintro e w1 ⟨g, rfl, hT1, hb1, hg⟩; have B1 := Lib.hid hb1; clear hT1 hb1 hg) | (go_at_call 28; refine (talive_any _).mono ?_; rintro e w6 ⟨rfl, hb6⟩))
    go_ret
    exact ⟨rfl, st_below B1.out hb6⟩
  · have h2 : (100 : Int) < m := h.resolve_left h1
    clear h
    go_enter Try.func14, Try.ntmps14
    go_wp2_with (first | (go_at_call 27; refine (tnew_any w).mono ?_; rintro e w1 ⟨g, rfl, hT1, hb1, hg⟩; have B1 := Lib.hid hb1; clear hT1 hb1 hg) | (go_at_call 28; refine (talive_any _).mono ?_; rintro e w6 ⟨rfl, hb6⟩))
    go_ret
    exact ⟨rfl, st_below B1.out hb6⟩
set_option maxHeartbeats 4000000 in
set_option maxRecDepth 100000 in
theorem row_few (ao bo : Option Addr) (ca cb n m : Nat) (l r : List (List Int)) (w : World) (hl : Rs w ao ca l) (hr : Rs w bo cb r) (hn : l.length = n) (hm : r.length = m) (h1 : ¬ (100 : Int) < n) (h2 : ¬ (100 : Int) < m) :
    Calls Try.prog 14 #[.slice ao n ca, .slice bo m cb] w (TruePost w) := by
  have L := Lib.hid hl
  have R := Lib.hid hr
  have HN := Lib.hid hn
  have HM := Lib.hid hm
  clear hl hr hn hm
  go_enter Try.func14, Try.ntmps14
  go_wp2_with (go_at_call 27; refine (tnew_any w).mono ?_; rintro e w1 ⟨g, rfl, hT1, hb1, hg⟩; have T1 := Lib.hid hT1; have B1 := Lib.hid hb1; have G := Lib.hid hg; clear hT1 hb1 hg)
  go_loopw [6, 35] (fun v i wr => ∃ k : Nat, k ≤ n ∧ i = .int .i64 k ∧ OwnB wr w.heap.size v (l.take k).flatten ∧ TapeZ wr g false (-1) (l.take k).flatten 0 (fun q => v.ownBlock = some q) ∧ Below w.heap.size w wr ∧ ∀ j, j < k → (l.getD j []).length ≤ 2000) (fun _ i _ => n - (intOf i).toNat)
  case atStart =>
    obtain ⟨⟨ao1, cap1, q1, q2⟩, q3, q4, q5, q6⟩ := T1.out
    exact ⟨0, by omega, rfl, OwnB.nil _ _, ⟨⟨ao1, cap1, q1, q2, fun a ha hne => absurd rfl hne⟩, q3, q4, q5, q6⟩, B1.out, fun j hj => by omega⟩
  case round =>
    obtain ⟨k, hk, rfl, hv, ht, hbel, hall⟩ := hrel
    have hk1 : (0 : Int) ≤ (k : Int) := by omega
    have HB := Lib.hid hbel
    by_cases hlt : k < n
    · obtain ⟨b1, o1, ao1, ca1, rfl, hc0, hB1⟩ := L.out.cells k (by rw [HN.out]; omega)
      have hc1 := (hbel.cell (block_lt_of_cell hc0)).trans hc0
      clear hc0
      have hk0 : (k : Int) < (n : Int) := by omega
      by_cases hbig : (2000 : Int) < (l.getD k []).length
      · clear hB1 hv ht hbel hall
        generalize (l.getD k []).length = xn at *
        go_wp2_with fail
        go_ret
        exact ⟨rfl, HB.out⟩
      · have HF := Lib.hid (flat_take l k (by rw [HN.out]; omega))
        have hfl := flat_len l k hall (by rw [HN.out]; omega)
        obtain ⟨qo, qc, rfl, hQ⟩ := hv.shape
        have HALL := Lib.hid hall
        have HV := Lib.hid hv
        have HT := Lib.hid ht
        have HX := Lib.hid hB1
        have hxb : (l.getD k []).length ≤ 2000 := by omega
        clear hB1 hv ht hbel hall hQ
        obtain ⟨f, hf⟩ : ∃ f, (l.take k).flatten = f := ⟨_, rfl⟩
        obtain ⟨x, hx⟩ : ∃ x, l.getD k [] = x := ⟨_, rfl⟩
        have HFE := Lib.hid hf
        have HXE := Lib.hid hx
        rw [hf] at HF HV HT hfl ⊢
        rw [hx] at HF HX hc1 hbig hxb
        clear hf hx
        obtain ⟨xn, hxn⟩ : ∃ xn, x.length = xn := ⟨_, rfl⟩
        have HXN := Lib.hid hxn
        rw [hxn] at hc1 hbig hxb
        clear hxn
        have hsz := HB.out.size
        have hk100 : k ≤ 100 := by omega
        obtain ⟨fn, hfn⟩ : ∃ fn, f.length = fn := ⟨_, rfl⟩
        have HFN := Lib.hid hfn
        rw [hfn] at HV HT hfl ⊢
        clear hfn
        go_wp2_with (at_builtin; refine wpList_app _ rfl (.tmp 42) (.tmp 43) rfl w.heap.size _ f rfl HV.out ao1 xn ca1 x rfl (HX.out.below HB.out) HXN.out (by rw [HFN.out, HXN.out]; omega) hsz ?_; intro v' w3 q1 q2 q3; have H3 := Lib.hid q1; have H3B := Lib.hid (below_grown HB.out q2 hsz HV.out (Nat.le_refl _)); have HT3 := Lib.hid (tapeZ_app HV.out HT.out q2 q3); clear q1 q2 q3)
        have hsh := H3.out.shape
        obtain ⟨ln, hln⟩ : ∃ ln, (f ++ x).length = ln := ⟨_, rfl⟩
        rw [hln] at hsh
        obtain ⟨vo, vc, rfl, -⟩ := hsh
        clear hln
        refine (write_z w3 g f 0 xn _ HT3.out (own_lt H3.out) ao1 ca1 x (HX.out.below H3B.out) HXN.out (by rw [HFN.out]; omega)).mono ?_
        rintro e w4 ⟨rfl, ht4, hbut4⟩
        obtain ⟨u4, hu4⟩ := tapeZ_blk HT3.out
        have H4 := Lib.hid (own_but H3.out hu4 hbut4)
        have T4 := Lib.hid ht4
        have B4 := Lib.hid (st_but H3B.out G.out hbut4)
        clear ht4 hbut4 hu4 H3 H3B HT3
        go_wp2_with fail
        exact ⟨⟨k + 1, by omega, by go_num, by rw [HF.out]; exact H4.out, by rw [HF.out]; exact T4.out, B4.out, fun j hj => by
          by_cases e : j = k
          · rw [e, HXE.out, HXN.out]; exact hxb
          · exact HALL.out j (by omega)⟩, by simp [intOf]; omega⟩
    · obtain rfl : k = n := by omega
      have hfl := flat_len l k hall (by rw [HN.out]; exact Nat.le_refl _)
      rw [List.take_of_length_le (by rw [HN.out]; exact Nat.le_refl _)] at hv ht hfl
      obtain ⟨vo, vc, rfl, hQ⟩ := hv.shape
      have HQ := Lib.hid hQ
      have HT := Lib.hid ht.at
      clear hQ hv ht hbel hall
      obtain ⟨f, hf⟩ : ∃ f, l.flatten = f := ⟨_, rfl⟩
      rw [hf] at HQ HT hfl ⊢
      clear hf
      obtain ⟨fn, hfn⟩ : ∃ fn, f.length = fn := ⟨_, rfl⟩
      have HFN := Lib.hid hfn
      rw [hfn] at hfl ⊢
      clear hfn
      go_wp2_with fail
      refine (bytes_on wr g (-1) f 0 fn HT.out HFN.out).mono ?_
      rintro e w2 ⟨ao2, cap2, rfl, hB2, hb2⟩
      have T2 := Lib.hid (HT.out.below hb2)
      have B2 := Lib.hid (st_below HB.out hb2)
      have hsm := same_any ao2 vo cap2 vc fn fn f f w2 hB2 (HQ.out.below hb2) HFN.out HFN.out
      rw [decide_eq_true rfl] at hsm
      have HSM := Lib.hid hsm
      have hsy := tsync_any w2 g false (-1) f 0 T2.out
      rw [show fitsR false (-1) 0 0 = (0, false, -1) from rfl, if_pos rfl] at hsy
      have HSY := Lib.hid hsy
      clear hB2 hb2 HT HB HQ hsm hsy
      go_wp2_with (first | (go_at_call 20; refine HSM.out.mono ?_; rintro e w' ⟨rfl, rfl⟩) | (go_at_call 44; refine HSY.out.mono ?_; rintro e w3 ⟨rfl, hT3, hbut3⟩; have T3 := Lib.hid hT3; have B3 := Lib.hid (st_but B2.out G.out hbut3); clear hT3 hbut3))
      have hsw := swap_any w3 g false (-1) f f.length T3.out none 0 0 [] (bs_nil _) rfl
      rw [show fitsR false (-1) 0 (0 : Nat) = (0, false, -1) from rfl, if_pos rfl] at hsw
      refine hsw.mono ?_
      rintro e w4 ⟨rfl, hT4, hbut4⟩
      have T4 := Lib.hid (show TapeAt w4 g false (-1) [] 0 from hT4)
      have B4 := Lib.hid (st_but B3.out G.out hbut4)
      clear hsw hT4 hbut4 T3 B3 T2 B2 HSM HSY
      go_wp2_with fail
      go_loopw [75] (fun i wr => ∃ k : Nat, k ≤ m ∧ i = .int .i64 k ∧ TapeAt wr g false (-1) (layL (r.take k)) (layL (r.take k)).length ∧ Below w.heap.size w wr ∧ ∀ j, j < k → (r.getD j []).length ≤ 2000) (fun i _ => m - (intOf i).toNat)
      case atStart => exact ⟨0, by omega, rfl, T4.out, B4.out, fun j hj => by omega⟩
      case round =>
        obtain ⟨i, hi, rfl, ht, hbel, hall⟩ := hrel
        have hk1' : (0 : Int) ≤ (i : Int) := by omega
        have HB5 := Lib.hid hbel
        clear T4 B4
        by_cases hlt2 : i < m
        · obtain ⟨b1, o1, ao1, ca1, rfl, hc0, hB1⟩ := R.out.cells i (by rw [HM.out]; omega)
          have hc1 := (hbel.cell (block_lt_of_cell hc0)).trans hc0
          have hk0 : (i : Int) < (m : Int) := by omega
          by_cases hbig : (2000 : Int) < (r.getD i []).length
          · clear hB1 ht hbel hall hc0
            generalize (r.getD i []).length = xn at *
            go_wp2_with fail
            go_ret
            exact ⟨rfl, HB5.out⟩
          · have HF := Lib.hid (layL_take r i (by rw [HM.out]; omega))
            have hfl2 := lay_len r i hall (by rw [HM.out]; omega)
            have HALL := Lib.hid hall
            have HT := Lib.hid ht
            have HX := Lib.hid hB1
            have hxb : (r.getD i []).length ≤ 2000 := by omega
            clear hB1 ht hbel hall hc0
            obtain ⟨q, hq⟩ : ∃ q, layL (r.take i) = q := ⟨_, rfl⟩
            obtain ⟨x, hx⟩ : ∃ x, r.getD i [] = x := ⟨_, rfl⟩
            have HXE := Lib.hid hx
            rw [hq] at HF HT hfl2
            rw [hx] at HF HX hc1 hbig hxb
            clear hq hx
            have hrl := row_log q x (by rw [encL_len]; omega)
            obtain ⟨xn, hxn⟩ : ∃ xn, x.length = xn := ⟨_, rfl⟩
            have HXN := Lib.hid hxn
            rw [hxn] at hc1 hbig hxb
            clear hxn
            have hrs := rs_one (HX.out.below HB5.out) HXN.out
            have hlog := log_few _ g (-1) q q.length (HT.out.below (below_alloc wr (.cells #[.slice ao1 xn ca1] 22))) _ _ 1 [x] hrs rfl (fun y hy => by simp at hy; subst hy; rw [HXN.out]; omega)
            rw [hrl] at hlog
            have HLOG := Lib.hid hlog
            clear hrl hrs hlog
            go_wp2_with (go_at_call 30; refine HLOG.out.mono ?_; rintro e w5 ⟨rfl, hT5, hbut5⟩; have T5 := Lib.hid hT5; have B5 := Lib.hid (st_but (st_below HB5.out (below_alloc wr _)) G.out hbut5); clear hT5 hbut5 HLOG)
            exact ⟨⟨i + 1, by omega, by go_num, by rw [HF.out]; exact T5.out, B5.out, fun j hj => by
              by_cases e : j = i
              · rw [e, HXE.out, HXN.out]; exact hxb
              · exact HALL.out j (by omega)⟩, by simp [intOf]; omega⟩
        · obtain rfl : i = m := by omega
          rw [List.take_of_length_le (by rw [HM.out]; exact Nat.le_refl _)] at ht
          have hre := records_on wr g (-1) _ _ ht
          rw [all_lay r (few_of (by rw [HM.out]; exact hall))] at hre
          have HRE := Lib.hid hre
          have HT := Lib.hid ht
          clear hre ht hbel hall
          go_wp2_with fail
          refine HRE.out.mono ?_
          rintro e w5 ⟨v, rfl, hv5, hb5⟩
          obtain ⟨ao5, cap5, rfl, hR5⟩ := hv5.shape
          have hls := lists_any ao5 bo cap5 cb _ _ r r w5 hR5 (R.out.below (st_below HB5.out hb5)) rfl HM.out
          rw [decide_eq_true rfl] at hls
          have HLS := Lib.hid hls
          have T5 := Lib.hid (HT.out.below hb5)
          have B5 := Lib.hid (st_below HB5.out hb5)
          clear hls hR5 hv5 hb5 HRE HT HB5
          generalize r.length = rn at *
          go_wp2_with fail
          refine HLS.out.mono ?_
          rintro e w6 ⟨rfl, hb6⟩
          have T6 := Lib.hid (T5.out.below hb6)
          have B6 := Lib.hid (st_below B5.out hb6)
          clear hb6 T5 B5 HLS
          go_wp2_with fail
          refine (start_on w6 g (-1) _ _ 0 T6.out).mono ?_
          rintro e w7 ⟨rfl, hT7, hbut7⟩
          have T7 := Lib.hid hT7
          have B7 := Lib.hid (st_but B6.out G.out hbut7)
          clear hT7 hbut7 T6 B6
          go_wp2_with (first | (go_at_call 31; refine (ton_any _ _ _ _ _ _ T7.out).mono ?_; rintro e w' ⟨rfl, rfl⟩; simp only [Bool.not_false]) | (go_at_call 28; refine (talive_any _).mono ?_; rintro e w8 ⟨rfl, hb8⟩))
          go_ret
          exact ⟨rfl, st_below B7.out hb8⟩
theorem tapeRow_any (ao bo : Option Addr) (ca cb n m : Nat) (l r : List (List Int)) (w : World) (hl : Rs w ao ca l) (hr : Rs w bo cb r) (hn : l.length = n) (hm : r.length = m) :
    Calls Try.prog 14 #[.slice ao n ca, .slice bo m cb] w (TruePost w) := by
  by_cases h : (100 : Int) < n ∨ (100 : Int) < m
  · exact row_many ao bo ca cb n m w h
  · exact row_few ao bo ca cb n m l r w hl hr hn hm (fun e => h (.inl e)) (fun e => h (.inr e))
end Go.Proofs.Ytaniflbhkddlhaa
