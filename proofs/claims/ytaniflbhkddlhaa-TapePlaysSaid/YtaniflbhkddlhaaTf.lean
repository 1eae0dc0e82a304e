/- Contract of Log. No condition. -/
import Derived.Test.YtaniflbhkddlhaaTe
import Derived.Test.YtaniflbhkddlhaaTd
namespace Go.Proofs.Ytaniflbhkddlhaa
open Go.RowKit
/-- What Log gathers of its records. -/
def logStep (acc r : List Int) : List Int := if acc.length ≤ 1048576 then acc ++ encL r else acc
def logB (rs : List (List Int)) : List Int := rs.foldl logStep []
theorem logB_take (rs : List (List Int)) (k : Nat) (h : k < rs.length) : logB (rs.take (k + 1)) = logStep (logB (rs.take k)) (rs.getD k []) := by
  have e : rs.getD k [] = rs[k] := by simp [List.getD, h]
  rw [e, List.take_succ_eq_append_getElem h]
  simp only [logB, List.foldl_append, List.foldl_cons, List.foldl_nil]
theorem logB_go : ∀ (rs : List (List Int)) (acc : List Int), Few rs → acc.length ≤ 1114124 → (rs.foldl logStep acc).length ≤ 1114124
  | [], acc, _, h => h
  | r :: rs, acc, hf, h => by
    refine logB_go rs _ (fun x hx => hf x (List.mem_cons_of_mem _ hx)) ?_
    have := hf r (List.mem_cons_self ..)
    unfold logStep
    split
    · rw [List.length_append, encL_len]; omega
    · exact h
theorem logB_len (rs : List (List Int)) (h : Few rs) : (logB rs).length ≤ 1114124 := logB_go rs [] h (by simp)
theorem logB_lay : ∀ (rs : List (List Int)) (acc : List Int), acc.length + (layL rs).length ≤ 1048576 → rs.foldl logStep acc = acc ++ layL rs
  | [], acc, _ => by simp [layL_nil]
  | r :: rs, acc, h => by
    rw [layL_cons, List.length_append] at h
    rw [List.foldl_cons, layL_cons]
    have : logStep acc r = acc ++ encL r := by unfold logStep; rw [if_pos (by omega)]
    rw [this, logB_lay rs _ (by rw [List.length_append]; omega), List.append_assoc]
theorem logB_byte (rs : List (List Int)) : ∀ (acc : List Int), Byte acc → (∀ r ∈ rs, Byte r) → Byte (rs.foldl logStep acc) := by
  induction rs with
  | nil => intro acc h _; exact h
  | cons r rs ih =>
    intro acc h hr
    refine ih _ ?_ (fun x hx => hr x (List.mem_cons_of_mem _ hx))
    unfold logStep
    split
    · exact h.append (encL_byte _ (hr r (List.mem_cons_self ..)))
    · exact h
theorem log_off (w : World) (g : Nat) (fuse : Int) (b : List Int) (k : Nat) (h : TapeAt w g true fuse b k) (v : Value) :
    Calls Try.prog 30 #[.pointer (some ⟨g, 0, none⟩), v] w (CallPost w g 10 true fuse b k) := by
  have H := Lib.hid h
  obtain ⟨⟨ao, cap, h1, h2⟩, h3, h4, h5, h6⟩ := h
  have U := Lib.hid (up_any w g true fuse _ _ h1)
  clear h1 h2
  go_enter Try.func30, Try.ntmps30
  go_wp2_with (go_at_call 49; refine U.out.mono ?_; rintro e w1 ⟨rfl, rfl⟩; simp only [upC, if_true])
  go_ret
  exact ⟨rfl, H.out, But.refl _ _⟩
theorem take_few {rs : List (List Int)} {i j : Nat} (h : Few (rs.take j)) (hi : i ≤ j) : Few (rs.take i) := fun x hx => h x (by
  have : rs.take i = (rs.take j).take i := by rw [List.take_take, Nat.min_eq_left hi]
  rw [this] at hx; exact List.mem_of_mem_take hx)
theorem getD_few {rs : List (List Int)} {i j : Nat} (h : Few (rs.take j)) (hi : i < j) (hl : i < rs.length) : (rs.getD i []).length ≤ 65536 := h _ (by
  have h1 : i < (rs.take j).length := by rw [List.length_take]; omega
  have : rs.getD i [] = (rs.take j)[i] := by simp [List.getD, hl]
  rw [this]; exact List.getElem_mem h1)
set_option maxHeartbeats 1000000 in
set_option maxRecDepth 100000 in
theorem log_core (w : World) (g : Nat) (fuse : Int) (b : List Int) (k : Nat) (h : TapeAt w g false fuse b k) (ro : Option Addr) (rc n : Nat) (rs : List (List Int)) (hr : Rs w ro rc rs) (hn : rs.length = n)
    (j : Nat) (hj : j ≤ n) (hf : Few (rs.take j)) (hbig : j < n → 65536 < (rs.getD j []).length) (Post : Ending → World → Prop) (hno : j < n → ∀ w', Below w.heap.size w w' → Post (.returned (.int .i64 1)) w')
    (hyes : j = n → ∀ wr xo xc, Below w.heap.size w wr → Bs wr xo xc (logB rs) → Calls Try.prog 43 #[.pointer (some ⟨g, 0, none⟩), .slice xo (logB rs).length xc] wr fun e w1 =>
      ∃ c, e = .returned (.int .i64 c) ∧ ((c ≠ 0 ∧ Post (.returned (.int .i64 c)) w1) ∨ (c = 0 ∧ Calls Try.prog 44 #[.pointer (some ⟨g, 0, none⟩)] w1 fun e w2 => ∃ d, e = .returned (.int .i64 d) ∧ Post (.returned (.int .i64 d)) w2))) :
    Calls Try.prog 30 #[.pointer (some ⟨g, 0, none⟩), .slice ro n rc] w Post := by
  obtain ⟨⟨ao, cap, h1, h2⟩, h3, h4, h5, h6⟩ := h
  have U := Lib.hid (up_any w g false fuse _ _ h1)
  have H := Lib.hid hr
  have HN := Lib.hid hn
  have HF := Lib.hid hf
  have hl := hr.len_le
  rw [hn] at hl
  have HBIG := Lib.hid hbig
  have HNO := Lib.hid hno
  have HYES := Lib.hid hyes
  clear h1 h2 hr hn hf hbig hno hyes
  go_enter Try.func30, Try.ntmps30
  go_wp2_with (go_at_call 49; refine U.out.mono ?_; rintro e w1 ⟨rfl, rfl⟩; simp only [upC, Bool.false_eq_true, if_false])
  go_loopw [6, 19] (fun v i wr => ∃ k : Nat, k ≤ j ∧ i = .int .i64 k ∧ OwnB wr w.heap.size v (logB (rs.take k)) ∧ Below w.heap.size w wr) (fun _ i _ => n - (intOf i).toNat)
  case atStart => exact ⟨0, by omega, rfl, OwnB.nil _ _, Below.refl _ _⟩
  case round =>
    obtain ⟨i, hi, rfl, hv, hbel⟩ := hrel
    have hk1 : (0 : Int) ≤ (i : Int) := by omega
    obtain ⟨qo, qc, rfl, hQ⟩ := hv.shape
    have HL := Lib.hid hbel
    by_cases hlt : i < j
    · obtain ⟨b1, o1, ao1, ca1, rfl, hc1, hB1⟩ := (H.out.below hbel).cells i (by rw [HN.out]; omega)
      have hk0 : (i : Int) < (n : Int) := by omega
      have HS := Lib.hid (logB_take rs i (by rw [HN.out]; omega))
      have hfew := getD_few HF.out hlt (by rw [HN.out]; omega)
      have hql := logB_len (rs.take i) (take_few HF.out hi)
      have HP := Lib.hid (put_any none ao1 0 ca1 0 _ [] (rs.getD i []) wr (bs_nil _) hB1 rfl rfl hfew (by omega))
      rw [List.nil_append] at HP
      have hel := encL_len (rs.getD i [])
      have HV := Lib.hid hv
      clear hB1 hv hQ hbel
      obtain ⟨q, hq⟩ : ∃ q, logB (rs.take i) = q := ⟨_, rfl⟩
      obtain ⟨x, hx⟩ : ∃ x, encL (rs.getD i []) = x := ⟨_, rfl⟩
      have HQ := Lib.hid hq
      have HX := Lib.hid hx
      rw [hq] at HV hql ⊢
      rw [hx] at HP hel
      have hlen : x.length ≤ 65548 := by omega
      clear hq hx hel
      obtain ⟨qn, hqn⟩ : ∃ qn, q.length = qn := ⟨_, rfl⟩
      have HQN := Lib.hid hqn
      rw [hqn] at HV hql ⊢
      clear hqn
      generalize (rs.getD i []).length = xn at *
      by_cases hfull : qn ≤ 1048576
      · have hfull' : (qn : Int) ≤ 1048576 := by omega
        go_wp2_with fail
        refine HP.out.mono ?_
        rintro e w2 ⟨v, rfl, hv2, hb2⟩
        obtain ⟨vo, vc, rfl, hV2⟩ := hv2.shape
        have HV2 := Lib.hid hV2
        have HO := Lib.hid (own_kept HV.out hb2)
        have HL2 := Lib.hid (HL.out.trans (hb2.mono HL.out.size))
        have hsz := Nat.le_trans HL.out.size hb2.size
        clear hv2 hb2 HL HP HV hV2
        obtain ⟨xm, hxm⟩ : ∃ xm, x.length = xm := ⟨_, rfl⟩
        have HXM := Lib.hid hxm
        rw [hxm] at hlen ⊢
        clear hxm
        go_wp2_with (at_builtin; refine wpList_app _ rfl (.tmp 33) (.tmp 34) rfl w.heap.size _ q rfl HO.out vo xm vc x rfl HV2.out HXM.out (by rw [HQN.out, HXM.out]; omega) hsz ?_; intro v' w3 h1 h2 _; have H3 := Lib.hid h1; have HB := Lib.hid (below_grown HL2.out h2 hsz HO.out (Nat.le_refl _)); clear h1 h2)
        exact ⟨⟨i + 1, by omega, by go_num, by rw [HS.out, HQ.out, show logStep q (rs.getD i []) = q ++ x by unfold logStep; rw [if_pos (by rw [HQN.out]; exact hfull), HX.out]]; exact H3.out, HB.out⟩, by simp [intOf]; omega⟩
      · have hfull' : ¬ (qn : Int) ≤ 1048576 := by omega
        go_wp2_with fail
        refine HP.out.mono ?_
        rintro e w2 ⟨v, rfl, hv2, hb2⟩
        have HO := Lib.hid (own_kept HV.out hb2)
        have HL2 := Lib.hid (HL.out.trans (hb2.mono HL.out.size))
        clear hv2 hb2 HL HP HV
        go_wp2_with fail
        exact ⟨⟨i + 1, by omega, by go_num, by rw [HS.out, HQ.out, show logStep q (rs.getD i []) = q by unfold logStep; rw [if_neg (by rw [HQN.out]; exact hfull)]]; exact HO.out, HL2.out⟩, by simp [intOf]; omega⟩
    · obtain rfl : i = j := by omega
      by_cases hnj : i < n
      · obtain ⟨b1, o1, ao1, ca1, rfl, hc1, hB1⟩ := (H.out.below hbel).cells i (by rw [HN.out]; omega)
        have hk0 : (i : Int) < (n : Int) := by omega
        have hlen := hB1.len_le
        have HP := Lib.hid (put_many none ao1 0 ca1 0 _ wr (HBIG.out hnj) hlen)
        clear hB1 hv hQ hbel
        generalize (rs.getD i []).length = xn at *
        generalize (logB (rs.take i)).length = qn at *
        go_wp2_with fail
        refine HP.out.mono ?_
        rintro e w2 ⟨rfl, rfl⟩
        go_wp2_with fail
        exact HNO.out hnj _ HL.out
      · obtain rfl : i = n := by omega
        rw [List.take_of_length_le (by rw [HN.out]; exact Nat.le_refl _)] at hQ ⊢
        have HW := Lib.hid (HYES.out rfl wr qo qc hbel hQ)
        clear hv hQ hbel
        generalize (logB rs).length = qn at *
        go_wp2_with fail
        refine HW.out.mono ?_
        rintro e w2 ⟨c, rfl, hc⟩
        rcases hc with ⟨hc, hp⟩ | ⟨rfl, hp⟩
        · have hc' : (c != 0) = true := by simp [hc]
          have HPP := Lib.hid hp
          clear hp hc
          go_wp2_with fail
          exact HPP.out
        · have HPP := Lib.hid hp
          clear hp
          go_wp2_with fail
          refine HPP.out.mono ?_
          rintro e w3 ⟨d, rfl, hd⟩
          have HD := Lib.hid hd
          clear hd
          go_wp2_with fail
          exact HD.out
def logC (fuse : Int) (b x : List Int) : Int × Bool × Int := fitsR false fuse b.length x.length
/-- What Log answers, and what the tape has behind it: so far as its records are short enough. -/
def logR (fuse : Int) (b : List Int) (k : Nat) (x : List Int) : Int × Bool × Int × List Int × Nat :=
  if (logC fuse b x).1 = 0 then
    ((fitsR (logC fuse b x).2.1 (logC fuse b x).2.2 0 0).1, (fitsR (logC fuse b x).2.1 (logC fuse b x).2.2 0 0).2.1, (fitsR (logC fuse b x).2.1 (logC fuse b x).2.2 0 0).2.2, b ++ x,
      if (fitsR (logC fuse b x).2.1 (logC fuse b x).2.2 0 0).1 = 0 then (b ++ x).length else k)
  else ((logC fuse b x).1, (logC fuse b x).2.1, (logC fuse b x).2.2, b, k)
def CallR (w : World) (g : Nat) (r : Int × Bool × Int × List Int × Nat) : Ending → World → Prop := CallPost w g r.1 r.2.1 r.2.2.1 r.2.2.2.1 r.2.2.2.2
theorem log_few (w : World) (g : Nat) (fuse : Int) (b : List Int) (k : Nat) (h : TapeAt w g false fuse b k) (ro : Option Addr) (rc n : Nat) (rs : List (List Int)) (hr : Rs w ro rc rs) (hn : rs.length = n) (hf : Few rs) :
    Calls Try.prog 30 #[.pointer (some ⟨g, 0, none⟩), .slice ro n rc] w (CallR w g (logR fuse b k (logB rs))) := by
  refine log_core w g fuse b k h ro rc n rs hr hn n (Nat.le_refl _) (by rw [List.take_of_length_le (by omega)]; exact hf) (fun h => by omega) _ (fun h => by omega) ?_
  intro _ wr xo xc hb hx
  refine (write_any wr g false fuse b k (h.below hb) xo xc _ (logB rs) hx rfl).mono ?_
  rintro e w1 ⟨rfl, ht, hbut⟩
  refine ⟨_, rfl, ?_⟩
  by_cases hc : (logC fuse b (logB rs)).1 = 0
  · right
    refine ⟨hc, ?_⟩
    rw [show (fitsR false fuse b.length (logB rs).length).1 = 0 from hc, if_pos rfl] at ht
    refine (tsync_any w1 g _ _ _ _ ht).mono ?_
    rintro e w2 ⟨rfl, ht2, hbut2⟩
    refine ⟨_, rfl, ?_⟩
    unfold CallR logR
    rw [if_pos hc]
    exact ⟨rfl, ht2, ((but_of hb).trans hbut).trans hbut2⟩
  · left
    refine ⟨hc, ?_⟩
    rw [if_neg (show ¬ (fitsR false fuse b.length (logB rs).length).1 = 0 from hc)] at ht
    unfold CallR logR
    rw [if_neg hc]
    exact ⟨rfl, ht, (but_of hb).trans hbut⟩
theorem log_many (w : World) (g : Nat) (fuse : Int) (b : List Int) (k : Nat) (h : TapeAt w g false fuse b k) (ro : Option Addr) (rc n : Nat) (rs : List (List Int)) (hr : Rs w ro rc rs) (hn : rs.length = n) (hf : ¬ Few rs) :
    Calls Try.prog 30 #[.pointer (some ⟨g, 0, none⟩), .slice ro n rc] w (CallPost w g 1 false fuse b k) := by
  rcases few_or rs with h0 | ⟨j, h1, h2, h3⟩
  · exact absurd h0 hf
  · exact log_core w g fuse b k h ro rc n rs hr hn j (by omega) h2 (fun _ => h3) _ (fun _ w' hb => ⟨rfl, h.below hb, but_of hb⟩) (fun h => by omega)
def RecPost (w : World) (ls : List (List Int)) (c : Int) (e : Ending) (w' : World) : Prop := ∃ v, e = .returned (.tuple #[v, .int .i64 c]) ∧ OwnR w' w.heap.size v ls ∧ Below w.heap.size w w'
theorem records_on (w : World) (g : Nat) (fuse : Int) (b : List Int) (k : Nat) (h : TapeAt w g false fuse b k) :
    Calls Try.prog 33 #[.pointer (some ⟨g, 0, none⟩)] w (RecPost w (allL b).1 0) := by
  obtain ⟨⟨ao, cap, h1, h2⟩, h3, h4, h5, h6⟩ := h
  have U := Lib.hid (up_any w g false fuse _ _ h1)
  have HA := Lib.hid (all_any ao cap _ b w h2 rfl (by omega))
  obtain ⟨c0, c1, c2, c3, c4⟩ := h1.cells
  obtain ⟨r, hr⟩ : ∃ r, allL b = r := ⟨_, rfl⟩
  rw [hr] at HA ⊢
  generalize b.length = n at *
  clear h1 h2 hr
  go_enter Try.func33, Try.ntmps33
  go_wp2_with (first
    | (go_at_call 49; refine U.out.mono ?_; rintro e w1 ⟨rfl, rfl⟩; simp only [upC, Bool.false_eq_true, if_false])
    | (go_at_call 23; refine HA.out.mono ?_; rintro e w2 ⟨v, rfl, hV, hbw⟩; have H7 := Lib.hid hV; have H8 := Lib.hid hbw; clear hV hbw))
  go_ret2
  exact ⟨v, rfl, H7.out, H8.out⟩
theorem records_off (w : World) (g : Nat) (fuse : Int) (b : List Int) (k : Nat) (h : TapeAt w g true fuse b k) :
    Calls Try.prog 33 #[.pointer (some ⟨g, 0, none⟩)] w (RecPost w [] 10) := by
  obtain ⟨⟨ao, cap, h1, h2⟩, h3, h4, h5, h6⟩ := h
  have U := Lib.hid (up_any w g true fuse _ _ h1)
  clear h1 h2
  go_enter Try.func33, Try.ntmps33
  go_wp2_with (go_at_call 49; refine U.out.mono ?_; rintro e w1 ⟨rfl, rfl⟩; simp only [upC, if_true])
  go_ret2
  exact ⟨_, rfl, OwnR.nil _ _, Below.refl _ _⟩
end Go.Proofs.Ytaniflbhkddlhaa
