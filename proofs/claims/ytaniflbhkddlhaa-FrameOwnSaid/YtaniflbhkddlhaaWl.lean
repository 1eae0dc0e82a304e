/- The walk of FrameOwn; no condition but the sizes. -/
import Derived.Test.YtaniflbhkddlhaaWk
namespace Go.Proofs.Ytaniflbhkddlhaa
open Go.RowKit
theorem xor_byte (c : Int) : 0 ≤ IntKind.u8.wrap c ∧ IntKind.u8.wrap c ≤ 255 := by rw [wrap_u8]; omega
set_option maxHeartbeats 400000 in
set_option maxRecDepth 100000 in
theorem own_many (ao : Option Addr) (ca n : Nat) (l : List Int) (w : World) (h : Bs w ao ca l) (hn : l.length = n) (h1 : 65536 < n) (h2 : n ≤ 140737488351232) :
    Calls Try.prog 5 #[.slice ao n ca] w (TruePost w) := by
  have hcv := conv_bs h
  rw [hn] at hcv
  have H := Lib.hid h
  have HN := Lib.hid hn
  clear h hn
  go_enter Try.func5, Try.ntmps5
  go_wp2_with (at_make; refine wpList_make_room w rfl _ _ rfl _ (n + 40) rfl rfl (by go_num) (by omega) ?_)
  intro w1 hown hb1 hsz1
  have HO := Lib.hid hown
  have HB1 := Lib.hid (H.out.below hb1)
  clear hown hcv
  go_wp2_with (at_builtin; refine wpList_append_room w1 rfl _ _ rfl w.heap.size w.heap.size (n + 40) _ rfl HO.out _ _ _ _ rfl HB1.out HN.out (by omega) w.heap.size w hb1 (Nat.le_refl _) ?_)
  intro w2 hown2 hb2 hsz2
  clear hown2
  go_wp2_with (first | (go_at_call 18; refine (put_many _ _ _ _ _ _ _ h1 (by omega)).mono ?_; rintro e w' ⟨rfl, rfl⟩) | (go_at_call 17; refine (alive_any _).mono ?_; rintro e w1 ⟨rfl, hb3⟩))
  go_ret
  exact ⟨rfl, hb2.trans (hb3.mono hb2.size)⟩
set_option maxHeartbeats 1000000 in
set_option maxRecDepth 100000 in
theorem own_few (ao : Option Addr) (ca n : Nat) (l : List Int) (w : World) (h : Bs w ao ca l) (hn : l.length = n) (h1 : n ≤ 65536) :
    Calls Try.prog 5 #[.slice ao n ca] w (TruePost w) := by
  obtain ⟨S, hS⟩ : ∃ S, strOfNums l = S := ⟨_, rfl⟩
  have CV : Hid (∀ W ao ca, Bs W ao ca l → (convert 22 9 (.slice ao n ca)).run Try.prog W = .ok (.string S) W) := fun W ao ca hW => by
    subst hS hn; exact conv_bs hW
  have hcv := CV.out w _ _ h
  have H := Lib.hid h
  have HN := Lib.hid hn
  clear h hn hS
  go_enter Try.func5, Try.ntmps5
  go_wp2_with (at_make; refine wpList_make_room w rfl _ _ rfl _ (n + 40) rfl rfl (by go_num) (by omega) ?_)
  intro w1 hown hb1 hsz1
  have HO := Lib.hid hown
  have HB1 := Lib.hid (H.out.below hb1)
  clear hown hcv
  go_wp2_with (at_builtin; refine wpList_append_room w1 rfl _ _ rfl w.heap.size w.heap.size (n + 40) _ rfl HO.out _ _ _ _ rfl HB1.out HN.out (by omega) w.heap.size w hb1 (Nat.le_refl _) ?_)
  intro w2 hown2 hb2 hsz2
  replace hown2 : OwnB w2 w.heap.size (.slice (some ⟨w.heap.size, 0, none⟩) (n + 40) (n + 40)) (l ++ List.replicate 40 0) := hown2
  have HF2 := Lib.hid hown2
  have hroomy : Bs w2 (some ⟨w.heap.size, 0, none⟩) (n + 40) l := by
    have := hown2.bs.1.pre n
    rwa [List.take_append_of_le_length (by rw [HN.out]; exact Nat.le_refl _), List.take_of_length_le (by rw [HN.out]; exact Nat.le_refl _)] at this
  have HR2 := Lib.hid hroomy
  have HL2 := Lib.hid (H.out.below hb2)
  have hlen : (l ++ encL l).length = n + (n + 12) := by simp [encL_len, HN.out]
  have HP := Lib.hid (put_s hlen (put_any _ ao (n + 40) ca n n l l w2 HR2.out HL2.out HN.out HN.out h1 (by omega)))
  clear hown2 hroomy HO HB1 hb1 hsz1 hlen
  have hsz20 : w2.heap.size = w.heap.size + 1 := by omega
  generalize hg : w.heap.size = g at *
  go_wp2_with fail
  refine HP.out.mono ?_
  rintro e w3 ⟨xo, xc, rfl, hown3, hB3, hb3⟩
  clear HP hB3
  have HX := Lib.hid hown3
  clear hown3
  go_wp2_with fail
  go_loopw [39] (fun i wr => ∃ k : Nat, k ≤ n + (n + 12) ∧ i = .int .i64 k ∧ (∃ l', OwnB wr w2.heap.size (.slice xo (n + (n + 12)) xc) l') ∧ Below w2.heap.size w2 wr) (fun i _ => n + (n + 12) - (intOf i).toNat)
  case atStart => exact ⟨0, by omega, rfl, ⟨_, HX.out⟩, hb3⟩
  case round =>
    clear HX hb3
    obtain ⟨k, hk, rfl, ⟨l', hown⟩, hb⟩ := hrel
    by_cases hlt : k < n + (n + 12)
    · obtain ⟨g', rfl, hg'⟩ := hown.at hlt
      have hc := hown.cell k hlt
      have hf := hown.frozen k
      have HST := Lib.hid (fun u h0 h1 => hown.stored k u h0 h1)
      clear hown
      generalize l'.getD k 0 = c at *
      go_wp2_with fail
      exact ⟨⟨k + 1, by omega, by go_num, ⟨_, HST.out _ (xor_byte _).1 (xor_byte _).2⟩, hb.setCell hg' _⟩, by simp [intOf]; omega⟩
    · obtain rfl : k = n + (n + 12) := by omega
      have hw2 := hb2.trans (hb.mono (by omega))
      have HF3 := Lib.hid (own_kept HF2.out hb)
      have HL3 := Lib.hid (HL2.out.below hb)
      have hs1 : ∀ W, (Instr.sliceAt 22 (.slice (some ⟨g, 0, none⟩) n (n + 40)) none (some (.int .i64 ((n : Int) + 40))) none).run Try.prog W = .ok (.slice (some ⟨g, 0, none⟩) (n + 40) (n + 40)) W := fun W => by
        rw [show ((n : Int) + 40) = ((n + 40 : Nat) : Int) by omega, run_sliceAt_slice _ _ _ _ _ _ under22, run_slice_h W 22 (some ⟨g, 0, none⟩) n (n + 40) under22 .i64 ((n + 40 : Nat) : Int) (by omega) (by omega), elem22, size5]
        simp [sliced, Addr.add]
        omega
      have hs2 : ∀ W, (Instr.sliceAt 22 (.slice (some ⟨g, 0, none⟩) (n + 40) (n + 40)) (some (.int .i64 (n : Int))) none none).run Try.prog W = .ok (.slice (some ⟨g, n, none⟩) 40 40) W := fun W => by
        rw [run_sliceAt_slice _ _ _ _ _ _ under22, run_slice_l W 22 (some ⟨g, 0, none⟩) (n + 40) (n + 40) under22 .i64 n (by omega) (by omega), elem22, size5]
        simp [sliced, Addr.add]
        omega
      have HW2 := Lib.hid hw2
      clear hown hb hlt hk HF2 HR2 HL2 hw2 hb2
      go_wp2_with fail
      go_loop [59] (fun i => ∃ k : Nat, k ≤ 40 ∧ i = .int .i64 k) (fun i => 40 - (intOf i).toNat)
      case atStart => exact ⟨0, by omega, rfl⟩
      case round =>
        obtain ⟨k, hk, rfl⟩ := hrel
        by_cases hlt : k < 40
        · have hc : wr.cell? ⟨g, n + k, none⟩ = some (.int .u8 0) := by
            rw [HF3.out.cell (n + k) (by omega)]
            have : (l ++ List.replicate 40 0).getD (n + k) 0 = 0 := by
              simp only [List.getD]
              rw [List.getElem?_append_right (by rw [HN.out]; omega), HN.out]
              rw [List.getElem?_replicate, if_pos (by omega)]
              rfl
            rw [this]
          go_wp2_with fail
          exact ⟨⟨k + 1, by omega, by go_num⟩, by simp [intOf]; omega⟩
        · obtain rfl : k = 40 := by omega
          clear hs1 hs2
          have hlen : ([] ++ encL l).length = n + 12 := by simp [encL_len, HN.out]
          have HP := Lib.hid (put_s hlen (put_any none ao 0 ca 0 n [] l wr (bs_nil _) HL3.out rfl HN.out h1 (by omega)))
          clear hlen
          go_wp2_with fail
          refine HP.out.mono ?_
          rintro e w5 ⟨yo, yc, rfl, hown5, hB5, hb5⟩
          clear hown5 HP
          have hg1 := get_any yo yc (n + 12) ([] ++ encL l) w5 hB5 (by simp [encL_len, HN.out])
          have he : getL ([] ++ encL l) = (l, (n : Int) + 12, 0) := by
            have := get_enc l [] (by rw [HN.out]; exact h1)
            rw [HN.out] at this
            simpa using this
          rw [he] at hg1
          have HG := Lib.hid (get_s (m := n) HN.out hg1)
          have HY5 := Lib.hid hB5
          have HE := Lib.hid he
          have HF5 := Lib.hid (own_kept HF3.out hb5)
          have HL5 := Lib.hid (HL3.out.below hb5)
          have HW5 := Lib.hid (HW2.out.trans (hb5.mono (by have := HW2.out.size; omega)))
          clear hg1 hB5 he hb5 HF3 HL3 HW2
          go_wp2_with fail
          refine HG.out.mono ?_
          rintro e w6 ⟨zo, zc, rfl, hown6, hB6, hb6⟩
          have HZ := Lib.hid hown6
          have HB6 := Lib.hid hb6
          clear hown6 hB6 HG hb6
          go_wp2_with fail
          go_loopw [79] (fun i wz => ∃ k : Nat, k ≤ n ∧ i = .int .i64 k ∧ (∃ l', OwnB wz w5.heap.size (.slice zo n zc) l') ∧ Below w5.heap.size w5 wz) (fun i _ => n - (intOf i).toNat)
          case atStart => exact ⟨0, by omega, rfl, ⟨_, HZ.out⟩, HB6.out⟩
          case round =>
            clear HZ HB6
            obtain ⟨k, hk, rfl, ⟨l', hown⟩, hb⟩ := hrel
            by_cases hlt : k < n
            · obtain ⟨g', rfl, hg'⟩ := hown.at hlt
              have hc := hown.cell k hlt
              have hf := hown.frozen k
              have HST := Lib.hid (fun u h0 h1 => hown.stored k u h0 h1)
              clear hown
              generalize l'.getD k 0 = c at *
              go_wp2_with fail
              exact ⟨⟨k + 1, by omega, by go_num, ⟨_, HST.out _ (xor_byte _).1 (xor_byte _).2⟩, hb.setCell hg' _⟩, by simp [intOf]; omega⟩
            · obtain rfl : k = n := by omega
              have hg1 := get_any yo yc (k + 12) ([] ++ encL l) wr (HY5.out.below hb) (by simp [encL_len, HN.out])
              rw [HE.out] at hg1
              have HG := Lib.hid (get_s (m := k) HN.out hg1)
              have HF7 := Lib.hid (own_kept HF5.out hb)
              have HL7 := Lib.hid (HL5.out.below hb)
              have HW7 := Lib.hid (HW5.out.trans (hb.mono (by have := HW5.out.size; omega)))
              clear hg1 hb hown HF5 HL5 HW5 hlt hk
              go_wp2_with fail
              refine HG.out.mono ?_
              rintro e w8 ⟨uo, uc, rfl, hown8, hB8, hb8⟩
              have hcv1 := CV.out w8 _ _ (HL7.out.below hb8)
              have hcv2 := CV.out w8 _ _ hB8
              have hroomy : Bs w8 (some ⟨g, 0, none⟩) (k + 40) l := by
                have := ((own_kept HF7.out hb8).bs.1).pre k
                rwa [List.take_append_of_le_length (by rw [HN.out]; exact Nat.le_refl _), List.take_of_length_le (by rw [HN.out]; exact Nat.le_refl _)] at this
              have hcv3 := CV.out w8 _ _ hroomy
              have HW8 := Lib.hid (HW7.out.trans (hb8.mono (by have := HW7.out.size; omega)))
              clear hroomy hown8 hB8 hb8
              go_wp2_with (go_at_call 17; refine (alive_any _).mono ?_; rintro e w9 ⟨rfl, hb9⟩)
              go_ret
              subst hg
              exact ⟨rfl, HW8.out.trans (hb9.mono HW8.out.size)⟩
theorem frameOwn_any (ao : Option Addr) (ca n : Nat) (l : List Int) (w : World) (h : Bs w ao ca l) (hn : l.length = n) (h2 : n ≤ 140737488351232) :
    Calls Try.prog 5 #[.slice ao n ca] w (TruePost w) := by
  by_cases h1 : 65536 < n
  · exact own_many ao ca n l w h hn h1 h2
  · exact own_few ao ca n l w h hn (by omega)
end Go.Proofs.Ytaniflbhkddlhaa
