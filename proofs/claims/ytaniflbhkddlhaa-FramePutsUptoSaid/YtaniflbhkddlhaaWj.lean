/- The walk of FramePuts; no condition but the sizes. -/
import Derived.Test.YtaniflbhkddlhaaWi
namespace Go.Proofs.Ytaniflbhkddlhaa
open Go.RowKit
set_option maxHeartbeats 400000 in
set_option maxRecDepth 100000 in
theorem framePuts_many (ao bo : Option Addr) (ca cb n m : Nat) (w : World) (hm : 65536 < m) (hm2 : m ≤ 1048576) :
    Calls Try.prog 4 #[.slice ao n ca, .slice bo m cb] w (TruePost w) := by
  have H1 := Lib.hid (put_many ao bo ca cb n m w hm (by omega))
  have H2 := Lib.hid (refPut_many ao bo ca cb n m w hm (by omega))
  go_enter Try.func4, Try.ntmps4
  go_wp2_with (first | (go_at_call 18; refine H1.out.mono ?_; rintro e w' ⟨rfl, rfl⟩) | (go_at_call 19; refine H2.out.mono ?_; rintro e w' ⟨rfl, rfl⟩) | (go_at_call 20; refine (same_any none none 0 0 0 0 [] [] _ (bs_nil _) (bs_nil _) rfl rfl).mono ?_; rintro e w' ⟨rfl, rfl⟩) | (go_at_call 17; refine (alive_any _).mono ?_; rintro e w1 ⟨rfl, hb1⟩))
  go_ret
  exact ⟨rfl, hb1⟩
set_option maxHeartbeats 400000 in
set_option maxRecDepth 100000 in
theorem framePuts_few (ao bo : Option Addr) (ca cb n m : Nat) (l b : List Int) (w : World) (hl : Bs w ao ca l) (hb : Bs w bo cb b) (hn : l.length = n) (hm : b.length = m) (h1 : m ≤ 65536) (h2 : n ≤ 1048576) :
    Calls Try.prog 4 #[.slice ao n ca, .slice bo m cb] w (TruePost w) := by
  have hk : (l ++ encL b).length = n + (m + 12) := by simp [encL_len, hn, hm]
  have H1 := Lib.hid (put_s hk (put_any ao bo ca cb n m l b w hl hb hn hm h1 (by omega)))
  have H2 := Lib.hid (fun w' hl hb => put_s hk (refPut_any ao bo ca cb n m l b w' hl hb hn hm h1 (by omega)))
  have HL := Lib.hid hl
  have HB := Lib.hid hb
  have HK := Lib.hid hk
  clear hl hb hn hm hk
  generalize l ++ encL b = r at *
  generalize n + (m + 12) = k at *
  go_enter Try.func4, Try.ntmps4
  go_wp2_with fail
  refine H1.out.mono ?_
  rintro e w1 ⟨o1, c1, rfl, hown1, hB1, hb1⟩
  have HW := Lib.hid (H2.out w1 (HL.out.below hb1) (HB.out.below hb1))
  clear hown1
  have HB1 := Lib.hid hB1
  clear hB1
  go_wp2_with fail
  refine HW.out.mono ?_
  rintro e w2 ⟨o2, c2, rfl, hown2, hB2, hb2⟩
  have hs := same_any o1 o2 c1 c2 k k r r w2 (HB1.out.below hb2) hB2 HK.out HK.out
  rw [decide_eq_true (show r = r from rfl)] at hs
  have HS := Lib.hid hs
  have hb02 := hb1.trans (hb2.mono hb1.size)
  clear hown2 hB2 hb2 hb1 hs
  go_wp2_with (first | (go_at_call 20; refine HS.out.mono ?_; rintro e w' ⟨rfl, rfl⟩) | (go_at_call 17; refine (alive_any _).mono ?_; rintro e w1 ⟨rfl, hb1⟩))
  go_ret
  exact ⟨rfl, hb02.trans (hb1.mono hb02.size)⟩
theorem framePuts_any (ao bo : Option Addr) (ca cb n m : Nat) (l b : List Int) (w : World) (hl : Bs w ao ca l) (hb : Bs w bo cb b) (hn : l.length = n) (hm : b.length = m) (h1 : m ≤ 1048576) (h2 : n ≤ 1048576) :
    Calls Try.prog 4 #[.slice ao n ca, .slice bo m cb] w (TruePost w) := by
  by_cases h : 65536 < m
  · exact framePuts_many ao bo ca cb n m w h h1
  · exact framePuts_few ao bo ca cb n m l b w hl hb hn hm (by omega) h2
end Go.Proofs.Ytaniflbhkddlhaa
