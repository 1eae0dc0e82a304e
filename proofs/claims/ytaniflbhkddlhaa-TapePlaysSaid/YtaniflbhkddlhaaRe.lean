/- An act, done on a tape and on the document's: both come to the same. No condition. -/
import Derived.Test.YtaniflbhkddlhaaRc
import Derived.Test.YtaniflbhkddlhaaRd
namespace Go.Proofs.Ytaniflbhkddlhaa
open Go.RowKit
abbrev actV (kd N : Int) (bo mo : Option Addr) (bn bc mn mc : Nat) : Value := .agg #[.int .u8 kd, .slice bo bn bc, .slice mo mn mc, .int .i64 N]
/-- One answer, and one state behind it, of both. -/
def SameAct (off : Bool) (fuse : Int) (b : List Int) (k : Nat) (kd N : Int) (B : List Int) (ms : List (List Int)) : Prop :=
  ∃ r : Int × Bool × Int × List Int × Nat, ∀ (w : World) (bo mo : Option Addr) (bn bc mn mc : Nat), Bs w bo bc B → B.length = bn → Rs w mo mc ms → ms.length = mn →
    (∀ g, TapeAt w g off fuse b k → Calls Try.prog 38 #[.pointer (some ⟨g, 0, none⟩), .agg #[.int .u8 kd, .slice bo bn bc, .slice mo mn mc, .int .i64 N]] w (CallR w g r)) ∧
    (∀ h, RefAt w h off fuse b k → Calls Try.prog 39 #[.pointer (some ⟨h, 0, none⟩), .agg #[.int .u8 kd, .slice bo bn bc, .slice mo mn mc, .int .i64 N]] w (RCallR w h r))
set_option maxHeartbeats 1000000 in
set_option maxRecDepth 100000 in
theorem act0 (off : Bool) (fuse : Int) (b : List Int) (k : Nat) (kd N : Int) (B : List Int) (ms : List (List Int)) (_ : N ≤ 9223372036854775807) (hsm : ms.length ≤ 40) (hk : kd.tmod 7 = 0) : SameAct off fuse b k kd N B ms := by
  have HSM := Lib.hid hsm
  obtain ⟨r, hr⟩ : ∃ r : Int × Bool × Int × List Int × Nat, r = ((fitsR off fuse b.length B.length).1, (fitsR off fuse b.length B.length).2.1, (fitsR off fuse b.length B.length).2.2, (if (fitsR off fuse b.length B.length).1 = 0 then b ++ B else b), k) := ⟨_, rfl⟩
  have HR := Lib.hid hr
  clear hr
  refine ⟨r, fun w bo mo bn bc mn mc hB hbn hM hmn => ⟨fun g hT => ?_, fun h hT => ?_⟩⟩
  · have T0 := Lib.hid (hT.below (below_alloc w (.cells #[.int .u8 kd, .slice bo bn bc, .slice mo mn mc, .int .i64 N] 65)))
    have B0 := Lib.hid (hB.alloc (.cells #[.int .u8 kd, .slice bo bn bc, .slice mo mn mc, .int .i64 N] 65))
    have M0 := Lib.hid (hM.below (below_alloc w (.cells #[.int .u8 kd, .slice bo bn bc, .slice mo mn mc, .int .i64 N] 65)))
    have HBN := Lib.hid hbn
    have HMN := Lib.hid hmn
    clear hT hB hM hbn hmn
    go_enter Try.func38, Try.ntmps38
    go_wp2_with fail
    refine (write_any _ g off fuse b k T0.out bo bc bn B B0.out HBN.out).mono ?_
    rintro e w2 ⟨rfl, h1, h2⟩
    have H1 := Lib.hid h1
    have H2 := Lib.hid h2
    clear h1 h2
    go_wp2_with fail
    go_ret
    unfold CallR
    rw [HR.out, HBN.out]
    exact ⟨rfl, H1.out, (but_of (below_alloc w _)).trans H2.out⟩
  · have T0 := Lib.hid (hT.below (below_alloc w (.cells #[.int .u8 kd, .slice bo bn bc, .slice mo mn mc, .int .i64 N] 65)))
    have B0 := Lib.hid (hB.alloc (.cells #[.int .u8 kd, .slice bo bn bc, .slice mo mn mc, .int .i64 N] 65))
    have M0 := Lib.hid (hM.below (below_alloc w (.cells #[.int .u8 kd, .slice bo bn bc, .slice mo mn mc, .int .i64 N] 65)))
    have HBN := Lib.hid hbn
    have HMN := Lib.hid hmn
    clear hT hB hM hbn hmn
    go_enter Try.func39, Try.ntmps39
    go_wp2_with fail
    refine (rwrite_any _ h off fuse b k T0.out bo bc bn B B0.out HBN.out).mono ?_
    rintro e w2 ⟨rfl, h1, h2⟩
    have H1 := Lib.hid h1
    have H2 := Lib.hid h2
    clear h1 h2
    go_wp2_with fail
    go_ret
    unfold RCallR
    rw [HR.out, HBN.out]
    exact ⟨rfl, H1.out, (but_of (below_alloc w _)).trans H2.out⟩
set_option maxHeartbeats 1000000 in
set_option maxRecDepth 100000 in
theorem act1 (off : Bool) (fuse : Int) (b : List Int) (k : Nat) (kd N : Int) (B : List Int) (ms : List (List Int)) (_ : N ≤ 9223372036854775807) (hsm : ms.length ≤ 40) (hk : kd.tmod 7 = 1) : SameAct off fuse b k kd N B ms := by
  have HSM := Lib.hid hsm
  obtain ⟨r, hr⟩ : ∃ r : Int × Bool × Int × List Int × Nat, r = ((fitsR off fuse 0 0).1, (fitsR off fuse 0 0).2.1, (fitsR off fuse 0 0).2.2, b, (if (fitsR off fuse 0 0).1 = 0 then b.length else k)) := ⟨_, rfl⟩
  have HR := Lib.hid hr
  clear hr
  refine ⟨r, fun w bo mo bn bc mn mc hB hbn hM hmn => ⟨fun g hT => ?_, fun h hT => ?_⟩⟩
  · have T0 := Lib.hid (hT.below (below_alloc w (.cells #[.int .u8 kd, .slice bo bn bc, .slice mo mn mc, .int .i64 N] 65)))
    have B0 := Lib.hid (hB.alloc (.cells #[.int .u8 kd, .slice bo bn bc, .slice mo mn mc, .int .i64 N] 65))
    have M0 := Lib.hid (hM.below (below_alloc w (.cells #[.int .u8 kd, .slice bo bn bc, .slice mo mn mc, .int .i64 N] 65)))
    have HBN := Lib.hid hbn
    have HMN := Lib.hid hmn
    clear hT hB hM hbn hmn
    go_enter Try.func38, Try.ntmps38
    go_wp2_with fail
    refine (tsync_any _ g off fuse b k T0.out).mono ?_
    rintro e w2 ⟨rfl, h1, h2⟩
    have H1 := Lib.hid h1
    have H2 := Lib.hid h2
    clear h1 h2
    go_wp2_with fail
    go_ret
    unfold CallR
    rw [HR.out]
    exact ⟨rfl, H1.out, (but_of (below_alloc w _)).trans H2.out⟩
  · have T0 := Lib.hid (hT.below (below_alloc w (.cells #[.int .u8 kd, .slice bo bn bc, .slice mo mn mc, .int .i64 N] 65)))
    have B0 := Lib.hid (hB.alloc (.cells #[.int .u8 kd, .slice bo bn bc, .slice mo mn mc, .int .i64 N] 65))
    have M0 := Lib.hid (hM.below (below_alloc w (.cells #[.int .u8 kd, .slice bo bn bc, .slice mo mn mc, .int .i64 N] 65)))
    have HBN := Lib.hid hbn
    have HMN := Lib.hid hmn
    clear hT hB hM hbn hmn
    go_enter Try.func39, Try.ntmps39
    go_wp2_with fail
    refine (rsync_any _ h off fuse b k T0.out).mono ?_
    rintro e w2 ⟨rfl, h1, h2⟩
    have H1 := Lib.hid h1
    have H2 := Lib.hid h2
    clear h1 h2
    go_wp2_with fail
    go_ret
    unfold RCallR
    rw [HR.out]
    exact ⟨rfl, H1.out, (but_of (below_alloc w _)).trans H2.out⟩
set_option maxHeartbeats 1000000 in
set_option maxRecDepth 100000 in
theorem act2 (off : Bool) (fuse : Int) (b : List Int) (k : Nat) (kd N : Int) (B : List Int) (ms : List (List Int)) (_ : N ≤ 9223372036854775807) (hsm : ms.length ≤ 40) (hk : kd.tmod 7 = 2) : SameAct off fuse b k kd N B ms := by
  have HSM := Lib.hid hsm
  obtain ⟨r, hr⟩ : ∃ r : Int × Bool × Int × List Int × Nat, r = ((fitsR off fuse 0 B.length).1, (fitsR off fuse 0 B.length).2.1, (fitsR off fuse 0 B.length).2.2, (if (fitsR off fuse 0 B.length).1 = 0 then B else b), (if (fitsR off fuse 0 B.length).1 = 0 then B.length else k)) := ⟨_, rfl⟩
  have HR := Lib.hid hr
  clear hr
  refine ⟨r, fun w bo mo bn bc mn mc hB hbn hM hmn => ⟨fun g hT => ?_, fun h hT => ?_⟩⟩
  · have T0 := Lib.hid (hT.below (below_alloc w (.cells #[.int .u8 kd, .slice bo bn bc, .slice mo mn mc, .int .i64 N] 65)))
    have B0 := Lib.hid (hB.alloc (.cells #[.int .u8 kd, .slice bo bn bc, .slice mo mn mc, .int .i64 N] 65))
    have M0 := Lib.hid (hM.below (below_alloc w (.cells #[.int .u8 kd, .slice bo bn bc, .slice mo mn mc, .int .i64 N] 65)))
    have HBN := Lib.hid hbn
    have HMN := Lib.hid hmn
    clear hT hB hM hbn hmn
    go_enter Try.func38, Try.ntmps38
    go_wp2_with fail
    refine (swap_any _ g off fuse b k T0.out bo bc bn B B0.out HBN.out).mono ?_
    rintro e w2 ⟨rfl, h1, h2⟩
    have H1 := Lib.hid h1
    have H2 := Lib.hid h2
    clear h1 h2
    go_wp2_with fail
    go_ret
    unfold CallR
    rw [HR.out, HBN.out]
    exact ⟨rfl, H1.out, (but_of (below_alloc w _)).trans H2.out⟩
  · have T0 := Lib.hid (hT.below (below_alloc w (.cells #[.int .u8 kd, .slice bo bn bc, .slice mo mn mc, .int .i64 N] 65)))
    have B0 := Lib.hid (hB.alloc (.cells #[.int .u8 kd, .slice bo bn bc, .slice mo mn mc, .int .i64 N] 65))
    have M0 := Lib.hid (hM.below (below_alloc w (.cells #[.int .u8 kd, .slice bo bn bc, .slice mo mn mc, .int .i64 N] 65)))
    have HBN := Lib.hid hbn
    have HMN := Lib.hid hmn
    clear hT hB hM hbn hmn
    go_enter Try.func39, Try.ntmps39
    go_wp2_with fail
    refine (rswap_any _ h off fuse b k T0.out bo bc bn B B0.out HBN.out).mono ?_
    rintro e w2 ⟨rfl, h1, h2⟩
    have H1 := Lib.hid h1
    have H2 := Lib.hid h2
    clear h1 h2
    go_wp2_with fail
    go_ret
    unfold RCallR
    rw [HR.out, HBN.out]
    exact ⟨rfl, H1.out, (but_of (below_alloc w _)).trans H2.out⟩
set_option maxHeartbeats 1000000 in
set_option maxRecDepth 100000 in
theorem act3 (off : Bool) (fuse : Int) (b : List Int) (k : Nat) (kd N : Int) (B : List Int) (ms : List (List Int)) (hN : N ≤ 9223372036854775807) (hsm : ms.length ≤ 40) (hk : kd.tmod 7 = 3) : SameAct off fuse b k kd N B ms := by
  have HSM := Lib.hid hsm
  obtain ⟨r, hr⟩ : ∃ r : Int × Bool × Int × List Int × Nat, r = (0, off, max N (-1), b, k) := ⟨_, rfl⟩
  have HR := Lib.hid hr
  clear hr
  refine ⟨r, fun w bo mo bn bc mn mc hB hbn hM hmn => ⟨fun g hT => ?_, fun h hT => ?_⟩⟩
  · have T0 := Lib.hid (hT.below (below_alloc w (.cells #[.int .u8 kd, .slice bo bn bc, .slice mo mn mc, .int .i64 N] 65)))
    have B0 := Lib.hid (hB.alloc (.cells #[.int .u8 kd, .slice bo bn bc, .slice mo mn mc, .int .i64 N] 65))
    have M0 := Lib.hid (hM.below (below_alloc w (.cells #[.int .u8 kd, .slice bo bn bc, .slice mo mn mc, .int .i64 N] 65)))
    have HBN := Lib.hid hbn
    have HMN := Lib.hid hmn
    clear hT hB hM hbn hmn
    go_enter Try.func38, Try.ntmps38
    go_wp2_with fail
    refine (tarm_any _ g off fuse N b k T0.out hN).mono ?_
    rintro e w2 ⟨rfl, h1, h2⟩
    have H1 := Lib.hid h1
    have H2 := Lib.hid h2
    clear h1 h2
    go_wp2_with fail
    go_ret
    unfold CallR
    rw [HR.out]
    exact ⟨rfl, H1.out, (but_of (below_alloc w _)).trans H2.out⟩
  · have T0 := Lib.hid (hT.below (below_alloc w (.cells #[.int .u8 kd, .slice bo bn bc, .slice mo mn mc, .int .i64 N] 65)))
    have B0 := Lib.hid (hB.alloc (.cells #[.int .u8 kd, .slice bo bn bc, .slice mo mn mc, .int .i64 N] 65))
    have M0 := Lib.hid (hM.below (below_alloc w (.cells #[.int .u8 kd, .slice bo bn bc, .slice mo mn mc, .int .i64 N] 65)))
    have HBN := Lib.hid hbn
    have HMN := Lib.hid hmn
    clear hT hB hM hbn hmn
    go_enter Try.func39, Try.ntmps39
    go_wp2_with fail
    refine (rarm_any _ h off fuse N b k T0.out hN).mono ?_
    rintro e w2 ⟨rfl, h1, h2⟩
    have H1 := Lib.hid h1
    have H2 := Lib.hid h2
    clear h1 h2
    go_wp2_with fail
    go_ret
    unfold RCallR
    rw [HR.out]
    exact ⟨rfl, H1.out, (but_of (below_alloc w _)).trans H2.out⟩
set_option maxHeartbeats 1000000 in
set_option maxRecDepth 100000 in
theorem act4a (fuse : Int) (b : List Int) (k : Nat) (kd N : Int) (B : List Int) (ms : List (List Int)) (_ : N ≤ 9223372036854775807) (hsm : ms.length ≤ 40) (hk : kd.tmod 7 = 4) : SameAct true fuse b k kd N B ms := by
  have HSM := Lib.hid hsm
  obtain ⟨r, hr⟩ : ∃ r : Int × Bool × Int × List Int × Nat, r = (0, false, -1, b.take (k + addK N (b.length - k)), k + addK N (b.length - k)) := ⟨_, rfl⟩
  have HR := Lib.hid hr
  clear hr
  refine ⟨r, fun w bo mo bn bc mn mc hB hbn hM hmn => ⟨fun g hT => ?_, fun h hT => ?_⟩⟩
  · have T0 := Lib.hid (hT.below (below_alloc w (.cells #[.int .u8 kd, .slice bo bn bc, .slice mo mn mc, .int .i64 N] 65)))
    have B0 := Lib.hid (hB.alloc (.cells #[.int .u8 kd, .slice bo bn bc, .slice mo mn mc, .int .i64 N] 65))
    have M0 := Lib.hid (hM.below (below_alloc w (.cells #[.int .u8 kd, .slice bo bn bc, .slice mo mn mc, .int .i64 N] 65)))
    have HBN := Lib.hid hbn
    have HMN := Lib.hid hmn
    clear hT hB hM hbn hmn
    go_enter Try.func38, Try.ntmps38
    go_wp2_with fail
    refine (start_off _ g fuse b k _ N T0.out rfl).mono ?_
    rintro e w2 ⟨rfl, h1, h2⟩
    have H1 := Lib.hid h1
    have H2 := Lib.hid h2
    clear h1 h2
    go_wp2_with fail
    go_ret
    unfold CallR
    rw [HR.out]
    exact ⟨rfl, H1.out, (but_of (below_alloc w _)).trans H2.out⟩
  · have T0 := Lib.hid (hT.below (below_alloc w (.cells #[.int .u8 kd, .slice bo bn bc, .slice mo mn mc, .int .i64 N] 65)))
    have B0 := Lib.hid (hB.alloc (.cells #[.int .u8 kd, .slice bo bn bc, .slice mo mn mc, .int .i64 N] 65))
    have M0 := Lib.hid (hM.below (below_alloc w (.cells #[.int .u8 kd, .slice bo bn bc, .slice mo mn mc, .int .i64 N] 65)))
    have HBN := Lib.hid hbn
    have HMN := Lib.hid hmn
    clear hT hB hM hbn hmn
    go_enter Try.func39, Try.ntmps39
    go_wp2_with fail
    refine (rstart_off _ h fuse b k _ N T0.out rfl).mono ?_
    rintro e w2 ⟨rfl, h1, h2⟩
    have H1 := Lib.hid h1
    have H2 := Lib.hid h2
    clear h1 h2
    go_wp2_with fail
    go_ret
    unfold RCallR
    rw [HR.out]
    exact ⟨rfl, H1.out, (but_of (below_alloc w _)).trans H2.out⟩
set_option maxHeartbeats 1000000 in
set_option maxRecDepth 100000 in
theorem act4b (fuse : Int) (b : List Int) (k : Nat) (kd N : Int) (B : List Int) (ms : List (List Int)) (_ : N ≤ 9223372036854775807) (hsm : ms.length ≤ 40) (hk : kd.tmod 7 = 4) : SameAct false fuse b k kd N B ms := by
  have HSM := Lib.hid hsm
  obtain ⟨r, hr⟩ : ∃ r : Int × Bool × Int × List Int × Nat, r = (11, false, fuse, b, k) := ⟨_, rfl⟩
  have HR := Lib.hid hr
  clear hr
  refine ⟨r, fun w bo mo bn bc mn mc hB hbn hM hmn => ⟨fun g hT => ?_, fun h hT => ?_⟩⟩
  · have T0 := Lib.hid (hT.below (below_alloc w (.cells #[.int .u8 kd, .slice bo bn bc, .slice mo mn mc, .int .i64 N] 65)))
    have B0 := Lib.hid (hB.alloc (.cells #[.int .u8 kd, .slice bo bn bc, .slice mo mn mc, .int .i64 N] 65))
    have M0 := Lib.hid (hM.below (below_alloc w (.cells #[.int .u8 kd, .slice bo bn bc, .slice mo mn mc, .int .i64 N] 65)))
    have HBN := Lib.hid hbn
    have HMN := Lib.hid hmn
    clear hT hB hM hbn hmn
    go_enter Try.func38, Try.ntmps38
    go_wp2_with fail
    refine (start_on _ g fuse b k N T0.out).mono ?_
    rintro e w2 ⟨rfl, h1, h2⟩
    have H1 := Lib.hid h1
    have H2 := Lib.hid h2
    clear h1 h2
    go_wp2_with fail
    go_ret
    unfold CallR
    rw [HR.out]
    exact ⟨rfl, H1.out, (but_of (below_alloc w _)).trans H2.out⟩
  · have T0 := Lib.hid (hT.below (below_alloc w (.cells #[.int .u8 kd, .slice bo bn bc, .slice mo mn mc, .int .i64 N] 65)))
    have B0 := Lib.hid (hB.alloc (.cells #[.int .u8 kd, .slice bo bn bc, .slice mo mn mc, .int .i64 N] 65))
    have M0 := Lib.hid (hM.below (below_alloc w (.cells #[.int .u8 kd, .slice bo bn bc, .slice mo mn mc, .int .i64 N] 65)))
    have HBN := Lib.hid hbn
    have HMN := Lib.hid hmn
    clear hT hB hM hbn hmn
    go_enter Try.func39, Try.ntmps39
    go_wp2_with fail
    refine (rstart_on _ h fuse b k N T0.out).mono ?_
    rintro e w2 ⟨rfl, h1, h2⟩
    have H1 := Lib.hid h1
    have H2 := Lib.hid h2
    clear h1 h2
    go_wp2_with fail
    go_ret
    unfold RCallR
    rw [HR.out]
    exact ⟨rfl, H1.out, (but_of (below_alloc w _)).trans H2.out⟩
set_option maxHeartbeats 1000000 in
set_option maxRecDepth 100000 in
theorem act5a (fuse : Int) (b : List Int) (k : Nat) (kd N : Int) (B : List Int) (ms : List (List Int)) (_ : N ≤ 9223372036854775807) (hsm : ms.length ≤ 40) (hk : kd.tmod 7 = 5) : SameAct true fuse b k kd N B ms := by
  have HSM := Lib.hid hsm
  obtain ⟨r, hr⟩ : ∃ r : Int × Bool × Int × List Int × Nat, r = (10, true, fuse, b, k) := ⟨_, rfl⟩
  have HR := Lib.hid hr
  clear hr
  refine ⟨r, fun w bo mo bn bc mn mc hB hbn hM hmn => ⟨fun g hT => ?_, fun h hT => ?_⟩⟩
  · have T0 := Lib.hid (hT.below (below_alloc w (.cells #[.int .u8 kd, .slice bo bn bc, .slice mo mn mc, .int .i64 N] 65)))
    have B0 := Lib.hid (hB.alloc (.cells #[.int .u8 kd, .slice bo bn bc, .slice mo mn mc, .int .i64 N] 65))
    have M0 := Lib.hid (hM.below (below_alloc w (.cells #[.int .u8 kd, .slice bo bn bc, .slice mo mn mc, .int .i64 N] 65)))
    have HBN := Lib.hid hbn
    have HMN := Lib.hid hmn
    clear hT hB hM hbn hmn
    go_enter Try.func38, Try.ntmps38
    go_wp2_with fail
    refine (actAll_any kd N bo mo bn bc mn mc B ms _ B0.out HBN.out M0.out HMN.out (by have := HSM.out; have := HMN.out; omega)).mono ?_
    rintro e wl ⟨lo, lc, rfl, hR, hbl⟩
    have L0 := Lib.hid hR
    have BL := Lib.hid hbl
    have T1 := Lib.hid (T0.out.below hbl)
    clear hR hbl
    go_wp2_with fail
    refine (log_off _ g fuse b k T1.out _).mono ?_
    rintro e w2 ⟨rfl, h1, h2⟩
    have H1 := Lib.hid h1
    have H2 := Lib.hid h2
    clear h1 h2
    go_wp2_with fail
    go_ret
    unfold CallR
    rw [HR.out]
    exact ⟨rfl, H1.out, ((but_of (below_alloc w _)).trans (but_of BL.out)).trans H2.out⟩
  · have T0 := Lib.hid (hT.below (below_alloc w (.cells #[.int .u8 kd, .slice bo bn bc, .slice mo mn mc, .int .i64 N] 65)))
    have B0 := Lib.hid (hB.alloc (.cells #[.int .u8 kd, .slice bo bn bc, .slice mo mn mc, .int .i64 N] 65))
    have M0 := Lib.hid (hM.below (below_alloc w (.cells #[.int .u8 kd, .slice bo bn bc, .slice mo mn mc, .int .i64 N] 65)))
    have HBN := Lib.hid hbn
    have HMN := Lib.hid hmn
    clear hT hB hM hbn hmn
    go_enter Try.func39, Try.ntmps39
    go_wp2_with fail
    refine (actAll_any kd N bo mo bn bc mn mc B ms _ B0.out HBN.out M0.out HMN.out (by have := HSM.out; have := HMN.out; omega)).mono ?_
    rintro e wl ⟨lo, lc, rfl, hR, hbl⟩
    have L0 := Lib.hid hR
    have BL := Lib.hid hbl
    have T1 := Lib.hid (T0.out.below hbl)
    clear hR hbl
    go_wp2_with fail
    refine (rlog_off _ h fuse b k T1.out lo lc _ (B :: ms) L0.out (by rw [List.length_cons, HMN.out])).mono ?_
    rintro e w2 ⟨rfl, h1, h2⟩
    have H1 := Lib.hid h1
    have H2 := Lib.hid h2
    clear h1 h2
    go_wp2_with fail
    go_ret
    unfold RCallR
    rw [HR.out]
    exact ⟨rfl, H1.out, ((but_of (below_alloc w _)).trans (but_of BL.out)).trans H2.out⟩
set_option maxHeartbeats 1000000 in
set_option maxRecDepth 100000 in
theorem act5b (fuse : Int) (b : List Int) (k : Nat) (kd N : Int) (B : List Int) (ms : List (List Int)) (_ : N ≤ 9223372036854775807) (hsm : ms.length ≤ 40) (hk : kd.tmod 7 = 5) (hf : Few (B :: ms)) : SameAct false fuse b k kd N B ms := by
  have HSM := Lib.hid hsm
  obtain ⟨r, hr⟩ : ∃ r : Int × Bool × Int × List Int × Nat, r = logR fuse b k (logB (B :: ms)) := ⟨_, rfl⟩
  have HR := Lib.hid hr
  clear hr
  refine ⟨r, fun w bo mo bn bc mn mc hB hbn hM hmn => ⟨fun g hT => ?_, fun h hT => ?_⟩⟩
  · have T0 := Lib.hid (hT.below (below_alloc w (.cells #[.int .u8 kd, .slice bo bn bc, .slice mo mn mc, .int .i64 N] 65)))
    have B0 := Lib.hid (hB.alloc (.cells #[.int .u8 kd, .slice bo bn bc, .slice mo mn mc, .int .i64 N] 65))
    have M0 := Lib.hid (hM.below (below_alloc w (.cells #[.int .u8 kd, .slice bo bn bc, .slice mo mn mc, .int .i64 N] 65)))
    have HBN := Lib.hid hbn
    have HMN := Lib.hid hmn
    clear hT hB hM hbn hmn
    go_enter Try.func38, Try.ntmps38
    go_wp2_with fail
    refine (actAll_any kd N bo mo bn bc mn mc B ms _ B0.out HBN.out M0.out HMN.out (by have := HSM.out; have := HMN.out; omega)).mono ?_
    rintro e wl ⟨lo, lc, rfl, hR, hbl⟩
    have L0 := Lib.hid hR
    have BL := Lib.hid hbl
    have T1 := Lib.hid (T0.out.below hbl)
    clear hR hbl
    go_wp2_with fail
    refine (log_few _ g fuse b k T1.out lo lc _ (B :: ms) L0.out (by rw [List.length_cons, HMN.out]) hf).mono ?_
    rintro e w2 ⟨rfl, h1, h2⟩
    have H1 := Lib.hid h1
    have H2 := Lib.hid h2
    clear h1 h2
    go_wp2_with fail
    go_ret
    unfold CallR
    rw [HR.out]
    exact ⟨rfl, H1.out, ((but_of (below_alloc w _)).trans (but_of BL.out)).trans H2.out⟩
  · have T0 := Lib.hid (hT.below (below_alloc w (.cells #[.int .u8 kd, .slice bo bn bc, .slice mo mn mc, .int .i64 N] 65)))
    have B0 := Lib.hid (hB.alloc (.cells #[.int .u8 kd, .slice bo bn bc, .slice mo mn mc, .int .i64 N] 65))
    have M0 := Lib.hid (hM.below (below_alloc w (.cells #[.int .u8 kd, .slice bo bn bc, .slice mo mn mc, .int .i64 N] 65)))
    have HBN := Lib.hid hbn
    have HMN := Lib.hid hmn
    clear hT hB hM hbn hmn
    go_enter Try.func39, Try.ntmps39
    go_wp2_with fail
    refine (actAll_any kd N bo mo bn bc mn mc B ms _ B0.out HBN.out M0.out HMN.out (by have := HSM.out; have := HMN.out; omega)).mono ?_
    rintro e wl ⟨lo, lc, rfl, hR, hbl⟩
    have L0 := Lib.hid hR
    have BL := Lib.hid hbl
    have T1 := Lib.hid (T0.out.below hbl)
    clear hR hbl
    go_wp2_with fail
    refine (rlog_few _ h fuse b k T1.out lo lc _ (B :: ms) L0.out (by rw [List.length_cons, HMN.out]) hf).mono ?_
    rintro e w2 ⟨rfl, h1, h2⟩
    have H1 := Lib.hid h1
    have H2 := Lib.hid h2
    clear h1 h2
    go_wp2_with fail
    go_ret
    unfold RCallR
    rw [HR.out]
    exact ⟨rfl, H1.out, ((but_of (below_alloc w _)).trans (but_of BL.out)).trans H2.out⟩
set_option maxHeartbeats 1000000 in
set_option maxRecDepth 100000 in
theorem act5c (fuse : Int) (b : List Int) (k : Nat) (kd N : Int) (B : List Int) (ms : List (List Int)) (_ : N ≤ 9223372036854775807) (hsm : ms.length ≤ 40) (hk : kd.tmod 7 = 5) (hf : ¬ Few (B :: ms)) : SameAct false fuse b k kd N B ms := by
  have HSM := Lib.hid hsm
  obtain ⟨r, hr⟩ : ∃ r : Int × Bool × Int × List Int × Nat, r = (1, false, fuse, b, k) := ⟨_, rfl⟩
  have HR := Lib.hid hr
  clear hr
  refine ⟨r, fun w bo mo bn bc mn mc hB hbn hM hmn => ⟨fun g hT => ?_, fun h hT => ?_⟩⟩
  · have T0 := Lib.hid (hT.below (below_alloc w (.cells #[.int .u8 kd, .slice bo bn bc, .slice mo mn mc, .int .i64 N] 65)))
    have B0 := Lib.hid (hB.alloc (.cells #[.int .u8 kd, .slice bo bn bc, .slice mo mn mc, .int .i64 N] 65))
    have M0 := Lib.hid (hM.below (below_alloc w (.cells #[.int .u8 kd, .slice bo bn bc, .slice mo mn mc, .int .i64 N] 65)))
    have HBN := Lib.hid hbn
    have HMN := Lib.hid hmn
    clear hT hB hM hbn hmn
    go_enter Try.func38, Try.ntmps38
    go_wp2_with fail
    refine (actAll_any kd N bo mo bn bc mn mc B ms _ B0.out HBN.out M0.out HMN.out (by have := HSM.out; have := HMN.out; omega)).mono ?_
    rintro e wl ⟨lo, lc, rfl, hR, hbl⟩
    have L0 := Lib.hid hR
    have BL := Lib.hid hbl
    have T1 := Lib.hid (T0.out.below hbl)
    clear hR hbl
    go_wp2_with fail
    refine (log_many _ g fuse b k T1.out lo lc _ (B :: ms) L0.out (by rw [List.length_cons, HMN.out]) hf).mono ?_
    rintro e w2 ⟨rfl, h1, h2⟩
    have H1 := Lib.hid h1
    have H2 := Lib.hid h2
    clear h1 h2
    go_wp2_with fail
    go_ret
    unfold CallR
    rw [HR.out]
    exact ⟨rfl, H1.out, ((but_of (below_alloc w _)).trans (but_of BL.out)).trans H2.out⟩
  · have T0 := Lib.hid (hT.below (below_alloc w (.cells #[.int .u8 kd, .slice bo bn bc, .slice mo mn mc, .int .i64 N] 65)))
    have B0 := Lib.hid (hB.alloc (.cells #[.int .u8 kd, .slice bo bn bc, .slice mo mn mc, .int .i64 N] 65))
    have M0 := Lib.hid (hM.below (below_alloc w (.cells #[.int .u8 kd, .slice bo bn bc, .slice mo mn mc, .int .i64 N] 65)))
    have HBN := Lib.hid hbn
    have HMN := Lib.hid hmn
    clear hT hB hM hbn hmn
    go_enter Try.func39, Try.ntmps39
    go_wp2_with fail
    refine (actAll_any kd N bo mo bn bc mn mc B ms _ B0.out HBN.out M0.out HMN.out (by have := HSM.out; have := HMN.out; omega)).mono ?_
    rintro e wl ⟨lo, lc, rfl, hR, hbl⟩
    have L0 := Lib.hid hR
    have BL := Lib.hid hbl
    have T1 := Lib.hid (T0.out.below hbl)
    clear hR hbl
    go_wp2_with fail
    refine (rlog_many _ h fuse b k T1.out lo lc _ (B :: ms) L0.out (by rw [List.length_cons, HMN.out]) hf).mono ?_
    rintro e w2 ⟨rfl, h1, h2⟩
    have H1 := Lib.hid h1
    have H2 := Lib.hid h2
    clear h1 h2
    go_wp2_with fail
    go_ret
    unfold RCallR
    rw [HR.out]
    exact ⟨rfl, H1.out, ((but_of (below_alloc w _)).trans (but_of BL.out)).trans H2.out⟩
set_option maxHeartbeats 1000000 in
set_option maxRecDepth 100000 in
theorem act6 (off : Bool) (fuse : Int) (b : List Int) (k : Nat) (kd N : Int) (B : List Int) (ms : List (List Int)) (_ : N ≤ 9223372036854775807) (hsm : ms.length ≤ 40) (hk : kd.tmod 7 = 6) : SameAct off fuse b k kd N B ms := by
  have HSM := Lib.hid hsm
  obtain ⟨r, hr⟩ : ∃ r : Int × Bool × Int × List Int × Nat, r = (0, off, fuse, b, k) := ⟨_, rfl⟩
  have HR := Lib.hid hr
  clear hr
  refine ⟨r, fun w bo mo bn bc mn mc hB hbn hM hmn => ⟨fun g hT => ?_, fun h hT => ?_⟩⟩
  · have T0 := Lib.hid (hT.below (below_alloc w (.cells #[.int .u8 kd, .slice bo bn bc, .slice mo mn mc, .int .i64 N] 65)))
    have B0 := Lib.hid (hB.alloc (.cells #[.int .u8 kd, .slice bo bn bc, .slice mo mn mc, .int .i64 N] 65))
    have M0 := Lib.hid (hM.below (below_alloc w (.cells #[.int .u8 kd, .slice bo bn bc, .slice mo mn mc, .int .i64 N] 65)))
    have HBN := Lib.hid hbn
    have HMN := Lib.hid hmn
    clear hT hB hM hbn hmn
    go_enter Try.func38, Try.ntmps38
    go_wp2_with fail
    go_ret
    unfold CallR
    rw [HR.out]
    exact ⟨rfl, T0.out, but_of (below_alloc w _)⟩
  · have T0 := Lib.hid (hT.below (below_alloc w (.cells #[.int .u8 kd, .slice bo bn bc, .slice mo mn mc, .int .i64 N] 65)))
    have B0 := Lib.hid (hB.alloc (.cells #[.int .u8 kd, .slice bo bn bc, .slice mo mn mc, .int .i64 N] 65))
    have M0 := Lib.hid (hM.below (below_alloc w (.cells #[.int .u8 kd, .slice bo bn bc, .slice mo mn mc, .int .i64 N] 65)))
    have HBN := Lib.hid hbn
    have HMN := Lib.hid hmn
    clear hT hB hM hbn hmn
    go_enter Try.func39, Try.ntmps39
    go_wp2_with fail
    go_ret
    unfold RCallR
    rw [HR.out]
    exact ⟨rfl, T0.out, but_of (below_alloc w _)⟩
theorem act_any (off : Bool) (fuse : Int) (b : List Int) (k : Nat) (kd N : Int) (B : List Int) (ms : List (List Int)) (hN : N ≤ 9223372036854775807) (hsm : ms.length ≤ 40) (h0 : 0 ≤ kd) : SameAct off fuse b k kd N B ms := by
  have a1 := Int.tmod_lt_of_pos kd (show (0 : Int) < 7 by omega)
  have a2 := Int.tmod_nonneg 7 h0
  have : kd.tmod 7 = 0 ∨ kd.tmod 7 = 1 ∨ kd.tmod 7 = 2 ∨ kd.tmod 7 = 3 ∨ kd.tmod 7 = 4 ∨ kd.tmod 7 = 5 ∨ kd.tmod 7 = 6 := by omega
  rcases this with h | h | h | h | h | h | h
  · exact act0 off fuse b k kd N B ms hN hsm h
  · exact act1 off fuse b k kd N B ms hN hsm h
  · exact act2 off fuse b k kd N B ms hN hsm h
  · exact act3 off fuse b k kd N B ms hN hsm h
  · cases off
    · exact act4b fuse b k kd N B ms hN hsm h
    · exact act4a fuse b k kd N B ms hN hsm h
  · cases off
    · by_cases hf : Few (B :: ms)
      · exact act5b fuse b k kd N B ms hN hsm h hf
      · exact act5c fuse b k kd N B ms hN hsm h hf
    · exact act5a fuse b k kd N B ms hN hsm h
  · exact act6 off fuse b k kd N B ms hN hsm h
end Go.Proofs.Ytaniflbhkddlhaa
