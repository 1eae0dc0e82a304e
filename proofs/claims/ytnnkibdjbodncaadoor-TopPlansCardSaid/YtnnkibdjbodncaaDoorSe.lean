/- The earliest time, found piece by piece: plain facts. No condition. -/
import Derived.Test.YtnnkibdjbodncaaDoorSd
import Derived.Test.YtnnkibdjbodncaaDoorSc
namespace Go.Proofs.YtnnkibdjbodncaaDoor
open Go.RowKit
theorem avail_piece {l : List St} {now : Int} {F : Int → Nat} {w : Wi} (h : Lay l now 2199023255552 F) (hw : 1 ≤ w.long) {i : Nat} {s : St} {t : Int} (hs : l[i]? = some s) (h1 : s.1 ≤ t) (h2 : t < 2199023255552)
    (h3 : ∀ s', l[i + 1]? = some s' → t < s'.1) : SubS (avail F w t) (avail F w s.1) := by
  intro b hb
  unfold avail at hb ⊢
  rw [Nat.testBit_and, Bool.and_eq_true, bit_inter] at hb ⊢
  refine ⟨⟨hb.1.1, fun j hj => ?_⟩, hb.2⟩
  by_cases hc : s.1 + j ≤ t
  · have e1 := h.val i s hs (s.1 + j) (by omega) (by omega) fun s' hs' => by have := h3 s' hs'; omega
    have e2 := h.val i s hs t h1 h2 h3
    have e : F (s.1 + j) = F t := by omega
    rw [e]
    have := hb.1.2 0 (by omega)
    simpa using this
  · have := hb.1.2 (s.1 + j - t).toNat (by omega)
    rwa [show t + ((s.1 + j - t).toNat : Int) = s.1 + j by omega] at this
theorem scan_none {l : List St} {now : Int} {F : Int → Nat} {w : Wi} (h : Lay l now 2199023255552 F) (hw : 1 ≤ w.long) (hf : ∀ (i : Nat) (s : St), l[i]? = some s → popN (avail F w s.1) < w.n) : ∀ t, now ≤ t → t < 1099511627776 → popN (avail F w t) < w.n := by
  intro t h1 h2
  obtain ⟨s, hs, hst, hp, _⟩ := h.piece h1 (show t < 2199023255552 by omega)
  refine Nat.lt_of_le_of_lt (pop_mono (avail_piece h hw hs hst (by omega) fun s' hs' => ?_)) (hf _ s hs)
  rw [show nUpto l t - 1 + 1 = nUpto l t by omega] at hs'
  have := upto_iff h.rising hs' (t := t)
  omega
theorem scan_some {l : List St} {now : Int} {F : Int → Nat} {w : Wi} (h : Lay l now 2199023255552 F) (hw : 1 ≤ w.long) {k : Nat} {s : St} (hs : l[k]? = some s) (hH : s.1 < 1099511627776) (hn : w.n ≤ popN (avail F w s.1))
    (hf : ∀ (i : Nat) (s' : St), i < k → l[i]? = some s' → popN (avail F w s'.1) < w.n) : Best F now w s.1 (firstN (avail F w s.1) w.n) := by
  refine ⟨(h.before s (List.mem_of_getElem? hs)).1, firstN_low (avail_lt _ _ _) hn, fun t h1 h2 => ?_, hH⟩
  obtain ⟨q, hq, hqt, hp, _⟩ := h.piece h1 (show t < 2199023255552 by omega)
  refine Nat.lt_of_le_of_lt (pop_mono (avail_piece h hw hq hqt (by omega) fun s' hs' => ?_)) (hf _ q ?_ hq)
  · rw [show nUpto l t - 1 + 1 = nUpto l t by omega] at hs'
    have := upto_iff h.rising hs' (t := t)
    omega
  · have a := upto_iff h.rising hs (t := t)
    omega
end Go.Proofs.YtnnkibdjbodncaaDoor
