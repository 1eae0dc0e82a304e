/- What is free during a span: plain facts. No condition. -/
import Derived.Test.YtnnkibdjbodncaaDoorSa
namespace Go.Proofs.YtnnkibdjbodncaaDoor
open Go.RowKit
/-- A job that waits. -/
structure Wi where
  id : Nat
  n : Nat
  long : Nat
  of : Nat
/-- What is free during all of a span. -/
def inter (F : Int → Nat) (a : Int) : Nat → Nat
  | 0 => 255
  | k + 1 => inter F a k &&& F (a + k)
def avail (F : Int → Nat) (w : Wi) (t : Int) : Nat := inter F t w.long &&& w.of
def taken (F : Int → Nat) (S : Nat) (a : Int) (k : Nat) : Int → Nat := fun t => if a ≤ t ∧ t < a + k then minus (F t) S else F t
theorem bit_inter {F : Int → Nat} {a : Int} {i : Nat} : ∀ k, (inter F a k).testBit i = true ↔ i < 8 ∧ ∀ j : Nat, j < k → (F (a + j)).testBit i = true
  | 0 => by
    simp only [inter, Nat.not_lt_zero, false_imp_iff, implies_true, and_true]
    constructor
    · exact bit_lt (by omega)
    · intro h
      rw [show (255 : Nat) = 2 ^ 8 - 1 by rfl, Nat.testBit_two_pow_sub_one]
      simpa using h
  | k + 1 => by
    rw [inter, Nat.testBit_and, Bool.and_eq_true, bit_inter k]
    constructor
    · rintro ⟨⟨h8, h⟩, hk⟩
      refine ⟨h8, fun j hj => ?_⟩
      rcases Nat.lt_or_ge j k with h' | h'
      · exact h j h'
      · obtain rfl : j = k := by omega
        exact hk
    · rintro ⟨h8, h⟩
      exact ⟨⟨h8, fun j hj => h j (by omega)⟩, h k (by omega)⟩
theorem inter_lt (F : Int → Nat) (a : Int) : ∀ k, inter F a k < 256
  | 0 => by simp [inter]
  | k + 1 => and_lt (inter_lt F a k)
theorem avail_lt (F : Int → Nat) (w : Wi) (t : Int) : avail F w t < 256 := and_lt (inter_lt _ _ _)
theorem avail_mono {F G : Int → Nat} {w : Wi} {t : Int} (h : ∀ j : Nat, j < w.long → SubS (G (t + j)) (F (t + j))) : SubS (avail G w t) (avail F w t) := by
  intro i hi
  unfold avail at hi ⊢
  rw [Nat.testBit_and, Bool.and_eq_true, bit_inter] at hi ⊢
  exact ⟨⟨hi.1.1, fun j hj => h j hj i (hi.1.2 j hj)⟩, hi.2⟩
theorem avail_congr {F G : Int → Nat} {w : Wi} {t : Int} (h : ∀ j : Nat, j < w.long → F (t + j) = G (t + j)) : avail F w t = avail G w t :=
  sub_antisymm (avail_mono fun j hj => by rw [h j hj]; exact SubS.refl _) (avail_mono fun j hj => by rw [h j hj]; exact SubS.refl _)
theorem taken_lt {F : Int → Nat} (h : ∀ t, F t < 256) (S : Nat) (a : Int) (k : Nat) : ∀ t, taken F S a k t < 256 := by
  intro t
  unfold taken
  split
  · exact minus_lt (h t)
  · exact h t
theorem taken_sub (F : Int → Nat) (S : Nat) (a : Int) (k : Nat) (t : Int) : SubS (taken F S a k t) (F t) := by
  intro i hi
  unfold taken at hi
  split at hi
  · unfold minus at hi
    rw [Nat.testBit_and, Bool.and_eq_true] at hi
    exact hi.1
  · exact hi
theorem bit_taken {F : Int → Nat} (h : ∀ t, F t < 256) {S : Nat} (hS : S < 256) (a : Int) (k : Nat) (t : Int) (i : Nat) :
    (taken F S a k t).testBit i = true ↔ (F t).testBit i = true ∧ (a ≤ t → t < a + k → S.testBit i = false) := by
  unfold taken
  split
  · rename_i hc
    rw [bit_minus (h t) hS]
    simp [hc.1, hc.2]
  · rename_i hc
    constructor
    · exact fun hb => ⟨hb, fun h1 h2 => absurd ⟨h1, h2⟩ hc⟩
    · exact fun hb => hb.1
end Go.Proofs.YtnnkibdjbodncaaDoor
