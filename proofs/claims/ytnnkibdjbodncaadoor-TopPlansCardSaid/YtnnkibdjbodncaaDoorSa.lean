/- Sets of the numbers below eight, and which of them come first: plain facts. No condition. -/
import Derived.Test.YtnnkibdjbodncaaDoorF
namespace Go.Proofs.YtnnkibdjbodncaaDoor
open Go.RowKit
def SubS (x y : Nat) : Prop := ∀ i, x.testBit i = true → y.testBit i = true
/-- A set without another. -/
def minus (x s : Nat) : Nat := x &&& (18446744073709551615 - s)
theorem SubS.refl (x : Nat) : SubS x x := fun _ h => h
theorem SubS.trans {x y z : Nat} (h : SubS x y) (k : SubS y z) : SubS x z := fun i hi => k i (h i hi)
theorem bit_small {x i : Nat} (hx : x < 256) (hi : 8 ≤ i) : x.testBit i = false :=
  Nat.testBit_lt_two_pow (Nat.lt_of_lt_of_le hx (show 2 ^ 8 ≤ 2 ^ i from Nat.pow_le_pow_right (by omega) hi))
theorem bit_lt {x i : Nat} (hx : x < 256) (h : x.testBit i = true) : i < 8 := by
  rcases Nat.lt_or_ge i 8 with h8 | h8
  · exact h8
  · rw [bit_small hx h8] at h; cases h
theorem bit_minus {x s : Nat} (hx : x < 256) (hs : s < 256) (i : Nat) : (minus x s).testBit i = (x.testBit i && !s.testBit i) := by
  unfold minus
  rw [Nat.testBit_and, show 18446744073709551615 - s = 2 ^ 64 - (s + 1) by omega, Nat.testBit_two_pow_sub_succ (by omega)]
  by_cases h : i < 64
  · simp [h]
  · rw [bit_small hx (by omega)]; rfl
theorem minus_lt {x s : Nat} (hx : x < 256) : minus x s < 256 := Nat.lt_of_le_of_lt Nat.and_le_left hx
theorem and_lt {x s : Nat} (hx : x < 256) : x &&& s < 256 := Nat.lt_of_le_of_lt Nat.and_le_left hx
theorem small_ext {x y : Nat} (hx : x < 256) (hy : y < 256) (h : ∀ i, i < 8 → x.testBit i = y.testBit i) : x = y := by
  apply Nat.eq_of_testBit_eq
  intro i
  rcases Nat.lt_or_ge i 8 with h8 | h8
  · exact h i h8
  · rw [bit_small hx h8, bit_small hy h8]
theorem filter_mono (p q : Nat → Bool) (h : ∀ i, p i = true → q i = true) : ∀ l : List Nat, (l.filter p).length ≤ (l.filter q).length
  | [] => Nat.le_refl _
  | a :: l => by
    have ih := filter_mono p q h l
    rw [List.filter_cons, List.filter_cons]
    by_cases hp : p a = true
    · rw [if_pos hp, if_pos (h a hp)]; simpa using ih
    · rw [if_neg hp]
      by_cases hq : q a = true
      · rw [if_pos hq]; simp; omega
      · rw [if_neg hq]; exact ih
theorem filter_same (p q : Nat → Bool) (h : ∀ i, p i = true → q i = true) : ∀ l : List Nat, (l.filter q).length ≤ (l.filter p).length → ∀ i ∈ l, q i = true → p i = true
  | [], _, _, hi, _ => by cases hi
  | a :: l, hl, i, hi, hq => by
    have hm := filter_mono p q h l
    rw [List.filter_cons, List.filter_cons] at hl
    by_cases hp : p a = true
    · rw [if_pos hp, if_pos (h a hp)] at hl
      simp only [List.length_cons] at hl
      rcases List.mem_cons.1 hi with rfl | hi
      · exact hp
      · exact filter_same p q h l (by omega) i hi hq
    · rw [if_neg hp] at hl
      by_cases hqa : q a = true
      · rw [if_pos hqa] at hl
        simp only [List.length_cons] at hl
        omega
      · rw [if_neg hqa] at hl
        rcases List.mem_cons.1 hi with rfl | hi
        · exact absurd hq hqa
        · exact filter_same p q h l hl i hi hq
theorem pop_mono {x y : Nat} (h : SubS x y) : popN x ≤ popN y := filter_mono _ _ h _
theorem pop_same {x y : Nat} (hy : y < 256) (h : SubS x y) (hp : popN y ≤ popN x) : SubS y x := fun i hi =>
  filter_same _ _ h _ hp i (List.mem_range.2 (bit_lt hy hi)) hi
theorem sub_antisymm {x y : Nat} (h : SubS x y) (k : SubS y x) : x = y := by
  apply Nat.eq_of_testBit_eq
  intro i
  cases hx : x.testBit i with
  | true => exact (h i hx).symm
  | false =>
    cases hy : y.testBit i with
    | true => rw [k i hy] at hx; cases hx
    | false => rfl
/-- The lowest n of a set. -/
structure IsLow (n x S : Nat) : Prop where
  small : S < 256
  sub : SubS S x
  count : popN S = n
  low : ∀ i j, x.testBit i = true → S.testBit i = false → S.testBit j = true → j < i
theorem IsLow.within {n x y S : Nat} (h : IsLow n x S) (h1 : SubS S y) (h2 : SubS y x) : IsLow n y S := ⟨h.small, h1, h.count, fun i j hi => h.low i j (h2 i hi)⟩
theorem not_sub {x y : Nat} (h : ¬ SubS x y) : ∃ i, x.testBit i = true ∧ y.testBit i = false := by
  refine Classical.byContradiction fun hn => h fun i hi => ?_
  cases hy : y.testBit i with
  | true => rfl
  | false => exact absurd ⟨i, hi, hy⟩ hn
theorem IsLow.unique {n x S S' : Nat} (h : IsLow n x S) (h' : IsLow n x S') : S = S' := by
  by_cases h1 : SubS S S'
  · exact sub_antisymm h1 (pop_same h'.small h1 (by rw [h.count, h'.count]; exact Nat.le_refl _))
  · by_cases h2 : SubS S' S
    · exact sub_antisymm (pop_same h.small h2 (by rw [h.count, h'.count]; exact Nat.le_refl _)) h2
    · obtain ⟨i, hi, hi'⟩ := not_sub h1
      obtain ⟨j, hj, hj'⟩ := not_sub h2
      have a := h'.low i j (h.sub i hi) hi' hj
      have b := h.low j i (h'.sub j hj) hj' hi
      omega
theorem IsLow.pop {n x S : Nat} (h : IsLow n x S) : n ≤ popN x := by rw [← h.count]; exact pop_mono h.sub
/-- The lowest n of a set, as the code reckons them. -/
def firstN (x n : Nat) : Nat := if popN x = n then x else x &&& (2 ^ nthN x n - 1)
theorem firstN_all : ∀ (x : Fin 256) (n : Fin 9), n.val ≤ popN x.val → firstN x.val n.val < 256 ∧ popN (firstN x.val n.val) = n.val ∧ ∀ i : Fin 8, ((firstN x.val n.val).testBit i.val = true → x.val.testBit i.val = true) ∧ ∀ j : Fin 8, x.val.testBit i.val = true → (firstN x.val n.val).testBit i.val = false → (firstN x.val n.val).testBit j.val = true → j.val < i.val := by decide +kernel
theorem firstN_low {x n : Nat} (hx : x < 256) (hn : n ≤ popN x) : IsLow n x (firstN x n) := by
  have hp := popN_le x
  obtain ⟨h1, h2, h3⟩ := firstN_all ⟨x, hx⟩ ⟨n, by omega⟩ hn
  refine ⟨h1, fun i hi => (h3 ⟨i, bit_lt h1 hi⟩).1 hi, h2, fun i j hi hi' hj => (h3 ⟨i, bit_lt hx hi⟩).2 ⟨j, bit_lt h1 hj⟩ hi hi' hj⟩
end Go.Proofs.YtnnkibdjbodncaaDoor
