/- What a tape has behind a record that is logged while the power may fail: in plain Lean. -/
import Derived.Test.YtaniflbhkddlhaaTg
namespace Go.Proofs.Ytaniflbhkddlhaa
open Go.RowKit
def Short (W : List (List Int)) : Prop := ∀ r ∈ W, r.length ≤ 300
theorem Short.few {W : List (List Int)} (h : Short W) : Few W := fun x hx => by have := h x hx; omega
theorem Short.snoc {W : List (List Int)} {B : List Int} (h : Short W) (hB : B.length ≤ 300) : Short (W ++ [B]) := fun x hx => by
  rcases List.mem_append.1 hx with hx | hx
  · exact h x hx
  · simp at hx; subst hx; exact hB
theorem short_lay : ∀ (W : List (List Int)), Short W → (layL W).length ≤ 312 * W.length
  | [], _ => by simp [layL_nil]
  | x :: r, h => by
    have h1 := short_lay r fun y hy => h y (List.mem_cons_of_mem _ hy)
    have h2 := h x (List.mem_cons_self ..)
    rw [layL_cons, List.length_append, encL_len, List.length_cons]
    omega
theorem logB_one (x : List Int) : logB [x] = encL x := by simp [logB, logStep]
theorem kept_ok (f : Int) (b x : List Int) (h : b.length + (encL x).length ≤ 1048576) (hf : f = -1 ∨ 2 ≤ f) : logR f b b.length (logB [x]) = (0, false, if f = -1 then -1 else f - 2, b ++ encL x, (b ++ encL x).length) := by
  have hc : logC f b (encL x) = (0, false, if f = -1 then -1 else f - 1) := by
    unfold logC fitsR burnR
    rw [if_neg (by decide), if_neg (by omega)]
    rcases hf with rfl | hf
    · rfl
    · rw [if_neg (by omega), if_neg (by omega), if_neg (by omega)]
  rw [logB_one]
  unfold logR
  rw [hc, if_pos rfl]
  rcases hf with rfl | hf
  · rfl
  · have e : fitsR false (f - 1) 0 0 = (0, false, f - 2) := by
      unfold fitsR burnR
      rw [if_neg (by decide), if_neg (by omega), if_neg (by omega), if_neg (by omega)]
      simp; omega
    simp only [if_neg (show ¬ f = -1 by omega)]
    rw [e]
    simp
theorem kept_zero (b x : List Int) (k : Nat) (h : b.length + (encL x).length ≤ 1048576) : logR 0 b k (logB [x]) = (10, true, 0, b, k) := by
  have hc : logC 0 b (encL x) = (10, true, 0) := by
    unfold logC fitsR burnR
    rw [if_neg (by decide), if_neg (by omega), if_neg (by omega), if_pos rfl]
  rw [logB_one]
  unfold logR
  rw [hc, if_neg (by decide)]
theorem kept_one (b x : List Int) (k : Nat) (h : b.length + (encL x).length ≤ 1048576) : logR 1 b k (logB [x]) = (10, true, 0, b ++ encL x, k) := by
  have hc : logC 1 b (encL x) = (0, false, 0) := by
    unfold logC fitsR burnR
    rw [if_neg (by decide), if_neg (by omega), if_neg (by omega), if_neg (by omega)]
    rfl
  rw [logB_one]
  unfold logR
  rw [hc, if_pos rfl]
  rfl
theorem whole_ge : ∀ (W R : List (List Int)) (n : Nat), (layL W).length ≤ n → W.length ≤ (wholeL (W ++ R) n).1
  | [], R, n, _ => by simp
  | x :: r, R, n, h => by
    rw [layL_cons, List.length_append, encL_len] at h
    have := whole_ge r R (n - (x.length + 12)) (by omega)
    rw [List.cons_append]
    unfold wholeL
    rw [if_pos (by omega)]
    simp only [List.length_cons]
    omega
theorem torn (W : List (List Int)) (B : List Int) (d : Nat) (hW : Short W) (hB : B.length ≤ 300) :
    (allL ((layL W ++ encL B).take ((layL W).length + d))).1 = W ∨ (allL ((layL W ++ encL B).take ((layL W).length + d))).1 = W ++ [B] := by
  have hf := (hW.snoc hB).few
  rw [← layL_snoc, all_cut _ _ hf]
  have h1 := whole_ge W [B] ((layL W).length + d) (by omega)
  have h2 := (whole_le (W ++ [B]) ((layL W).length + d)).1
  rw [List.length_append, List.length_singleton] at h2
  rcases Nat.lt_or_ge W.length (wholeL (W ++ [B]) ((layL W).length + d)).1 with h | h
  · right
    exact List.take_of_length_le (by rw [List.length_append, List.length_singleton]; omega)
  · left
    have e : (wholeL (W ++ [B]) ((layL W).length + d)).1 = W.length := by omega
    simp only [e]
    simp
end Go.Proofs.Ytaniflbhkddlhaa
