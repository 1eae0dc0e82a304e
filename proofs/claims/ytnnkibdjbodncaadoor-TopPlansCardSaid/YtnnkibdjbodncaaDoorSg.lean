/- The scene that the statement begins with: plain facts. No condition. -/
import Derived.Test.YtnnkibdjbodncaaDoorSf
namespace Go.Proofs.YtnnkibdjbodncaaDoor
open Go.RowKit
/-- The runs that the statement makes, and what they leave free. -/
def runsOf (now : Int) : Nat → List (Nat × Nat) → List Ru
  | _, [] => []
  | fr, b :: r => (fr &&& b.1, now + ((b.2 % 40 : Nat) : Int) + 1) :: runsOf now (minus fr (fr &&& b.1)) r
def freeOf : Nat → List (Nat × Nat) → Nat
  | fr, [] => fr
  | fr, b :: r => freeOf (minus fr (fr &&& b.1)) r
theorem runs_snoc (now : Int) (b : Nat × Nat) : ∀ (l : List (Nat × Nat)) (fr : Nat), runsOf now fr (l ++ [b]) = runsOf now fr l ++ [(freeOf fr l &&& b.1, now + ((b.2 % 40 : Nat) : Int) + 1)]
  | [], fr => rfl
  | a :: l, fr => by simp [runsOf, freeOf, runs_snoc now b l]
theorem free_snoc (b : Nat × Nat) : ∀ (l : List (Nat × Nat)) (fr : Nat), freeOf fr (l ++ [b]) = minus (freeOf fr l) (freeOf fr l &&& b.1)
  | [], fr => rfl
  | a :: l, fr => by simp [freeOf, free_snoc b l]
theorem freeOf_lt : ∀ (l : List (Nat × Nat)) (fr : Nat), fr < 256 → freeOf fr l < 256
  | [], _, h => h
  | _ :: l, _, h => freeOf_lt l _ (minus_lt h)
theorem runs_len (now : Int) : ∀ (l : List (Nat × Nat)) (fr : Nat), (runsOf now fr l).length = l.length
  | [], _ => rfl
  | _ :: l, _ => by simp [runsOf, runs_len now l]
theorem runs_mem (now : Int) : ∀ (l : List (Nat × Nat)) (fr : Nat), fr < 256 → ∀ r ∈ runsOf now fr l, r.1 < 256 ∧ SubS r.1 fr ∧ now < r.2 ∧ r.2 ≤ now + 40
  | [], _, _, r, hr => by simp [runsOf] at hr
  | a :: l, fr, h, r, hr => by
    rcases List.mem_cons.1 hr with rfl | hr
    · refine ⟨and_lt h, fun i hi => ?_, ?_, ?_⟩
      · rw [Nat.testBit_and, Bool.and_eq_true] at hi; exact hi.1
      · simp only; omega
      · simp only; omega
    · obtain ⟨h1, h2, h3, h4⟩ := runs_mem now l _ (minus_lt h) r hr
      refine ⟨h1, fun i hi => ?_, h3, h4⟩
      have := h2 i hi
      rw [bit_minus h (and_lt h), Bool.and_eq_true] at this
      exact this.1
theorem runs_apart (now : Int) : ∀ (l : List (Nat × Nat)) (fr : Nat), fr < 256 → Apart (runsOf now fr l)
  | [], _, _ => List.Pairwise.nil
  | a :: l, fr, h => by
    refine List.Pairwise.cons (fun r hr i hi => ?_) (runs_apart now l _ (minus_lt h))
    cases hri : r.1.testBit i with
    | false => rfl
    | true =>
      have := (runs_mem now l _ (minus_lt h) r hr).2.1 i hri
      rw [bit_minus h (and_lt h), Bool.and_eq_true, Bool.not_eq_true'] at this
      simp only at hi
      rw [hi] at this
      cases this.2
theorem runs_sc (now : Int) (l : List (Nat × Nat)) : Sc 255 now (runsOf now 255 l) :=
  ⟨fun r hr => (runs_mem now l 255 (by omega) r hr).1, fun r hr => (runs_mem now l 255 (by omega) r hr).2.1, fun r hr => (runs_mem now l 255 (by omega) r hr).2.2.1, runs_apart now l 255 (by omega)⟩
/-- The wishes that the statement makes. -/
def wishOf (i : Nat) (x : Nat × Nat × Nat) : Wi := ⟨i + 1, x.1 % 8 + 1, x.2.1 % 30 + 1, x.2.2 ||| 129⟩
def wishesOf : Nat → List (Nat × Nat × Nat) → List Wi
  | _, [] => []
  | i, x :: r => wishOf i x :: wishesOf (i + 1) r
theorem wishes_snoc (x : Nat × Nat × Nat) : ∀ (l : List (Nat × Nat × Nat)) (i : Nat), wishesOf i (l ++ [x]) = wishesOf i l ++ [wishOf (i + l.length) x]
  | [], i => rfl
  | a :: l, i => by
    simp only [List.cons_append, wishesOf, wishes_snoc x l (i + 1), List.length_cons]
    rw [show i + 1 + l.length = i + (l.length + 1) by omega]
theorem wishes_len : ∀ (l : List (Nat × Nat × Nat)) (i : Nat), (wishesOf i l).length = l.length
  | [], _ => rfl
  | a :: l, i => by simp [wishesOf, wishes_len l]
theorem wishes_mem : ∀ (l : List (Nat × Nat × Nat)) (i : Nat), (∀ x ∈ l, x.2.2 < 256) → ∀ w ∈ wishesOf i l, i + 1 ≤ w.id ∧ w.id ≤ i + l.length ∧ 1 ≤ w.n ∧ w.n ≤ 8 ∧ 1 ≤ w.long ∧ w.long ≤ 30 ∧ w.of < 256
  | [], _, _, w, hw => by simp [wishesOf] at hw
  | a :: l, i, h, w, hw => by
    rcases List.mem_cons.1 hw with rfl | hw
    · have ha := h a (by simp)
      refine ⟨Nat.le_refl _, ?_, ?_, ?_, ?_, ?_, ?_⟩ <;> simp only [wishOf, List.length_cons]
      · omega
      · omega
      · omega
      · omega
      · omega
      · exact Nat.or_lt_two_pow (n := 8) ha (by omega)
    · obtain ⟨h1, h2, h3⟩ := wishes_mem l (i + 1) (fun x hx => h x (by simp [hx])) w hw
      exact ⟨by omega, by simp only [List.length_cons]; omega, h3⟩
theorem wishes_ids : ∀ (l : List (Nat × Nat × Nat)) (i : Nat), (∀ x ∈ l, x.2.2 < 256) → (wishesOf i l).Pairwise fun a b => a.id ≠ b.id
  | [], _, _ => List.Pairwise.nil
  | a :: l, i, h => by
    refine List.Pairwise.cons (fun w hw => ?_) (wishes_ids l (i + 1) (fun x hx => h x (by simp [hx])))
    have := (wishes_mem l (i + 1) (fun x hx => h x (by simp [hx])) w hw).1
    simp only [wishOf]; omega
end Go.Proofs.YtnnkibdjbodncaaDoor
