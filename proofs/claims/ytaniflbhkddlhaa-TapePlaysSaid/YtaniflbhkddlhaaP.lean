/-
  Plain laws of frames: numbers of bytes, sums. No program in sight; no condition.
-/
import Derived.Laws.BitsAllLaws
import Derived.Laws.Bits64b
namespace Go.Proofs.Ytaniflbhkddlhaa

/-- the number of some bytes, the lowest first -/
def wordL : List Int → Int
  | [] => 0
  | c :: r => c + 256 * wordL r
def Byte (l : List Int) : Prop := ∀ x ∈ l, 0 ≤ x ∧ x ≤ 255
theorem Byte.take {l : List Int} (h : Byte l) (k : Nat) : Byte (l.take k) := fun x hx => h x (List.mem_of_mem_take hx)
theorem Byte.drop {l : List Int} (h : Byte l) (k : Nat) : Byte (l.drop k) := fun x hx => h x (List.mem_of_mem_drop hx)
theorem Byte.append {l m : List Int} (h : Byte l) (k : Byte m) : Byte (l ++ m) := fun x hx => (List.mem_append.1 hx).elim (h x) (k x)
theorem wordL_nonneg : ∀ {l : List Int}, Byte l → 0 ≤ wordL l
  | [], _ => by simp [wordL]
  | c :: r, h => by
    have h1 := wordL_nonneg (l := r) fun x hx => h x (List.mem_cons_of_mem _ hx)
    have h2 := h c (List.mem_cons_self ..)
    simp only [wordL]
    omega
theorem wordL_lt : ∀ {l : List Int}, Byte l → wordL l < 256 ^ l.length
  | [], _ => by simp [wordL]
  | c :: r, h => by
    have h1 := wordL_lt (l := r) fun x hx => h x (List.mem_cons_of_mem _ hx)
    have h2 := h c (List.mem_cons_self ..)
    simp only [wordL, List.length_cons]
    have e : (256 : Int) ^ (r.length + 1) = 256 * 256 ^ r.length := by rw [Int.pow_succ, Int.mul_comm]
    rw [e]
    generalize (256 : Int) ^ r.length = p at *
    omega
theorem wordL_snoc : ∀ (l : List Int) (c : Int), wordL (l ++ [c]) = wordL l + c * 256 ^ l.length
  | [], c => by simp [wordL]
  | x :: r, c => by
    have e : (256 : Int) ^ (r.length + 1) = 256 * 256 ^ r.length := by rw [Int.pow_succ, Int.mul_comm]
    simp only [List.cons_append, wordL, wordL_snoc r c, List.length_cons]
    rw [e, Int.mul_add, ← Int.mul_assoc, ← Int.mul_assoc, Int.mul_comm 256 c, Int.add_assoc]
theorem wordL_take (l : List Int) (k : Nat) (h : k < l.length) : wordL (l.take (k + 1)) = wordL (l.take k) + l.getD k 0 * 256 ^ k := by
  rw [List.take_succ_eq_append_getElem h, wordL_snoc]
  simp [List.getD, h, Nat.min_eq_left (Nat.le_of_lt h)]
theorem wrap_u64 (n : Int) : IntKind.u64.wrap n = n % 18446744073709551616 := by
  simp [IntKind.wrap, IntKind.bits, IntKind.signed]
theorem or_high (x c k : Nat) (hk : k ≤ 7) (hx : x < 256 ^ k) (hc : c ≤ 255) : bits .or .u64 (x : Int) (IntKind.u64.wrap ((c : Int) * 2 ^ (8 * k))) = (x : Int) + c * 256 ^ k := by
  have e256 : (256 : Nat) ^ k = 2 ^ (8 * k) := by rw [Nat.pow_mul]
  have hp : (2 : Nat) ^ (8 * k) ≤ 2 ^ 56 := Nat.pow_le_pow_right (by omega) (by omega)
  rw [e256] at hx
  have hle : c * 2 ^ (8 * k) ≤ 255 * 2 ^ 56 := Nat.mul_le_mul hc hp
  have hlt : c * 2 ^ (8 * k) < 18446744073709551616 := by omega
  have e1 : (c : Int) * 2 ^ (8 * k) = ((c * 2 ^ (8 * k) : Nat) : Int) := by simp
  have e2 : (c : Int) * 256 ^ k = ((c * 2 ^ (8 * k) : Nat) : Int) := by rw [← e256]; simp
  rw [e2, e1, wrap_u64]
  have e3 : ((c * 2 ^ (8 * k) : Nat) : Int) % 18446744073709551616 = ((c * 2 ^ (8 * k) : Nat) : Int) := by omega
  rw [e3, u64_or_nat x _ (by omega) hlt, Nat.or_comm, Nat.mul_comm c, ← Nat.two_pow_add_eq_or_of_lt hx c]
  omega
theorem word_step (l : List Int) (hl : Byte l) (k : Nat) (hk : k < l.length) (h8 : l.length ≤ 8) :
    bits .or .u64 (wordL (l.take k)) (IntKind.u64.wrap (l.getD k 0 * 2 ^ (8 * k))) = wordL (l.take (k + 1)) := by
  rw [wordL_take l k hk]
  have h0 := wordL_nonneg (hl.take k)
  have h1 := wordL_lt (hl.take k)
  have hlen : (l.take k).length = k := by simp; omega
  rw [hlen] at h1
  have hc : 0 ≤ l.getD k 0 ∧ l.getD k 0 ≤ 255 := hl _ (by simp [List.getD, hk])
  generalize wordL (l.take k) = x at *
  generalize l.getD k 0 = c at *
  obtain ⟨x, rfl⟩ := Int.eq_ofNat_of_zero_le h0
  obtain ⟨c, rfl⟩ := Int.eq_ofNat_of_zero_le hc.1
  have h1' : x < 256 ^ k := by
    have : ((x : Nat) : Int) < ((256 ^ k : Nat) : Int) := by simpa using h1
    exact Int.ofNat_lt.1 this
  exact or_high x c k (by omega) h1' (by omega)
/-- One word of a sum. -/
def stepLo (lo : Int) (c : List Int) : Int := (lo + wordL c) % 4294967295
def stepHi (lo hi : Int) (c : List Int) : Int := (hi + stepLo lo c) % 4294967295
def sumGo (l : List Int) (lo hi : Int) : Int × Int :=
  if _h : l = [] then (lo, hi) else sumGo (l.drop 4) (stepLo lo (l.take 4)) (stepHi lo hi (l.take 4))
termination_by l.length
decreasing_by
  have : 0 < l.length := List.length_pos_iff.2 (by assumption)
  simp
  omega
theorem sumGo_nil (lo hi : Int) : sumGo [] lo hi = (lo, hi) := by unfold sumGo; simp
theorem sumGo_more (l : List Int) (lo hi : Int) (h : l ≠ []) : sumGo l lo hi = sumGo (l.drop 4) (stepLo lo (l.take 4)) (stepHi lo hi (l.take 4)) := by
  conv => lhs; unfold sumGo
  rw [dif_neg h]
/-- The sum of some bytes. -/
def sumL (l : List Int) : Int := (sumGo l ((l.length : Int) % 4294967295) 0).2 * 4294967296 + (sumGo l ((l.length : Int) % 4294967295) 0).1
theorem stepLo_range (lo : Int) (c : List Int) : 0 ≤ stepLo lo c ∧ stepLo lo c < 4294967295 := by unfold stepLo; omega
theorem stepHi_range (lo hi : Int) (c : List Int) : 0 ≤ stepHi lo hi c ∧ stepHi lo hi c < 4294967295 := by unfold stepHi; omega
theorem word_small (c : List Int) (h : Byte c) (h4 : c.length ≤ 4) : 0 ≤ wordL c ∧ wordL c < 4294967296 := by
  refine ⟨wordL_nonneg h, ?_⟩
  have h1 := wordL_lt h
  have : c.length = 0 ∨ c.length = 1 ∨ c.length = 2 ∨ c.length = 3 ∨ c.length = 4 := by omega
  rcases this with e | e | e | e | e <;> rw [e] at h1 <;> simp at h1 <;> omega
theorem or_sum (lo hi : Int) (h0 : 0 ≤ lo) (h1 : lo < 4294967296) (h2 : 0 ≤ hi) (h3 : hi < 4294967296) :
    bits .or .u64 (IntKind.u64.wrap (hi * 4294967296)) lo = hi * 4294967296 + lo := by
  obtain ⟨lo, rfl⟩ := Int.eq_ofNat_of_zero_le h0
  obtain ⟨hi, rfl⟩ := Int.eq_ofNat_of_zero_le h2
  have e : IntKind.u64.wrap ((hi : Int) * 4294967296) = ((2 ^ 32 * hi : Nat) : Int) := by rw [wrap_u64]; omega
  rw [e, u64_or_nat _ _ (by omega) (by omega), ← Nat.two_pow_add_eq_or_of_lt (by omega : lo < 2 ^ 32) hi]
  omega
theorem sumGo_range : ∀ (n : Nat) (l : List Int) (lo hi : Int), l.length ≤ n → 0 ≤ lo → lo < 4294967295 → 0 ≤ hi → hi < 4294967295 →
    0 ≤ (sumGo l lo hi).1 ∧ (sumGo l lo hi).1 < 4294967295 ∧ 0 ≤ (sumGo l lo hi).2 ∧ (sumGo l lo hi).2 < 4294967295
  | 0, l, lo, hi, hn, h0, h1, h2, h3 => by
    obtain rfl : l = [] := List.eq_nil_of_length_eq_zero (by omega)
    rw [sumGo_nil]; exact ⟨h0, h1, h2, h3⟩
  | n + 1, l, lo, hi, hn, h0, h1, h2, h3 => by
    by_cases h : l = []
    · subst h; rw [sumGo_nil]; exact ⟨h0, h1, h2, h3⟩
    · rw [sumGo_more l lo hi h]
      have a := stepLo_range lo (l.take 4)
      have b := stepHi_range lo hi (l.take 4)
      have : 0 < l.length := List.length_pos_iff.2 (by assumption)
      exact sumGo_range n (l.drop 4) _ _ (by simp; omega) a.1 a.2 b.1 b.2
theorem sumL_range (l : List Int) : 0 ≤ sumL l ∧ sumL l < 18446744073709551616 := by
  have h := sumGo_range l.length l ((l.length : Int) % 4294967295) 0 (Nat.le_refl _) (by omega) (by omega) (by omega) (by omega)
  unfold sumL
  omega
end Go.Proofs.Ytaniflbhkddlhaa
