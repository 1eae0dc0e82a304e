/- Profiles, as lists of steps, against what is free at each time: plain facts. No condition. -/
import Derived.Test.YtnnkibdjbodncaaDoorSb
import Derived.Test.YtnnkibdjbodncaaDoorK
namespace Go.Proofs.YtnnkibdjbodncaaDoor
open Go.RowKit
theorem upto_iff {t : Int} : ∀ {l : List St}, Rising l → ∀ {i : Nat} {s : St}, l[i]? = some s → (s.1 ≤ t ↔ i < nUpto l t)
  | [], _, i, s, hs => by simp at hs
  | a :: l, hr, i, s, hs => by
    obtain ⟨h1, h2⟩ := List.pairwise_cons.1 hr
    have ih := @upto_iff t l h2
    have hc : nUpto (a :: l) t = nUpto l t + if a.1 ≤ t then 1 else 0 := by
      unfold nUpto; rw [List.countP_cons]; simp
    rw [hc]
    by_cases ha : a.1 ≤ t
    · rw [if_pos ha]
      cases i with
      | zero => simp at hs; subst hs; simp [ha]
      | succ i => simp at hs; rw [ih hs]; omega
    · rw [if_neg ha]
      have h0 : nUpto l t = 0 := by
        unfold nUpto
        rw [List.countP_eq_zero]
        intro x hx
        have := h1 x hx
        simp; omega
      rw [h0]
      cases i with
      | zero => simp at hs; subst hs; simp; omega
      | succ i =>
        simp at hs
        have := h1 s (List.mem_of_getElem? hs)
        simp; omega
/-- Steps that tell what is free from a time on, up to another. -/
structure Lay (l : List St) (now T : Int) (F : Int → Nat) : Prop where
  rising : Rising l
  first : ∀ s, l[0]? = some s → s.1 = now
  some_ : now < T → l ≠ []
  before : ∀ s ∈ l, now ≤ s.1 ∧ s.1 < T
  free : ∀ s ∈ l, ∃ x : Nat, x < 256 ∧ s.2 = x
  val : ∀ i s, l[i]? = some s → ∀ t, s.1 ≤ t → t < T → (∀ s', l[i + 1]? = some s' → t < s'.1) → (F t : Int) = s.2
theorem Lay.nil (now : Int) (F : Int → Nat) : Lay [] now now F := ⟨List.Pairwise.nil, by simp, fun h => absurd h (by omega), by simp, by simp, by simp⟩
theorem Lay.congr {l : List St} {now T : Int} {F G : Int → Nat} (h : Lay l now T F) (hfg : ∀ t, now ≤ t → F t = G t) : Lay l now T G :=
  ⟨h.rising, h.first, h.some_, h.before, h.free, fun i s hi t h1 h2 h3 => by rw [← hfg t (by have := (h.before s (List.mem_of_getElem? hi)).1; omega)]; exact h.val i s hi t h1 h2 h3⟩
theorem Lay.piece {l : List St} {now T : Int} {F : Int → Nat} (h : Lay l now T F) {t : Int} (h1 : now ≤ t) (h2 : t < T) : ∃ s, l[nUpto l t - 1]? = some s ∧ s.1 ≤ t ∧ 1 ≤ nUpto l t ∧ (F t : Int) = s.2 := by
  have hl : 0 < l.length := by cases hl : l with | nil => exact absurd hl (h.some_ (by omega)) | cons a b => simp
  have h0 : l[0]? = some (l[0]'hl) := List.getElem?_eq_getElem hl
  have e0 := h.first _ h0
  have hp := upto_pos h0 (t := t) (by omega)
  have hle := upto_le l t
  have hs : l[nUpto l t - 1]? = some (l[nUpto l t - 1]'(by omega)) := List.getElem?_eq_getElem (by omega)
  have hst := (upto_iff h.rising hs (t := t)).2 (by omega)
  refine ⟨_, hs, hst, hp, h.val _ _ hs t hst h2 fun s' hs' => ?_⟩
  rw [show nUpto l t - 1 + 1 = nUpto l t by omega] at hs'
  have := (upto_iff h.rising hs' (t := t))
  omega
theorem andAll_nat : ∀ (L : List St) (x : Nat), x < 256 → (∀ s ∈ L, ∃ y : Nat, y < 256 ∧ s.2 = y) → ∃ z : Nat, andAll x L = z ∧ z < 256 ∧ ∀ i, z.testBit i = true ↔ x.testBit i = true ∧ ∀ s ∈ L, s.2.toNat.testBit i = true
  | [], x, hx, _ => ⟨x, rfl, hx, fun i => by simp⟩
  | s :: L, x, hx, h => by
    obtain ⟨y, hy, e⟩ := h s (by simp)
    obtain ⟨z, hz, hz2, hb⟩ := andAll_nat L (x &&& y) (and_lt hx) (fun s hs => h s (by simp [hs]))
    refine ⟨z, ?_, hz2, fun i => ?_⟩
    · rw [← hz]
      unfold andAll
      rw [List.foldl_cons, e, u64_and_nat _ _ (by omega) (by omega)]
    · rw [hb, Nat.testBit_and, Bool.and_eq_true]
      simp only [List.mem_cons, forall_eq_or_imp, e, Int.toNat_natCast]
      constructor
      · rintro ⟨⟨a, b⟩, c⟩; exact ⟨a, b, c⟩
      · rintro ⟨a, b, c⟩; exact ⟨⟨a, b⟩, c⟩
theorem mem_within {l : List St} {a b : Int} {s : St} : s ∈ within l a b ↔ ∃ j, nUpto l a - 1 ≤ j ∧ j < nUpto l (b - 1) ∧ l[j]? = some s := by
  unfold within
  rw [List.mem_iff_getElem?]
  constructor
  · rintro ⟨j, hj⟩
    rw [List.getElem?_take] at hj
    split at hj
    · rw [List.getElem?_drop] at hj
      exact ⟨nUpto l a - 1 + j, by omega, by omega, hj⟩
    · cases hj
  · rintro ⟨j, h1, h2, h3⟩
    refine ⟨j - (nUpto l a - 1), ?_⟩
    rw [List.getElem?_take, if_pos (by omega), List.getElem?_drop, show nUpto l a - 1 + (j - (nUpto l a - 1)) = j by omega]
    exact h3
theorem during_is {l : List St} {now T : Int} {F : Int → Nat} (h : Lay l now T F) {a : Int} {k : Nat} (ha : now ≤ a) (hk : 1 ≤ k) (hT : a + k ≤ T) : during 255 l a (a + k) = (inter F a k : Nat) := by
  obtain ⟨z, hz, hz2, hb⟩ := andAll_nat (within l a (a + k)) 255 (by omega) (fun s hs => by
    obtain ⟨j, _, _, hj⟩ := mem_within.1 hs
    exact h.free s (List.mem_of_getElem? hj))
  unfold during
  rw [show ((255 : Nat) : Int) = 255 by rfl] at hz
  rw [hz]
  congr 1
  refine small_ext hz2 (inter_lt _ _ _) fun i hi => ?_
  rw [Bool.eq_iff_iff, hb, bit_inter]
  have h255 : (255 : Nat).testBit i = true := by
    rw [show (255 : Nat) = 2 ^ 8 - 1 by rfl, Nat.testBit_two_pow_sub_one]; simpa using hi
  simp only [h255, hi, true_and]
  constructor
  · intro hs j hj
    obtain ⟨s, h1, h2, h3, h4⟩ := h.piece (t := a + j) (by omega) (by omega)
    have hm : s ∈ within l a (a + k) := mem_within.2 ⟨_, by have := upto_mono l (show a ≤ a + j by omega); omega, by have := upto_mono l (show a + j ≤ a + k - 1 by omega); omega, h1⟩
    have := hs s hm
    rwa [← h4, Int.toNat_natCast] at this
  · intro hs s hm
    obtain ⟨j, h1, h2, h3⟩ := mem_within.1 hm
    have hsb := (upto_iff h.rising h3 (t := a + k - 1)).2 h2
    by_cases hja : j = nUpto l a - 1
    · obtain ⟨s', g1, g2, g3, g4⟩ := h.piece (t := a) ha (by omega)
      rw [← hja, h3] at g1
      cases g1
      have := hs 0 (by omega)
      rw [show a + ((0 : Nat) : Int) = a by simp] at this
      rw [← g4, Int.toNat_natCast]
      exact this
    · have hlt : ¬ s.1 ≤ a := by rw [upto_iff h.rising h3]; omega
      have hv := h.val j s h3 s.1 (Int.le_refl _) (by omega) fun s' hs' => rising_get h.rising h3 hs' (by omega)
      have := hs (s.1 - a).toNat (by omega)
      rw [show a + ((s.1 - a).toNat : Int) = s.1 by omega] at this
      rw [← hv, Int.toNat_natCast]
      exact this
/-- A step put behind the others, if it tells anything new. -/
def putL (out : List St) (s : St) : List St := match out.getLast? with
  | some q => if q.2 = s.2 then out else out ++ [s]
  | none => [s]
theorem putL_nil (s : St) : putL [] s = [s] := rfl
theorem putL_same {m : List St} {q s : St} (h : q.2 = s.2) : putL (m ++ [q]) s = m ++ [q] := by simp [putL, h]
theorem putL_new {m : List St} {q s : St} (h : ¬ q.2 = s.2) : putL (m ++ [q]) s = m ++ [q] ++ [s] := by simp [putL, h]
theorem putL_len (out : List St) (s : St) : (putL out s).length ≤ out.length + 1 := by
  unfold putL
  split
  · split <;> simp
  · simp
theorem snoc_of {l : List St} (h : l ≠ []) : ∃ m q, l = m ++ [q] := ⟨l.dropLast, l.getLast h, (List.dropLast_concat_getLast h).symm⟩
theorem get_snoc {m : List St} {q s : St} {i : Nat} (h : (m ++ [q])[i]? = some s) : m[i]? = some s ∧ i < m.length ∨ i = m.length ∧ s = q := by
  rcases Nat.lt_or_ge i m.length with hi | hi
  · rw [List.getElem?_append_left hi] at h
    exact .inl ⟨h, hi⟩
  · rw [List.getElem?_append_right hi] at h
    have : i - m.length = 0 := by
      have := (List.getElem?_eq_some_iff.1 h).1
      simp at this; omega
    rw [this] at h
    simp at h
    exact .inr ⟨by omega, h.symm⟩
theorem Lay.put {out : List St} {now T T' : Int} {F : Int → Nat} (h : Lay out now T F) (hT : T < T') (h0 : now ≤ T) {x : Nat} (hx : x < 256) (hv : ∀ t, T ≤ t → t < T' → F t = x) (hne : out = [] → T = now) : Lay (putL out (T, (x : Int))) now T' F := by
  by_cases hno : out = []
  · subst hno
    have := hne rfl
    subst this
    rw [putL_nil]
    refine ⟨List.pairwise_singleton _ _, fun s hs => by simp at hs; subst hs; rfl, fun _ => by simp, fun s hs => by simp at hs; subst hs; simp only; omega, fun s hs => by simp at hs; subst hs; exact ⟨x, hx, rfl⟩, fun i s hi t h1 h2 _ => ?_⟩
    cases i with
    | zero => simp at hi; subst hi; simp only at h1 ⊢; rw [hv t h1 h2]
    | succ i => simp at hi
  · obtain ⟨m, q, rfl⟩ := snoc_of hno
    have hq : (m ++ [q])[m.length]? = some q := by simp
    have hqb := h.before q (by simp)
    by_cases he : q.2 = (x : Int)
    · rw [putL_same he]
      refine ⟨h.rising, h.first, fun _ => by simp, fun s hs => ⟨(h.before s hs).1, by have := (h.before s hs).2; omega⟩, h.free, fun i s hi t h1 h2 h3 => ?_⟩
      by_cases ht : t < T
      · exact h.val i s hi t h1 ht h3
      · rcases get_snoc hi with ⟨hi', hil⟩ | ⟨rfl, rfl⟩
        · have hn : (m ++ [q])[i + 1]? = some ((m ++ [q])[i + 1]'(by simp; omega)) := List.getElem?_eq_getElem _
          have a1 := h3 _ hn
          have a2 := (h.before _ (List.mem_of_getElem? hn)).2
          omega
        · rw [hv t (by omega) h2, he]
    · rw [putL_new he]
      refine ⟨?_, fun s hs => h.first s ?_, fun _ => by simp, fun s hs => ?_, fun s hs => ?_, fun i s hi t h1 h2 h3 => ?_⟩
      · refine List.pairwise_append.2 ⟨h.rising, List.pairwise_singleton _ _, fun a ha b hb => ?_⟩
        simp at hb; subst hb
        exact (h.before a ha).2
      · rwa [List.getElem?_append_left (by simp)] at hs
      · rcases List.mem_append.1 hs with hs | hs
        · exact ⟨(h.before s hs).1, by have := (h.before s hs).2; omega⟩
        · simp at hs; subst hs; simp only; omega
      · rcases List.mem_append.1 hs with hs | hs
        · exact h.free s hs
        · simp at hs; subst hs; exact ⟨x, hx, rfl⟩
      · rcases get_snoc hi with ⟨hi', hil⟩ | ⟨rfl, rfl⟩
        · have hn : (m ++ [q] ++ [(T, (x : Int))])[i + 1]? = some ((m ++ [q] ++ [(T, (x : Int))])[i + 1]'(by simp at hil ⊢; omega)) := List.getElem?_eq_getElem _
          have a1 := h3 _ hn
          have a2 : t < T := by
            rcases get_snoc hn with ⟨hn', _⟩ | ⟨_, he'⟩
            · have := (h.before _ (List.mem_of_getElem? hn')).2; omega
            · rw [he'] at a1; simpa using a1
          refine h.val i s hi' t h1 a2 fun s' hs' => h3 s' ?_
          rw [List.getElem?_append_left (by have := (List.getElem?_eq_some_iff.1 hs').1; omega)]
          exact hs'
        · simp only at h1 ⊢
          rw [hv t h1 h2]
/-- The steps of one piece, behind those that are laid. -/
def roundL (a b : Int) (S : Int) (out : List St) (x : St) (next : Int) : List St :=
  let o1 := if x.1 < a then putL out x else out
  let o2 := if max x.1 a < min next b then putL o1 (max x.1 a, bits .andNot .u64 x.2 S) else o1
  if max x.1 b < next then putL o2 (max x.1 b, x.2) else o2
theorem round_lay {out : List St} {now a next : Int} {k : Nat} {S : Nat} {F : Int → Nat} {x : St} (h : Lay out now x.1 (taken F S a k)) (h0 : now ≤ x.1) (hx : x.1 < next) (hne : out = [] → x.1 = now) (hk : 1 ≤ k) (hS : S < 256)
    {y : Nat} (hy : y < 256) (hxy : x.2 = y) (hF : ∀ t, x.1 ≤ t → t < next → F t = y) : Lay (roundL a (a + k) S out x next) now next (taken F S a k) := by
  have hm : bits .andNot .u64 x.2 S = (minus y S : Nat) := by rw [hxy, u64_andNot_nat _ _ (by omega) (by omega)]; rfl
  have xe : x = (x.1, (y : Int)) := by rw [← hxy]
  unfold roundL
  rw [hm]
  simp only
  -- ahead of the span
  have s1 : ∃ T, (T = if x.1 < a then min a next else x.1) ∧ Lay (if x.1 < a then putL out x else out) now T (taken F S a k) ∧ ((if x.1 < a then putL out x else out) = [] → T = now) := by
    by_cases hc : x.1 < a
    · rw [if_pos hc, if_pos hc]
      refine ⟨_, rfl, ?_, fun he => ?_⟩
      · rw [xe]
        refine h.put (by omega) h0 hy (fun t h1 h2 => ?_) hne
        unfold taken
        rw [if_neg (by omega)]
        exact hF t h1 (by omega)
      · exfalso
        have : (putL out x).length = 0 := by rw [he]; rfl
        unfold putL at this
        split at this
        · rename_i q hq
          split at this
          · rename_i hq2; have := List.eq_nil_of_length_eq_zero this; subst this; simp at hq
          · simp at this
        · simp at this
    · rw [if_neg hc, if_neg hc]
      exact ⟨_, rfl, h, hne⟩
  obtain ⟨T1, hT1, hl1, hn1⟩ := s1
  generalize (if x.1 < a then putL out x else out) = o1 at hl1 hn1 ⊢
  have s2 : ∃ T, (T = if max x.1 a < min next (a + k) then min next (a + k) else T1) ∧ Lay (if max x.1 a < min next (a + k) then putL o1 (max x.1 a, ((minus y S : Nat) : Int)) else o1) now T (taken F S a k) ∧ ((if max x.1 a < min next (a + k) then putL o1 (max x.1 a, ((minus y S : Nat) : Int)) else o1) = [] → T = now) := by
    by_cases hc : max x.1 a < min next (a + k)
    · rw [if_pos hc, if_pos hc]
      have e : max x.1 a = T1 := by rw [hT1]; split <;> omega
      refine ⟨_, rfl, ?_, fun he => ?_⟩
      · rw [e]
        refine hl1.put (by omega) (by omega) (minus_lt hy) (fun t h1 h2 => ?_) hn1
        unfold taken
        rw [if_pos (by omega), hF t (by omega) (by omega)]
      · exfalso
        have : (putL o1 (max x.1 a, ((minus y S : Nat) : Int))).length = 0 := by rw [he]; rfl
        unfold putL at this
        split at this
        · rename_i q hq
          split at this
          · rename_i hq2; have := List.eq_nil_of_length_eq_zero this; subst this; simp at hq
          · simp at this
        · simp at this
    · rw [if_neg hc, if_neg hc]
      exact ⟨_, rfl, hl1, hn1⟩
  obtain ⟨T2, hT2, hl2, hn2⟩ := s2
  generalize (if max x.1 a < min next (a + k) then putL o1 (max x.1 a, ((minus y S : Nat) : Int)) else o1) = o2 at hl2 hn2 ⊢
  by_cases hc : max x.1 (a + k) < next
  · rw [if_pos hc]
    have e : max x.1 (a + k) = T2 := by rw [hT2, hT1]; split <;> (try split) <;> omega
    rw [e, hxy]
    refine hl2.put (by omega) (by omega) hy (fun t h1 h2 => ?_) hn2
    unfold taken
    rw [if_neg (by omega)]
    exact hF t (by omega) h2
  · rw [if_neg hc]
    have e : next = T2 := by rw [hT2, hT1]; split <;> (try split) <;> omega
    rw [e]
    exact hl2
theorem round_len (a b S : Int) (out : List St) (x : St) (next : Int) (hx : x.1 < next) (hab : a < b) : (roundL a b S out x next).length ≤ out.length + 1 + (if x.1 < a ∧ a < next then 1 else 0) + (if x.1 < b ∧ b < next then 1 else 0) := by
  unfold roundL
  simp only
  have h1 : (if x.1 < a then putL out x else out).length ≤ out.length + if x.1 < a then 1 else 0 := by
    split
    · exact putL_len _ _
    · omega
  generalize (if x.1 < a then putL out x else out) = o1 at h1 ⊢
  have h2 : (if max x.1 a < min next b then putL o1 (max x.1 a, bits .andNot .u64 x.2 S) else o1).length ≤ o1.length + if max x.1 a < min next b then 1 else 0 := by
    split
    · exact putL_len _ _
    · omega
  generalize (if max x.1 a < min next b then putL o1 (max x.1 a, bits .andNot .u64 x.2 S) else o1) = o2 at h2 ⊢
  have h3 : (if max x.1 b < next then putL o2 (max x.1 b, x.2) else o2).length ≤ o2.length + if max x.1 b < next then 1 else 0 := by
    split
    · exact putL_len _ _
    · omega
  generalize (if max x.1 b < next then putL o2 (max x.1 b, x.2) else o2) = o3 at h3 ⊢
  split at h1 <;> split at h2 <;> split at h3 <;> split <;> split <;> omega
/-- When a piece ends. -/
def nextT (l : List St) (k : Nat) : Int := match l[k + 1]? with
  | some s => s.1
  | none => 2199023255552
/-- The steps of the first pieces. -/
def turnL (l : List St) (a b S : Int) : Nat → List St
  | 0 => []
  | k + 1 => match l[k]? with
    | some x => roundL a b S (turnL l a b S k) x (nextT l k)
    | none => turnL l a b S k
/-- Where the k-th piece begins. -/
def beginT (l : List St) (now : Int) : Nat → Int
  | 0 => now
  | k + 1 => nextT l k
theorem begin_is {l : List St} {now : Int} (hf : ∀ s, l[0]? = some s → s.1 = now) : ∀ (k : Nat) (x : St), l[k]? = some x → beginT l now k = x.1
  | 0, x, h => (hf x h).symm
  | k + 1, x, h => by simp [beginT, nextT, h]
theorem next_gt {l : List St} {now : Int} {F : Int → Nat} (h : Lay l now 2199023255552 F) {k : Nat} {x : St} (hx : l[k]? = some x) : x.1 < nextT l k := by
  unfold nextT
  split
  · rename_i s hs; exact rising_get h.rising hx hs (by omega)
  · exact (h.before x (List.mem_of_getElem? hx)).2
theorem turn_lay {l : List St} {now a : Int} {n : Nat} {S : Nat} {F : Int → Nat} (h : Lay l now 2199023255552 F) (hn : 1 ≤ n) (hS : S < 256) : ∀ k, k ≤ l.length →
    Lay (turnL l a (a + n) S k) now (beginT l now k) (taken F S a n) ∧ (turnL l a (a + n) S k = [] → beginT l now k = now) ∧
      (turnL l a (a + n) S k).length ≤ k + (if a < beginT l now k then 1 else 0) + (if a + n < beginT l now k then 1 else 0)
  | 0, _ => ⟨Lay.nil _ _, fun _ => rfl, by simp [turnL]⟩
  | k + 1, hk => by
    obtain ⟨h1, h2, h3⟩ := turn_lay h hn hS k (by omega)
    have hx : l[k]? = some (l[k]'(by omega)) := List.getElem?_eq_getElem (by omega)
    generalize (l[k]'(by omega)) = x at hx
    have hb := begin_is h.first k x hx
    rw [hb] at h1 h2 h3
    have hnx := next_gt h hx
    obtain ⟨y, hy, hxy⟩ := h.free x (List.mem_of_getElem? hx)
    have e : turnL l a (a + n) S (k + 1) = roundL a (a + n) S (turnL l a (a + n) S k) x (nextT l k) := by simp [turnL, hx]
    have hnT : nextT l k ≤ 2199023255552 := by
      unfold nextT
      split
      · rename_i s hs; have := (h.before s (List.mem_of_getElem? hs)).2; omega
      · omega
    have hlay := round_lay h1 (h.before x (List.mem_of_getElem? hx)).1 hnx h2 hn hS hy hxy (fun t g1 g2 => by
      have := h.val k x hx t g1 (by omega) fun s' hs' => by
        have : nextT l k = s'.1 := by simp [nextT, hs']
        omega
      rw [hxy] at this
      exact_mod_cast this)
    rw [e]
    refine ⟨hlay, fun he => ?_, ?_⟩
    · exact absurd he (hlay.some_ (by have := (h.before x (List.mem_of_getElem? hx)).1; omega))
    · have hr := round_len a (a + n) S (turnL l a (a + n) S k) x (nextT l k) hnx (by omega)
      show _ ≤ k + 1 + (if a < nextT l k then 1 else 0) + (if a + n < nextT l k then 1 else 0)
      split at h3 <;> split at h3 <;> split at hr <;> split at hr <;> split <;> split <;> omega
end Go.Proofs.YtnnkibdjbodncaaDoor
