/- Plain laws of frames that lie one behind the other: what is put is got, whole, cut off, or with one byte turned. No condition but that a frame's bytes are at most 65536. -/
import Derived.Test.YtaniflbhkddlhaaR
import Derived.Test.YtaniflbhkddlhaaQ
import Derived.Test.YtaniflbhkddlhaaWh
namespace Go.Proofs.Ytaniflbhkddlhaa
def Few (ls : List (List Int)) : Prop := ∀ x ∈ ls, x.length ≤ 65536
/-- Frames, one behind the other. -/
def layL (ls : List (List Int)) : List Int := (ls.map encL).flatten
theorem layL_cons (x : List Int) (r : List (List Int)) : layL (x :: r) = encL x ++ layL r := rfl
theorem layL_nil : layL [] = [] := rfl
theorem layL_snoc (r : List (List Int)) (x : List Int) : layL (r ++ [x]) = layL r ++ encL x := by simp [layL]
theorem layL_take (ls : List (List Int)) (k : Nat) (h : k < ls.length) : layL (ls.take (k + 1)) = layL (ls.take k) ++ encL (ls.getD k []) := by
  rw [List.take_succ_eq_append_getElem h, layL_snoc]
  simp [List.getD, h]
theorem enc_ok (x r : List Int) (h : x.length ≤ 65536) : (getL (encL x ++ r)).2.2 = 0 ∧ bodyL (encL x ++ r) = x ∧ headL (encL x ++ r) = x.length := by
  rw [get_enc x r h]
  exact ⟨rfl, enc_body x r h, enc_head x r h⟩
theorem allL_enc (x r : List Int) (h : x.length ≤ 65536) : allL (encL x ++ r) = (x :: (allL r).1, x.length + 12 + (allL r).2) := by
  obtain ⟨h1, h2, h3⟩ := enc_ok x r h
  rw [allL_ok _ h1, h2, h3]
  have : (encL x ++ r).drop (x.length + 12) = r := by
    rw [← encL_len x, List.drop_left]
  rw [this]
theorem allL_empty : allL [] = ([], 0) := rfl
theorem all_lay : ∀ (ls : List (List Int)), Few ls → allL (layL ls) = (ls, (layL ls).length)
  | [], _ => rfl
  | x :: r, h => by
    rw [layL_cons, allL_enc _ _ (h x (List.mem_cons_self ..)), all_lay r (fun y hy => h y (List.mem_cons_of_mem _ hy)), List.length_append, encL_len]
/-- The whole frames ahead of a place, and where these end. -/
def wholeL : List (List Int) → Nat → Nat × Nat
  | [], _ => (0, 0)
  | x :: r, n => if x.length + 12 ≤ n then ((wholeL r (n - (x.length + 12))).1 + 1, x.length + 12 + (wholeL r (n - (x.length + 12))).2) else (0, 0)
theorem enc_cut (x : List Int) (n : Nat) (h : x.length ≤ 65536) (hn : n < x.length + 12) (r : List Int) : ¬ (getL ((encL x ++ r).take n)).2.2 = 0 := by
  intro hc
  obtain ⟨h1, h2, _⟩ := get_ok _ hc
  have hl : ((encL x ++ r).take n).length ≤ n := by simp; omega
  have h4 : 4 ≤ n := by omega
  have : headL ((encL x ++ r).take n) = x.length := by
    rw [← enc_head x r h]
    unfold headL
    rw [List.take_take, Nat.min_eq_left h4]
  omega
theorem all_cut : ∀ (ls : List (List Int)) (n : Nat), Few ls → allL ((layL ls).take n) = (ls.take (wholeL ls n).1, (wholeL ls n).2)
  | [], n, _ => by simp [layL_nil, allL_empty, wholeL]
  | x :: r, n, h => by
    have hx := h x (List.mem_cons_self ..)
    rw [layL_cons]
    unfold wholeL
    by_cases hn : x.length + 12 ≤ n
    · rw [if_pos hn]
      have : (encL x ++ layL r).take n = encL x ++ (layL r).take (n - (x.length + 12)) := by
        rw [List.take_append, List.take_of_length_le (by rw [encL_len]; exact hn), encL_len]
      rw [this, allL_enc _ _ hx, all_cut r _ (fun y hy => h y (List.mem_cons_of_mem _ hy))]
      rfl
    · rw [if_neg hn, allL_no _ (enc_cut x n hx (by omega) _)]
      rfl
theorem take_split (b : List Int) (n m : Nat) (h : n ≤ m) : b.take m = b.take n ++ (b.take m).drop n := by
  have := List.take_append_drop n (b.take m)
  rw [List.take_take, Nat.min_eq_left h] at this
  exact this.symm
/-- What is taken for a frame is the frame of its bytes. -/
theorem get_dec (b : List Int) (hb : Byte b) (hc : (getL b).2.2 = 0) : b.take (headL b + 12) = encL (bodyL b) := by
  obtain ⟨h1, h2, h3, _, h5⟩ := get_ok b hc
  have hs := sumL_range (bodyL b)
  rw [take_split b 4 (headL b + 12) (by omega)]
  have e1 : b.take 4 = bytesL (headL b : Int) 4 := by
    apply wordL_inj (hb.take 4) (bytesL_byte _ _) (by rw [bytesL_len]; simp; omega)
    rw [word_bytes4 _ (by omega) (by omega), (headL_eq b hb).1]
  have e2 : (b.take (headL b + 12)).drop 4 = bodyL b ++ (b.take (12 + headL b)).drop (4 + headL b) := by
    have := congrArg (List.drop 4) (take_split b (4 + headL b) (headL b + 12) (by omega))
    rw [this, List.drop_append_of_le_length (by simp; omega), Nat.add_comm (headL b) 12]
    rfl
  have e3 : (b.take (12 + headL b)).drop (4 + headL b) = bytesL (sumL (bodyL b)) 8 := by
    apply wordL_inj ((hb.take _).drop _) (bytesL_byte _ _) (by rw [bytesL_len]; simp; omega)
    rw [word_bytes8' _ hs.1 hs.2]
    exact h3
  rw [e1, e2, e3]
  unfold encL
  rw [h5]
/-- A frame of which one byte was turned is refused, or has other bytes. -/
theorem enc_turn (x r : List Int) (p : Nat) (u : Int) (hx : Byte x) (hr : Byte r) (hp : p < x.length + 12) (hu0 : 0 ≤ u) (hu1 : u ≤ 255) (hu : u ≠ (encL x ++ r).getD p 0)
    (hc : (getL ((encL x ++ r).set p u)).2.2 = 0) : bodyL ((encL x ++ r).set p u) ≠ x := by
  have hl := encL_len x
  have hlen : p < (encL x ++ r).length := by rw [List.length_append]; omega
  intro hb
  have hby : Byte ((encL x ++ r).set p u) := fun y hy => by
    rcases List.mem_or_eq_of_mem_set hy with h | rfl
    · exact (encL_byte x hx).append hr y h
    · exact ⟨hu0, hu1⟩
  have hd := get_dec _ hby hc
  obtain ⟨_, _, _, _, h5⟩ := get_ok _ hc
  rw [hb] at hd h5
  rw [← h5] at hd
  apply hu
  have := congrArg (fun l => l[p]?) hd
  simp only [List.getElem?_take, if_pos hp, List.getElem?_set, if_pos hlen, if_true] at this
  simp only [List.getD, List.getElem?_append_left (show p < (encL x).length by omega), ← this]
  rfl
/-- Of frames of which one byte was turned those ahead of it are got, and that one not as it was. -/
theorem all_turn : ∀ (ls : List (List Int)) (n : Nat) (u : Int), Few ls → (∀ x ∈ ls, Byte x) → n < (layL ls).length → 0 ≤ u → u ≤ 255 → u ≠ (layL ls).getD n 0 →
    (wholeL ls n).1 < ls.length ∧ (wholeL ls n).1 ≤ (allL ((layL ls).set n u)).1.length ∧ (allL ((layL ls).set n u)).1.take (wholeL ls n).1 = ls.take (wholeL ls n).1 ∧
      ((wholeL ls n).1 < (allL ((layL ls).set n u)).1.length → (allL ((layL ls).set n u)).1.getD (wholeL ls n).1 [] ≠ ls.getD (wholeL ls n).1 [])
  | [], n, u, _, _, h, _, _, _ => by simp [layL_nil] at h
  | x :: r, n, u, hf, hby, hn, h0, h1, hu => by
    have hx := hf x (List.mem_cons_self ..)
    have hbx := hby x (List.mem_cons_self ..)
    have hbr : Byte (layL r) := fun y hy => by
      obtain ⟨l, hl, hy⟩ := List.mem_flatten.1 hy
      obtain ⟨z, hz, rfl⟩ := List.mem_map.1 hl
      exact encL_byte z (hby z (List.mem_cons_of_mem _ hz)) y hy
    have hl := encL_len x
    rw [layL_cons] at hn hu ⊢
    unfold wholeL
    by_cases hc : x.length + 12 ≤ n
    · rw [if_pos hc]
      have hset : (encL x ++ layL r).set n u = encL x ++ (layL r).set (n - (x.length + 12)) u := by
        rw [List.set_append_right n u (by omega), hl]
      have hu' : u ≠ (layL r).getD (n - (x.length + 12)) 0 := by
        intro e
        apply hu
        rw [e]
        simp only [List.getD, List.getElem?_append_right (show (encL x).length ≤ n by omega), hl]
      obtain ⟨q0, q1, q2, q3⟩ := all_turn r (n - (x.length + 12)) u (fun y hy => hf y (List.mem_cons_of_mem _ hy)) (fun y hy => hby y (List.mem_cons_of_mem _ hy)) (by rw [List.length_append] at hn; omega) h0 h1 hu'
      rw [hset, allL_enc _ _ hx]
      refine ⟨by simpa using q0, by simpa using q1, by simpa using q2, fun h => ?_⟩
      have := q3 (by simpa using h)
      simpa [List.getD] using this
    · rw [if_neg hc]
      refine ⟨by simp, Nat.zero_le _, by simp, fun h => ?_⟩
      by_cases hg : (getL ((encL x ++ layL r).set n u)).2.2 = 0
      · rw [allL_ok _ hg]
        simpa [List.getD] using enc_turn x (layL r) n u hbx hbr (by omega) h0 h1 hu hg
      · rw [allL_no _ hg] at h
        simp at h
theorem whole_le : ∀ (ls : List (List Int)) (n : Nat), (wholeL ls n).1 ≤ ls.length ∧ (wholeL ls n).2 ≤ n
  | [], n => by simp [wholeL]
  | x :: r, n => by
    unfold wholeL
    have := whole_le r (n - (x.length + 12))
    by_cases hc : x.length + 12 ≤ n
    · rw [if_pos hc]; simp; omega
    · rw [if_neg hc]; simp
end Go.Proofs.Ytaniflbhkddlhaa
