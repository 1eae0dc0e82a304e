/-
  Plain laws of frames: what is put is got. No condition but that a frame's bytes are at most 65536.
-/
import Derived.Test.YtaniflbhkddlhaaWg
namespace Go.Proofs.Ytaniflbhkddlhaa
theorem bytes4 (n : Int) : bytesL n 4 = [n % 256, n / 256 % 256, n / 65536 % 256, n / 16777216 % 256] := by
  simp [bytesL, List.range_succ]
theorem word_bytes4 (n : Int) (h0 : 0 ≤ n) (h1 : n < 4294967296) : wordL (bytesL n 4) = n := by
  rw [bytes4]
  simp only [wordL]
  omega
theorem bytes8' (n : Int) : bytesL n 8 = [n % 256, n / 256 % 256, n / 65536 % 256, n / 16777216 % 256, n / 4294967296 % 256, n / 1099511627776 % 256, n / 281474976710656 % 256, n / 72057594037927936 % 256] := by
  simp [bytesL, List.range_succ]
theorem word_bytes8' (n : Int) (h0 : 0 ≤ n) (h1 : n < 18446744073709551616) : wordL (bytesL n 8) = n := by
  rw [bytes8']
  simp only [wordL]
  omega
theorem encL_len (b : List Int) : (encL b).length = b.length + 12 := by simp [encL, bytesL_len]; omega
theorem encL_byte (b : List Int) (h : Byte b) : Byte (encL b) := (bytesL_byte _ _).append (h.append (bytesL_byte _ _))
theorem enc_take4 (b r : List Int) : (encL b ++ r).take 4 = bytesL b.length 4 := by
  unfold encL
  rw [List.append_assoc, List.take_append_of_le_length (by simp [bytesL_len]), List.take_of_length_le (by simp [bytesL_len])]
theorem enc_head (b r : List Int) (h : b.length ≤ 65536) : headL (encL b ++ r) = b.length := by
  unfold headL
  rw [enc_take4, word_bytes4 _ (by omega) (by omega)]
  omega
theorem enc_body (b r : List Int) (h : b.length ≤ 65536) : bodyL (encL b ++ r) = b := by
  unfold bodyL
  rw [enc_head b r h, List.drop_take, show 4 + b.length - 4 = b.length by omega]
  unfold encL
  have h4 : (bytesL (b.length : Int) 4).length = 4 := bytesL_len _ _
  rw [List.append_assoc, List.append_assoc]
  conv => lhs; rw [show (4 : Nat) = (bytesL (b.length : Int) 4).length by rw [h4]]
  rw [show (bytesL (b.length : Int) (bytesL (b.length : Int) 4).length) = bytesL (b.length : Int) 4 by rw [h4], List.drop_left, List.take_left]
theorem enc_tail (b r : List Int) (h : b.length ≤ 65536) : tailL (encL b ++ r) = sumL b := by
  have hs := sumL_range b
  unfold tailL
  rw [enc_head b r h, List.drop_take, show 12 + b.length - (4 + b.length) = 8 by omega]
  unfold encL
  have h4 : (bytesL (b.length : Int) 4 ++ b).length = 4 + b.length := by simp [bytesL_len]
  have h8 : (bytesL (sumL b) 8).length = 8 := bytesL_len _ _
  have e : bytesL (b.length : Int) 4 ++ (b ++ bytesL (sumL b) 8) ++ r = (bytesL (b.length : Int) 4 ++ b) ++ (bytesL (sumL b) 8 ++ r) := by simp
  rw [e, ← h4, List.drop_left, List.take_append_of_le_length (by omega), List.take_of_length_le (by omega), word_bytes8' _ hs.1 hs.2]
/-- What is put is got. -/
theorem get_enc (b r : List Int) (h : b.length ≤ 65536) : getL (encL b ++ r) = (b, (b.length : Int) + 12, 0) := by
  have hl := encL_len b
  unfold getL
  rw [enc_head b r h, enc_tail b r h, enc_body b r h, if_neg (by simp; omega), if_neg (by omega), if_neg (by simp; omega), if_neg (by simp)]
theorem sum_one : sumL [1] = 8589934594 := by
  unfold sumL
  rw [sumGo_more _ _ _ (by simp)]
  simp only [List.drop_succ_cons, List.drop_nil, sumGo_nil]
  simp [stepLo, stepHi, wordL]
end Go.Proofs.Ytaniflbhkddlhaa
