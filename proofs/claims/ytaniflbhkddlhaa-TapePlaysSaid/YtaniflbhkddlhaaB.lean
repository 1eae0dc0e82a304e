/-
  Slices of bytes: what one reads as, cut, and carried over what a call makes. No condition.
-/
import Derived.Test.YtaniflbhkddlhaaRows
import Derived.WalkKit
import Derived.WalkSpells
import Derived.WalkLawsBesides
import Derived.Lib.Hide
namespace Go.Proofs.Ytaniflbhkddlhaa
open Go.RowKit

/-- The bytes that a slice's address leads to. -/
def BsAt (w : World) (ao : Option Addr) (l : List Int) : Prop :=
  ∀ i, i < l.length → ∃ b o, ao = some ⟨b, o, none⟩ ∧ w.cell? ⟨b, o + i, none⟩ = some (.int .u8 (l.getD i 0))
/-- The slice at 'ao', of l's length and capacity 'cap', reads as the bytes l. -/
structure Bs (w : World) (ao : Option Addr) (cap : Nat) (l : List Int) : Prop where
  cells : BsAt w ao l
  cap_le : l.length ≤ cap
  max : cap ≤ maxLen
  nil : ao = none → cap = 0
  byte : ∀ x ∈ l, 0 ≤ x ∧ x ≤ 255

theorem BsAt.below {w w' : World} {ao : Option Addr} {l : List Int} (h : BsAt w ao l) (hb : Below w.heap.size w w') : BsAt w' ao l := fun i hi => by
  obtain ⟨b, o, rfl, hc⟩ := h i hi
  exact ⟨b, o, rfl, by rw [hb.cell (block_lt_of_cell hc)]; exact hc⟩
theorem Bs.below {w w' : World} {ao : Option Addr} {cap : Nat} {l : List Int} (h : Bs w ao cap l) (hb : Below w.heap.size w w') : Bs w' ao cap l :=
  ⟨h.cells.below hb, h.cap_le, h.max, h.nil, h.byte⟩
theorem below_alloc (w : World) (o : Obj) : Below w.heap.size w (w.alloc o) := (Below.refl _ _).alloc (Nat.le_refl _) o
theorem below_drew (w : World) : Below w.heap.size w w.drew := (Below.refl _ _).drew
theorem Bs.alloc {w : World} {ao : Option Addr} {cap : Nat} {l : List Int} (h : Bs w ao cap l) (o : Obj) : Bs (w.alloc o) ao cap l := h.below (below_alloc _ _)
theorem Bs.drew {w : World} {ao : Option Addr} {cap : Nat} {l : List Int} (h : Bs w ao cap l) : Bs w.drew ao cap l := h.below (below_drew _)
theorem Bs.len_le {w : World} {ao : Option Addr} {cap : Nat} {l : List Int} (h : Bs w ao cap l) : l.length ≤ 9223372036854775807 := by
  have := h.max; have := h.cap_le; unfold maxLen at *; omega
theorem Bs.getD_byte {w : World} {ao : Option Addr} {cap : Nat} {l : List Int} (h : Bs w ao cap l) (i : Nat) : 0 ≤ l.getD i 0 ∧ l.getD i 0 ≤ 255 := by
  by_cases hi : i < l.length
  · have := h.byte (l.getD i 0) (by simp [List.getD, hi])
    exact this
  · simp [List.getD, List.getElem?_eq_none (by omega : l.length ≤ i)]
/-- A cut of such a slice. -/
def cutA (ao : Option Addr) (cap lo : Nat) : Option Addr := if cap = lo then ao else ao.map (·.add (lo * 1))
theorem Bs.cut {w : World} {ao : Option Addr} {cap : Nat} {l : List Int} (h : Bs w ao cap l) (lo hi : Nat) (h1 : lo ≤ hi) (h2 : hi ≤ l.length) : Bs w (cutA ao cap lo) (cap - lo) ((l.take hi).drop lo) := by
  have hlen : ((l.take hi).drop lo).length = hi - lo := by simp; omega
  have hc := h.cap_le
  refine ⟨fun i hi' => ?_, by omega, by have := h.max; omega, fun hn => ?_, fun x hx => h.byte x (List.mem_of_mem_take (List.mem_of_mem_drop hx))⟩
  · rw [hlen] at hi'
    obtain ⟨b, o, rfl, hcell⟩ := h.cells (lo + i) (by omega)
    refine ⟨b, o + lo, ?_, ?_⟩
    · unfold cutA
      rw [if_neg (by omega)]
      simp only [Option.map_some, Nat.mul_one]
      rw [Addr.add_lit]
    · rw [Nat.add_assoc, hcell]
      have : ((l.take hi).drop lo).getD i 0 = l.getD (lo + i) 0 := by
        simp only [List.getD, List.getElem?_drop, List.getElem?_take]
        rw [if_pos (by omega)]
      rw [this]
  · unfold cutA at hn
    split at hn
    · have := h.nil hn; omega
    · cases ao with
      | none => have := h.nil rfl; omega
      | some a => simp at hn
theorem Bs.cut_h {w : World} {ao : Option Addr} {cap : Nat} {l : List Int} (h : Bs w ao cap l) (hi : Nat) (h2 : hi ≤ l.length) : Bs w (cutA ao cap 0) cap (l.take hi) := by
  simpa using h.cut 0 hi (Nat.zero_le _) h2
theorem Bs.cut_l {w : World} {ao : Option Addr} {cap : Nat} {l : List Int} (h : Bs w ao cap l) (lo : Nat) (h2 : lo ≤ l.length) : Bs w (cutA ao cap lo) (cap - lo) (l.drop lo) := by
  simpa using h.cut lo l.length h2 (Nat.le_refl _)
theorem elem22 : Try.prog.elem 22 = 5 := by kernel_rfl
theorem under22 : Try.prog.underlying 22 = some (.slice (Try.prog.elem 22)) := by kernel_rfl
theorem size5 (w : World) : (sizeOf 5).run Try.prog w = .ok 1 w := by kernel_rfl
theorem info5 : (Try.prog.info? 5).map (fun i => (i.zero, i.size, i.bytes)) = some (some (.int .u8 0), 1, 1) := by kernel_rfl
theorem cut_lh {w : World} {ao : Option Addr} {cap : Nat} {l : List Int} (h : Bs w ao cap l) (lo hi : Nat) (h1 : lo ≤ hi) (h2 : hi ≤ l.length) (W : World) :
    (Instr.sliceAt 22 (.slice ao l.length cap) (some (.int .i64 lo)) (some (.int .i64 hi)) none).run Try.prog W = .ok (.slice (cutA ao cap lo) (hi - lo) (cap - lo)) W := by
  have hc := h.cap_le
  rw [run_sliceAt_slice _ _ _ _ _ _ under22, run_slice_lh W 22 ao l.length cap under22 .i64 .i64 lo hi (by omega) (by omega) (by omega), elem22, size5]
  rfl
theorem cut_h {w : World} {ao : Option Addr} {cap : Nat} {l : List Int} (h : Bs w ao cap l) (hi : Nat) (h2 : hi ≤ l.length) (W : World) :
    (Instr.sliceAt 22 (.slice ao l.length cap) none (some (.int .i64 hi)) none).run Try.prog W = .ok (.slice (cutA ao cap 0) hi cap) W := by
  have hc := h.cap_le
  rw [run_sliceAt_slice _ _ _ _ _ _ under22, run_slice_h W 22 ao l.length cap under22 .i64 hi (by omega) (by omega), elem22, size5]
  rfl
theorem cut_l {w : World} {ao : Option Addr} {cap : Nat} {l : List Int} (_ : Bs w ao cap l) (lo : Nat) (h2 : lo ≤ l.length) (W : World) :
    (Instr.sliceAt 22 (.slice ao l.length cap) (some (.int .i64 lo)) none none).run Try.prog W = .ok (.slice (cutA ao cap lo) (l.length - lo) (cap - lo)) W := by
  rw [run_sliceAt_slice _ _ _ _ _ _ under22, run_slice_l W 22 ao l.length cap under22 .i64 lo (by omega) (by omega), elem22, size5]
  rfl
end Go.Proofs.Ytaniflbhkddlhaa
