/- The contract of the test whether two slices hold the same bytes; no condition. -/
import Derived.Test.YtaniflbhkddlhaaWp
namespace Go.Proofs.Ytaniflbhkddlhaa
open Go.RowKit
theorem conv_bs {w : World} {ao : Option Addr} {cap : Nat} {l : List Int} (h : Bs w ao cap l) : (convert 22 9 (.slice ao l.length cap)).run Try.prog w = .ok (.string (strOfNums l)) w := by
  cases ao with
  | none =>
    have h0 := h.nil rfl
    obtain rfl : l = [] := List.eq_nil_of_length_eq_zero (by have := h.cap_le; omega)
    exact run_convert_bytes_nil w 22 5 Try.underlying22 Try.underlying5 0 cap 9 Try.underlying9
  | some a =>
    obtain ⟨b, o, spot⟩ := a
    by_cases h0 : l = []
    · subst h0
      show (convert 22 9 (.slice (some ⟨b, o, spot⟩) 0 cap)).run Try.prog w = _
      rw [run_convert_bytes_string w 22 9 5 _ 0 cap Try.underlying22 Try.underlying5 Try.underlying9,
        run_bytesToString w _ 0 cap [] (by simpa using run_loadCells_list (P := Try.prog) w (⟨b, o, spot⟩ : Addr) [] (by simp))]
      rfl
    · have hpos : 0 < l.length := List.length_pos_iff.2 h0
      obtain ⟨b', o', he, _⟩ := h.cells 0 hpos
      injection he with he
      injection he with e1 e2 e3
      subst e1 e2 e3
      refine run_convert_bytes_arg w 22 5 Try.underlying22 Try.underlying5 b o l.length cap l rfl (fun i hi => ?_) 9 Try.underlying9
      obtain ⟨b', o', he, hc⟩ := h.cells i hi
      injection he with he
      injection he with e1 e2
      subst e1 e2
      exact hc
theorem str_eq {l b : List Int} (hl : Byte l) (hb : Byte b) : ((strOfNums l).toList == (strOfNums b).toList) = decide (l = b) := by
  rw [ByteArray.toList_eq, ByteArray.toList_eq, strOfNums_data, strOfNums_data]
  have inj : ∀ (l b : List Int), Byte l → Byte b → (l.map (fun n => UInt8.ofNat n.toNat)) = (b.map (fun n => UInt8.ofNat n.toNat)) → l = b := by
    intro l
    induction l with
    | nil => intro b _ _ h; cases b with
      | nil => rfl
      | cons => simp at h
    | cons x r ih =>
      intro b h1 h2 h
      cases b with
      | nil => simp at h
      | cons y s =>
        simp only [List.map_cons, List.cons.injEq] at h
        have hx := h1 x (List.mem_cons_self ..)
        have hy := h2 y (List.mem_cons_self ..)
        have e := congrArg UInt8.toNat h.1
        simp only [UInt8.toNat_ofNat'] at e
        have hxy : x = y := by omega
        rw [hxy, ih s (fun z hz => h1 z (List.mem_cons_of_mem _ hz)) (fun z hz => h2 z (List.mem_cons_of_mem _ hz)) h.2]
  rw [Bool.eq_iff_iff, beq_iff_eq, decide_eq_true_eq]
  exact ⟨inj l b hl hb, fun h => by rw [h]⟩
def BoolPost (w : World) (b : Bool) (e : Ending) (w' : World) : Prop := e = .returned (.bool b) ∧ w = w'
set_option maxHeartbeats 400000 in
set_option maxRecDepth 100000 in
theorem same_any (ao bo : Option Addr) (ca cb n m : Nat) (l b : List Int) (w : World) (hl : Bs w ao ca l) (hb : Bs w bo cb b) (hn : l.length = n) (hm : b.length = m) :
    Calls Try.prog 20 #[.slice ao n ca, .slice bo m cb] w (BoolPost w (decide (l = b))) := by
  subst hn hm
  have h1 := conv_bs hl
  have h2 := conv_bs hb
  have HQ := Lib.hid (str_eq hl.byte hb.byte)
  clear hl hb
  go_enter Try.func20, Try.ntmps20
  go_wp2
  go_ret
  exact ⟨by rw [← HQ.out]; rfl, rfl⟩
end Go.Proofs.Ytaniflbhkddlhaa
