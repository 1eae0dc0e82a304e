/- A pass starts a job that may be started. No condition. -/
import Derived.Test.YtnnkibdjbodncaaDoorUf
namespace Go.Proofs.YtnnkibdjbodncaaDoor
open Go.RowKit
def tryRs : List Ru := [(1, 10)]
def tryWs : List Wi := [⟨1, 2, 5, 3⟩, ⟨2, 1, 10, 3⟩]
theorem try_plans : Plans 0 (runF 3 tryRs) tryWs [some (10, 3), some (0, 2)] := by
  refine ⟨⟨by omega, ?_, ?_, by omega⟩, ⟨by omega, ?_, fun t h1 h2 => by omega, by omega⟩, trivial⟩
  · have h := firstN_low (x := avail (runF 3 tryRs) ⟨1, 2, 5, 3⟩ 10) (n := 2) (by decide +kernel) (by decide +kernel)
    rwa [show firstN (avail (runF 3 tryRs) ⟨1, 2, 5, 3⟩ 10) 2 = 3 by decide +kernel] at h
  · intro t h1 h2
    have h : ∀ k : Fin 10, popN (avail (runF 3 tryRs) ⟨1, 2, 5, 3⟩ ((k.val : Nat) : Int)) < 2 := by decide +kernel
    have := h ⟨t.toNat, by omega⟩
    simp only [show ((t.toNat : Nat) : Int) = t by omega] at this
    exact this
  · have h := firstN_low (x := avail (taken (runF 3 tryRs) 3 10 5) ⟨2, 1, 10, 3⟩ 0) (n := 1) (by decide +kernel) (by decide +kernel)
    rwa [show firstN (avail (taken (runF 3 tryRs) 3 10 5) ⟨2, 1, 10, 3⟩ 0) 1 = 2 by decide +kernel] at h
theorem try_right : RightSc 3 0 tryRs tryWs := by
  refine ⟨⟨?_, ?_, ?_, List.pairwise_singleton _ _⟩, by omega, by omega, by decide, ?_, by decide, ?_, ?_⟩
  · intro r hr; simp only [tryRs, List.mem_singleton] at hr; subst hr; decide
  · intro r hr i hi
    simp only [tryRs, List.mem_singleton] at hr; subst hr
    have h8 := bit_lt (x := 1) (by omega) hi
    have : ∀ k : Fin 8, (1 : Nat).testBit k.val = true → (3 : Nat).testBit k.val = true := by decide
    exact this ⟨i, h8⟩ hi
  · intro r hr; simp only [tryRs, List.mem_singleton] at hr; subst hr; decide
  · intro r hr; simp only [tryRs, List.mem_singleton] at hr; subst hr; decide
  · simp [tryWs]
  · intro x hx
    simp only [tryWs, List.mem_cons, List.not_mem_nil, or_false] at hx
    rcases hx with rfl | rfl <;> simp
theorem reads_new {α : Type} {k : Nat} {c : α → List Value} (hk : ∀ a, (c a).length = k) {w : World} {b : Nat} {l : List α} {e : TypeId} (h : w.heap[b]? = some (.cells (l.flatMap c).toArray e)) : Reads k c w (.slice (some ⟨b, 0, none⟩) l.length l.length) l := by
  refine ⟨_, _, rfl, Nat.le_refl _, fun i a hi => ⟨b, rfl, (Array.getElem?_eq_some_iff.1 h).1, fun j u hj => ?_⟩⟩
  have hjk : j < k := by rw [← hk a]; exact (List.getElem?_eq_some_iff.1 hj).1
  have := flat_get c k hk l i j a hi hjk
  rw [hj] at this
  simp [World.cell?, h, this]
theorem four_new (w : World) (o0 o1 o2 o3 : Obj) : ((((w.alloc o0).alloc o1).alloc o2).alloc o3).heap[w.heap.size + 1]? = some o1 ∧ ((((w.alloc o0).alloc o1).alloc o2).alloc o3).heap[w.heap.size + 1 + 1]? = some o2 := by
  obtain ⟨_, h1, h2⟩ := three w o0 o1 o2
  constructor
  · rw [Below.heap_alloc _ _ _ (by simp)]; exact h1
  · rw [Below.heap_alloc _ _ _ (by simp)]; exact h2
def TryPost (w : World) (e : Ending) (w' : World) : Prop := ∃ g1 c1 g2 c2, e = .returned (.tuple #[.slice (some ⟨g1, 0, none⟩) 1 c1, .slice (some ⟨g2, 0, none⟩) 1 c2, .int .i64 0]) ∧ w'.cell? ⟨g1, 0, none⟩ = some (.int .i64 2) ∧ w'.cell? ⟨g2, 1, none⟩ = some (.int .i64 10) ∧ 1 ≤ c1 ∧ 1 ≤ c2 ∧ Below w.heap.size w w'
theorem try_pass {w : World} {a b : Nat} (hT : Tab w) (hr : Reads 5 ruC w (.slice (some ⟨a, 0, none⟩) 1 1) tryRs) (hw : Reads 7 wiC w (.slice (some ⟨b, 0, none⟩) 2 2) tryWs) :
    Calls Tryd.prog 7 #[.agg #[.int .i64 0, .int .u64 3, .int .u64 0, .int .u64 0, .int .u64 0, .slice (some ⟨a, 0, none⟩) 1 1, .slice (some ⟨b, 0, none⟩) 2 2], .int .i64 2] w (TryPost w) := by
  refine (pass_any (u := 3) (by omega) try_right hr hw hT (by omega) (fun r hr => by simp only [tryRs, List.mem_singleton] at hr; subst hr; decide) (by decide)).mono ?_
  rintro e w' ⟨vs, vp, ps, rfl, hp, hs, hl, -, hb⟩
  obtain rfl := hp.unique try_plans
  obtain ⟨ao, c, rfl, hc, hcell⟩ := (show RowOf 48 6 plC w' w.heap.size vs [(2, 0, 2)] from hs).reads plC_len
  obtain ⟨ao2, c2, rfl, hc2, hcell2⟩ := (show RowOf 48 6 plC w' w.heap.size vp [(1, 10, 3)] from hl).reads plC_len
  obtain ⟨g, rfl, -, h1⟩ := hcell 0 _ rfl
  obtain ⟨g2, rfl, -, h2⟩ := hcell2 0 _ rfl
  exact ⟨g, c, g2, c2, rfl, h1 0 _ rfl, h2 1 _ rfl, hc, hc2, hb⟩
set_option maxHeartbeats 4000000 in
theorem passes_any {w : World} (hT : Tab w) : Calls Tryd.prog 4 #[] w (BoolPost w true) := by
  have h1 := below_alloc' w (.cells #[.int .u64 3, .int .u64 0, .int .u64 0, .int .u64 0] 28)
  have h2 := h1.alloc (by simp) (.cells #[.int .u64 1, .int .u64 0, .int .u64 0, .int .u64 0, .int .i64 10] 37)
  have h3 := h2.alloc (by simp; omega) (.cells #[.int .i64 1, .int .i64 2, .int .i64 5, .int .u64 3, .int .u64 0, .int .u64 0, .int .u64 0, .int .i64 2, .int .i64 1, .int .i64 10, .int .u64 3, .int .u64 0, .int .u64 0, .int .u64 0] 41)
  have h4 := h3.alloc (by simp; omega) (.cells #[.int .i64 0, .int .u64 3, .int .u64 0, .int .u64 0, .int .u64 0, .slice (some ⟨w.heap.size + 1, 0, none⟩) 1 1, .slice (some ⟨w.heap.size + 1 + 1, 0, none⟩) 2 2] 32)
  have hn := four_new w (.cells #[.int .u64 3, .int .u64 0, .int .u64 0, .int .u64 0] 28) (.cells #[.int .u64 1, .int .u64 0, .int .u64 0, .int .u64 0, .int .i64 10] 37) (.cells #[.int .i64 1, .int .i64 2, .int .i64 5, .int .u64 3, .int .u64 0, .int .u64 0, .int .u64 0, .int .i64 2, .int .i64 1, .int .i64 10, .int .u64 3, .int .u64 0, .int .u64 0, .int .u64 0] 41) (.cells #[.int .i64 0, .int .u64 3, .int .u64 0, .int .u64 0, .int .u64 0, .slice (some ⟨w.heap.size + 1, 0, none⟩) 1 1, .slice (some ⟨w.heap.size + 1 + 1, 0, none⟩) 2 2] 32)
  have HP := Lib.hid (try_pass (hT.below h4) (reads_new (e := 37) (l := tryRs) (k := 5) (c := ruC) (fun _ => rfl) hn.1) (reads_new (e := 41) (l := tryWs) (k := 7) (c := wiC) (fun _ => rfl) hn.2))
  have H4 := Lib.hid h4
  clear h1 h2 h3 h4 hn
  go_enter Tryd.func4, Tryd.ntmps4
  go_wp2_with (go_at_call 7; refine HP.out.mono ?_; rintro e w5 ⟨g1, c1, g2, c2, rfl, k1, k2, l1, l2, hb⟩; have HB := Lib.hid (H4.out.trans (hb.mono H4.out.size)); clear hb)
  go_ret
  exact ⟨rfl, HB.out⟩
end Go.Proofs.YtnnkibdjbodncaaDoor
