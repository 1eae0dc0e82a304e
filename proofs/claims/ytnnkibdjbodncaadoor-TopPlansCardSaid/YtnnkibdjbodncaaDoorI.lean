/- Profiles: the small functions. No condition. -/
import Derived.Test.YtnnkibdjbodncaaDoorH
namespace Go.Proofs.YtnnkibdjbodncaaDoor
open Go.RowKit
/-- A step: a time, and the nodes that are free from it on (all in the first word). -/
abbrev St := Int × Int
def stC (s : St) : List Value := [.int .i64 s.1, .int .u64 s.2, .int .u64 0, .int .u64 0, .int .u64 0]
def stV (s : St) : Value := .agg (stC s).toArray
def stCs (l : List St) : List Value := l.flatMap stC
theorem flat_len {α : Type} (f : α → List Value) (k : Nat) (hk : ∀ a, (f a).length = k) (l : List α) : (l.flatMap f).length = l.length * k := by
  induction l with
  | nil => simp
  | cons a l ih => rw [List.flatMap_cons, List.length_append, ih, hk, List.length_cons, Nat.add_mul]; omega
theorem flat_get {α : Type} (f : α → List Value) (k : Nat) (hk : ∀ a, (f a).length = k) : ∀ (l : List α) (i j : Nat) (a : α), l[i]? = some a → j < k → (l.flatMap f)[i * k + j]? = (f a)[j]?
  | [], i, j, a, h, _ => by simp at h
  | b :: l, 0, j, a, h, hj => by
    simp at h; subst h
    rw [List.flatMap_cons, Nat.zero_mul, Nat.zero_add, List.getElem?_append_left (by rw [hk]; exact hj)]
  | b :: l, i + 1, j, a, h, hj => by
    simp at h
    rw [List.flatMap_cons, List.getElem?_append_right (by rw [hk, Nat.add_mul]; omega), hk, show (i + 1) * k + j - k = i * k + j by rw [Nat.add_mul]; omega]
    exact flat_get f k hk l i j a h hj
theorem stC_len (s : St) : (stC s).length = 5 := rfl
theorem stCs_len (l : List St) : (stCs l).length = l.length * 5 := flat_len stC 5 stC_len l
/-- A row of rows, in a block of its own. -/
def Rows (e k : Nat) (w : World) (B : Nat) (v : Value) (n : Nat) (xs : List Value) : Prop := w.ownsRow B e k v n xs
def StRow (w : World) (B : Nat) (v : Value) (l : List St) : Prop := w.ownsRow B 71 5 v l.length (stCs l)
theorem StRow.form {w : World} {B : Nat} {v : Value} {l : List St} (h : StRow w B v l) (hl : l ≠ []) :
    ∃ g cap, v = .slice (some ⟨g, 0, none⟩) l.length cap ∧ B ≤ g ∧ g < w.heap.size ∧ l.length ≤ cap ∧ cap ≤ maxLen ∧ ∀ i s, l[i]? = some s → w.cell? ⟨g, i * 5, none⟩ = some (.int .i64 s.1) ∧ w.cell? ⟨g, i * 5 + 1, none⟩ = some (.int .u64 s.2) ∧ w.cell? ⟨g, i * 5 + 2, none⟩ = some (.int .u64 0) ∧ w.cell? ⟨g, i * 5 + 3, none⟩ = some (.int .u64 0) ∧ w.cell? ⟨g, i * 5 + 4, none⟩ = some (.int .u64 0) := by
  have hlt := h.lt
  rcases h.2 with ⟨_, h0⟩ | ⟨g, cap, cur, rfl, hb, hg, hn, hc, _, _⟩
  · exact absurd (List.eq_nil_of_length_eq_zero h0) hl
  · refine ⟨g, cap, rfl, hb, (hlt g rfl).2, hn, hc, fun i s hi => ?_⟩
    have hil : i < l.length := (List.getElem?_eq_some_iff.1 hi).1
    refine ⟨?_, ?_, ?_, ?_, ?_⟩
    · rw [World.ownsRow.cellAt h _ (by omega)]; exact flat_get stC 5 stC_len l i 0 s hi (by omega)
    · rw [World.ownsRow.cellAt h _ (by omega)]; exact flat_get stC 5 stC_len l i 1 s hi (by omega)
    · rw [World.ownsRow.cellAt h _ (by omega)]; exact flat_get stC 5 stC_len l i 2 s hi (by omega)
    · rw [World.ownsRow.cellAt h _ (by omega)]; exact flat_get stC 5 stC_len l i 3 s hi (by omega)
    · rw [World.ownsRow.cellAt h _ (by omega)]; exact flat_get stC 5 stC_len l i 4 s hi (by omega)
theorem StRow.below {w w' : World} {B N : Nat} {v : Value} {l : List St} (h : StRow w B v l) (hb : Below N w w') (hN : ∀ g, v.ownBlock = some g → g < N) : StRow w' B v l := by
  have hg : w.grownBy w' none ∨ True := Or.inr trivial
  refine ⟨h.1, ?_⟩
  rcases h.2 with hn | ⟨g, cap, cur, rfl, hb2, hgg, rest⟩
  · exact .inl hn
  · exact .inr ⟨g, cap, cur, rfl, hb2, by rw [hb.block g (hN g rfl)]; exact hgg, rest⟩
def BoolPost (w : World) (b : Bool) (e : Ending) (w' : World) : Prop := e = .returned (.bool b) ∧ Below w.heap.size w w'
set_option maxHeartbeats 1000000 in
theorem diff_any (s : St) (t : Int) (w : World) (h0 : 0 ≤ s.1) (h1 : s.1 < 4398046511104) (h2 : 0 ≤ t) (h3 : t < 4398046511104) :
    Calls Tryd.prog 31 #[.agg #[.int .i64 s.1, .int .u64 s.2, .int .u64 0, .int .u64 0, .int .u64 0], .int .i64 t] w (fun e w' => e = .returned (.int .i64 (s.1 - t)) ∧ Below w.heap.size w w') := by
  go_enter Tryd.func31, Tryd.ntmps31
  go_wp2_with fail
  go_ret
  exact ⟨rfl, below_alloc' w _⟩
theorem isTime_any (t : Int) (w : World) (h0 : 0 ≤ t) (h1 : t ≤ 1099511627776) : Calls Tryd.prog 16 #[.int .i64 t] w (fun e w' => e = .returned (.bool true) ∧ w = w') := by
  go_enter Tryd.func16, Tryd.ntmps16
  go_wp2_with fail
  go_ret
  exact ⟨rfl, rfl⟩
/-- A profile's struct: its nodes, its steps. -/
def Prof (w : World) (f : Nat) (u : Int) (v : Value) : Prop := w.heap[f]? = some (.cells #[.int .u64 u, .int .u64 0, .int .u64 0, .int .u64 0, v] 74)
theorem Prof.lt {w : World} {f : Nat} {u : Int} {v : Value} (h : Prof w f u v) : f < w.heap.size := by
  unfold Prof at h
  exact (Array.getElem?_eq_some_iff.1 h).1
theorem Prof.cells {w : World} {f : Nat} {u : Int} {v : Value} (h : Prof w f u v) :
    w.cell? ⟨f, 0, none⟩ = some (.int .u64 u) ∧ w.cell? ⟨f, 1, none⟩ = some (.int .u64 0) ∧ w.cell? ⟨f, 2, none⟩ = some (.int .u64 0) ∧ w.cell? ⟨f, 3, none⟩ = some (.int .u64 0) ∧ w.cell? ⟨f, 4, none⟩ = some v := by
  unfold Prof at h
  simp [World.cell?, h]
theorem Prof.frozen {w : World} {f : Nat} {u : Int} {v : Value} (h : Prof w f u v) (o : Nat) : w.frozen? ⟨f, o, none⟩ = false := by
  unfold Prof at h
  simp [World.frozen?, h]
theorem Prof.below {w w' : World} {f : Nat} {u : Int} {v : Value} {N : Nat} (h : Prof w f u v) (hb : Below N w w') (hN : f < N) : Prof w' f u v := by
  unfold Prof; rw [hb.block f hN]; exact h
/-- A profile: its struct, its steps (one at least). -/
structure IsProf (w : World) (f : Nat) (u : Int) (l : List St) (g cap : Nat) : Prop where
  blk : Prof w f u (.slice (some ⟨g, 0, none⟩) l.length cap)
  row : StRow w 0 (.slice (some ⟨g, 0, none⟩) l.length cap) l
  some : l ≠ []
theorem IsProf.glt {w : World} {f : Nat} {u : Int} {l : List St} {g cap : Nat} (h : IsProf w f u l g cap) : g < w.heap.size := (h.row.lt g rfl).2
theorem IsProf.below {w w' : World} {f : Nat} {u : Int} {l : List St} {g cap : Nat} (h : IsProf w f u l g cap) (hb : Below w.heap.size w w') : IsProf w' f u l g cap :=
  ⟨h.blk.below hb h.blk.lt, h.row.below hb (fun k hk => (h.row.lt k hk).2), h.some⟩
set_option maxHeartbeats 1000000 in
theorem ok_any {w : World} {f : Nat} {u : Int} {l : List St} {g cap : Nat} (h : IsProf w f u l g cap) : Calls Tryd.prog 24 #[.pointer (some ⟨f, 0, none⟩)] w (fun e w' => e = .returned (.bool true) ∧ w = w') := by
  obtain ⟨c0, c1, c2, c3, c4⟩ := h.blk.cells
  have hl : 0 < l.length := by cases hl : l with | nil => exact absurd hl h.some | cons a b => simp
  obtain ⟨n, hn⟩ : ∃ n, l.length = n := ⟨_, rfl⟩
  rw [hn] at c4 hl
  clear h hn
  go_enter Tryd.func24, Tryd.ntmps24
  go_wp2_with fail
  go_ret
  exact ⟨rfl, rfl⟩
set_option maxHeartbeats 1000000 in
theorem new_any (u t : Int) (w : World) (h0 : 0 ≤ t) (h1 : t ≤ 1099511627776) :
    Calls Tryd.prog 17 #[.agg #[.int .u64 u, .int .u64 0, .int .u64 0, .int .u64 0], .int .i64 t] w (fun e w' => ∃ f g, e = .returned (.tuple #[.pointer (some ⟨f, 0, none⟩), .int .i64 0]) ∧ IsProf w' f u [(t, u)] g 1 ∧ w.heap.size ≤ f ∧ w.heap.size ≤ g ∧ f ≠ g ∧ Below w.heap.size w w') := by
  go_enter Tryd.func17, Tryd.ntmps17
  go_wp2_with fail
  have H3 := three w (.cells #[.int .u64 u, .int .u64 0, .int .u64 0, .int .u64 0] 28) (.cells #[.int .i64 t, .int .u64 u, .int .u64 0, .int .u64 0, .int .u64 0] 71) (.cells #[.int .u64 u, .int .u64 0, .int .u64 0, .int .u64 0, .slice (some ⟨w.heap.size + 1, 0, none⟩) 1 1] 74)
  refine bodyPost_ret (v := .tuple #[.pointer (some ⟨w.heap.size + 1 + 1, 0, none⟩), .int .i64 0]) (by simp [results, Tryd.results17, go_sem]) rfl ?_
  exact ⟨_, _, rfl, ⟨H3.2.2, ⟨rfl, .inr ⟨_, _, _, rfl, Nat.zero_le _, H3.2.1, Nat.le_refl _, by unfold maxLen; simp, rfl, rfl⟩⟩, by simp⟩, by omega, by omega, by omega, ((below_alloc' w _).alloc (by simp) _).alloc (by simp; omega) _⟩
/-- How many steps lie ahead of a time, and at it or ahead. -/
def nLess (l : List St) (t : Int) : Nat := l.countP fun s => s.1 < t
def nUpto (l : List St) (t : Int) : Nat := l.countP fun s => s.1 ≤ t
def Rising (l : List St) : Prop := l.Pairwise fun a b => a.1 < b.1
def Timed (l : List St) : Prop := ∀ s ∈ l, 0 ≤ s.1 ∧ s.1 < 2199023255552
theorem nLess_split : ∀ (l : List St) (t : Int) (i : Nat), i ≤ l.length → (∀ m s, l[m]? = some s → m < i → s.1 < t) → (∀ m s, l[m]? = some s → i ≤ m → t ≤ s.1) → nLess l t = i
  | [], t, i, hi, _, _ => by simp [nLess] at hi ⊢; exact hi.symm
  | a :: l, t, 0, hi, h1, h2 => by
    have ih := nLess_split l t 0 (Nat.zero_le _) (fun _ _ _ h => by omega) (fun m s hs _ => h2 (m + 1) s (by simpa using hs) (by omega))
    have h0 := h2 0 a rfl (by omega)
    unfold nLess at ih ⊢
    rw [List.countP_cons, ih]
    simp; omega
  | a :: l, t, i + 1, hi, h1, h2 => by
    have ih := nLess_split l t i (by simpa using hi) (fun m s hs h => h1 (m + 1) s (by simpa using hs) (by omega)) (fun m s hs h => h2 (m + 1) s (by simpa using hs) (by omega))
    have h0 := h1 0 a rfl (by omega)
    unfold nLess at ih ⊢
    rw [List.countP_cons, ih]
    simp [h0]
def foundAt (l : List St) (t : Int) : Bool := l.any fun s => s.1 = t
theorem rising_get {l : List St} (hr : Rising l) {i j : Nat} {a b : St} (hi : l[i]? = some a) (hj : l[j]? = some b) (hij : i < j) : a.1 < b.1 := by
  obtain ⟨h1, rfl⟩ := List.getElem?_eq_some_iff.1 hi
  obtain ⟨h2, rfl⟩ := List.getElem?_eq_some_iff.1 hj
  exact List.pairwise_iff_getElem.1 hr i j h1 h2 hij
theorem found_at {l : List St} (hr : Rising l) {t : Int} {a : Nat} {s : St} (hs : l[a]? = some s) (h1 : ∀ m s, l[m]? = some s → m < a → s.1 < t) (h2 : ∀ m s, l[m]? = some s → a ≤ m → t ≤ s.1) : foundAt l t = decide (s.1 = t) := by
  unfold foundAt
  by_cases he : s.1 = t
  · rw [decide_eq_true he, List.any_eq_true]
    exact ⟨s, List.mem_of_getElem? hs, by simpa using he⟩
  · rw [decide_eq_false he, List.any_eq_false]
    intro x hx
    obtain ⟨m, hm⟩ := List.mem_iff_getElem?.1 hx
    have hst := h2 a s hs (Nat.le_refl _)
    rcases Nat.lt_trichotomy m a with h | h | h
    · have := h1 m x hm h; simp; omega
    · subst h; rw [hs] at hm; cases hm; simpa using he
    · have := rising_get hr hs hm h; simp; omega
theorem found_none {l : List St} {t : Int} (h1 : ∀ (m : Nat) (s : St), l[m]? = some s → s.1 < t) : foundAt l t = false := by
  unfold foundAt
  rw [List.any_eq_false]
  intro x hx
  obtain ⟨m, hm⟩ := List.mem_iff_getElem?.1 hx
  have := h1 m x hm; simp; omega
set_option maxHeartbeats 4000000 in
theorem search_any {w : World} {g cap : Nat} {l : List St} (h : StRow w 0 (.slice (some ⟨g, 0, none⟩) l.length cap) l) (hl : l ≠ []) (hm : l.length ≤ 4096) (hr : Rising l) (ht : Timed l) (t : Int) (t0 : 0 ≤ t) (t1 : t < 4398046511104) :
    Calls Tryd.prog 30 #[.slice (some ⟨g, 0, none⟩) l.length cap, .int .i64 t, .func (.func 31) #[] #[]] w (fun e w' => e = .returned (.tuple #[.int .i64 (nLess l t), .bool (foundAt l t)]) ∧ Below w.heap.size w w') := by
  obtain ⟨g', cap', he, _, hg, hc, hcm, hcell⟩ := h.form hl
  simp only [Value.slice.injEq, Option.some.injEq, Addr.mk.injEq, and_true, true_and] at he
  obtain ⟨rfl, rfl⟩ := he
  obtain ⟨n, hn⟩ : ∃ n, l.length = n := ⟨_, rfl⟩
  rw [hn] at hm hc ⊢
  have HC := Lib.hid hcell
  clear hcell
  go_enter Tryd.func30, Tryd.ntmps30
  go_wp2_with fail
  go_loopw [9, 10] (fun i j wr => ∃ (a b : Nat), i = .int .i64 a ∧ j = .int .i64 b ∧ a ≤ b ∧ b ≤ n ∧ Hid (∀ m s, l[m]? = some s → m < a → s.1 < t) ∧ Hid (∀ m s, l[m]? = some s → b ≤ m → t ≤ s.1) ∧ Below w.heap.size w wr) (fun i j _ => (intOf j).toNat - (intOf i).toNat)
  case atStart => exact ⟨0, n, rfl, rfl, Nat.zero_le _, Nat.le_refl _, Lib.hid fun m s _ h => by omega, Lib.hid fun m s hs h => by have := (List.getElem?_eq_some_iff.1 hs).1; omega, Below.refl _ _⟩
  case round =>
    obtain ⟨a, b, rfl, rfl, hab, hbn, HA, HB, hbel⟩ := hrel
    have HL := Lib.hid hbel
    have HG := Lib.hid hg
    by_cases hlt : a < b
    · obtain ⟨s, hs⟩ : ∃ s, l[(a + b) / 2]? = some s := ⟨l[(a + b) / 2]'(by omega), List.getElem?_eq_getElem (by omega)⟩
      have hC := HC.out _ s hs
      simp only [← hbel.cell (p := ⟨g, _, none⟩) hg] at hC
      obtain ⟨c0, c1, c2, c3, c4⟩ := hC
      have HT := Lib.hid (ht s (List.mem_of_getElem? hs))
      have HS := Lib.hid hs
      clear hs hbel hg
      go_wp2_with (go_at_call 31; refine (diff_any s t _ HT.out.1 (by have := HT.out.2; omega) t0 t1).mono ?_; rintro e w' ⟨rfl, hb2⟩; have HL2 := Lib.hid (HL.out.trans (hb2.mono HL.out.size)); clear hb2)
      · rename_i hd
        have HA' := HA.out
        have HB' := HB.out
        have hs' := HS.out
        refine ⟨⟨(a + b) / 2 + 1, b, by go_num, rfl, by omega, hbn, ?_, HB, HL2.out⟩, by simp only [intOf]; omega⟩
        refine Lib.hid fun m x hx hm => ?_
        by_cases he : m = (a + b) / 2
        · subst he; rw [hs'] at hx; cases hx; omega
        · have := rising_get hr hx hs' (by omega); omega
      · rename_i hd
        have hs' := HS.out
        refine ⟨⟨a, (a + b) / 2, rfl, by go_num, by omega, by omega, HA, ?_, HL2.out⟩, by simp only [intOf]; omega⟩
        refine Lib.hid fun m x hx hm => ?_
        by_cases he : m = (a + b) / 2
        · subst he; rw [hs'] at hx; cases hx; omega
        · have := rising_get hr hs' hx (by omega); omega
    · obtain rfl : a = b := by omega
      by_cases hlt2 : a < n
      · obtain ⟨s, hs⟩ : ∃ s, l[a]? = some s := ⟨l[a]'(by omega), List.getElem?_eq_getElem (by omega)⟩
        have hC := HC.out _ s hs
        simp only [← hbel.cell (p := ⟨g, _, none⟩) hg] at hC
        obtain ⟨c0, c1, c2, c3, c4⟩ := hC
        have HT := Lib.hid (ht s (List.mem_of_getElem? hs))
        have HS := Lib.hid hs
        clear hs hbel hg
        go_wp2_with (go_at_call 31; refine (diff_any s t _ HT.out.1 (by have := HT.out.2; omega) t0 t1).mono ?_; rintro e w' ⟨rfl, hb2⟩; have HL2 := Lib.hid (HL.out.trans (hb2.mono HL.out.size)); clear hb2)
        refine bodyPost_ret (v := .tuple #[.int .i64 (nLess l t), .bool (foundAt l t)]) ?_ rfl ⟨rfl, HL2.out⟩
        have e1 := nLess_split l t a (by omega) HA.out HB.out
        have e2 := found_at hr HS.out HA.out HB.out
        rw [e1, e2]
        have e3 : (s.1 - t == 0) = decide (s.1 = t) := by
          rw [Bool.eq_iff_iff]; simp; omega
        simp [results, Tryd.results30, go_sem, e3]
      · have e1 := nLess_split l t a (by omega) HA.out HB.out
        have e2 : foundAt l t = false := found_none fun m s hs => HA.out m s hs (by have := (List.getElem?_eq_some_iff.1 hs).1; omega)
        have E1 := Lib.hid e1
        have E2 := Lib.hid e2
        clear e1 e2
        go_wp2_with fail
        refine bodyPost_ret (v := .tuple #[.int .i64 (nLess l t), .bool (foundAt l t)]) ?_ rfl ⟨rfl, HL.out⟩
        rw [E1.out, E2.out]
        simp [results, Tryd.results30, go_sem]
theorem upto_less : ∀ (l : List St) (t : Int), Rising l → (nUpto l t : Int) = nLess l t + if foundAt l t = true then 1 else 0
  | [], t, _ => by simp [nUpto, nLess, foundAt]
  | a :: l, t, h => by
    obtain ⟨h1, h2⟩ := List.pairwise_cons.1 h
    have ih := upto_less l t h2
    unfold nUpto nLess foundAt at ih ⊢
    rw [List.countP_cons, List.countP_cons, List.any_cons]
    by_cases he : a.1 = t
    · have hn : (l.any fun s => decide (s.1 = t)) = false := by
        rw [List.any_eq_false]
        intro x hx
        have := h1 x hx
        simp; omega
      rw [hn] at ih ⊢
      simp [he] at ih ⊢
      omega
    · by_cases hlt : a.1 < t
      · rw [decide_eq_false he, decide_eq_true hlt, decide_eq_true (show a.1 ≤ t by omega), Bool.false_or]
        simp only [if_true, Int.natCast_add]
        omega
      · rw [decide_eq_false he, decide_eq_false hlt, decide_eq_false (show ¬ a.1 ≤ t by omega), Bool.false_or]
        simpa using ih
set_option maxHeartbeats 4000000 in
theorem find_any {w : World} {f : Nat} {u : Int} {l : List St} {g cap : Nat} (h : IsProf w f u l g cap) (hm : l.length ≤ 4096) (hr : Rising l) (ht : Timed l) (t : Int) (t0 : 0 ≤ t) (t1 : t < 4398046511104) :
    Calls Tryd.prog 25 #[.pointer (some ⟨f, 0, none⟩), .int .i64 t] w (fun e w' => e = .returned (.int .i64 (nUpto l t - 1)) ∧ Below w.heap.size w w') := by
  have HS := Lib.hid (search_any h.row h.some hm hr ht t t0 t1)
  obtain ⟨c0, c1, c2, c3, c4⟩ := h.blk.cells
  have hup := upto_less l t hr
  have hle : nLess l t ≤ l.length := List.countP_le_length
  obtain ⟨b, hb⟩ : ∃ b, foundAt l t = b := ⟨_, rfl⟩
  obtain ⟨k, hk⟩ : ∃ k, nLess l t = k := ⟨_, rfl⟩
  obtain ⟨m, hm2⟩ : ∃ m, nUpto l t = m := ⟨_, rfl⟩
  rw [hb, hk, hm2] at hup
  rw [hb, hk] at HS
  rw [hk] at hle
  rw [hm2]
  clear h hb hk hm2
  go_enter Tryd.func25, Tryd.ntmps25
  go_wp2_with (go_at_call 30; refine HS.out.mono ?_; rintro e w2 ⟨rfl, hb2⟩; have HL := Lib.hid hb2; clear hb2)
  all_goals rename_i hbt
  · have e : (m : Int) - 1 = k := by rw [hbt, if_pos rfl] at hup; omega
    rw [e]
    go_ret
    exact ⟨rfl, HL.out⟩
  · have e : (m : Int) - 1 = k - 1 := by rw [hbt, if_neg (by simp)] at hup; omega
    rw [e]
    go_ret
    exact ⟨rfl, HL.out⟩
set_option maxHeartbeats 4000000 in
theorem span_any {w : World} {f : Nat} {u : Int} {l : List St} {g cap : Nat} (h : IsProf w f u l g cap) (a b : Int) (s0 : St) (h0 : l[0]? = some s0) (ha : s0.1 ≤ a) (hab : a < b) (hb : b ≤ 2199023255552) :
    Calls Tryd.prog 27 #[.pointer (some ⟨f, 0, none⟩), .int .i64 a, .int .i64 b] w (fun e w' => e = .returned (.int .i64 0) ∧ w = w') := by
  have HK := Lib.hid (ok_any h)
  obtain ⟨c0, c1, c2, c3, c4⟩ := h.blk.cells
  have hl : 0 < l.length := by cases hl : l with | nil => exact absurd hl h.some | cons a b => simp
  obtain ⟨g', cap', he, _, hg, hc, hcm, hcell⟩ := h.row.form h.some
  simp only [Value.slice.injEq, Option.some.injEq, Addr.mk.injEq, and_true, true_and] at he
  obtain ⟨rfl, rfl⟩ := he
  obtain ⟨d0, d1, d2, d3, d4⟩ := hcell 0 s0 h0
  clear hcell h
  rw [Nat.zero_mul] at d0
  obtain ⟨n, hn⟩ : ∃ n, l.length = n := ⟨_, rfl⟩
  rw [hn] at c4 hl hc
  clear hn
  go_enter Tryd.func27, Tryd.ntmps27
  go_wp2_with (go_at_call 24; refine HK.out.mono ?_; rintro e w2 ⟨rfl, rfl⟩)
  go_ret
  exact ⟨rfl, rfl⟩
end Go.Proofs.YtnnkibdjbodncaaDoor
