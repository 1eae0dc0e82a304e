/- The statement's own code: what it begins with. No condition. -/
import Derived.Test.YtnnkibdjbodncaaDoorSh
import Derived.Test.YtnnkibdjbodncaaDoorSg
namespace Go.Proofs.YtnnkibdjbodncaaDoor
open Go.RowKit
def buC (b : Nat × Nat) : List Value := [.int .u8 b.1, .int .u8 b.2]
def wsC (x : Nat × Nat × Nat) : List Value := [.int .u8 x.1, .int .u8 x.2.1, .int .u8 x.2.2]
theorem Tryd.info37 : (Tryd.prog.info? 37).map (fun i => (i.zero, i.size, i.bytes)) = some (some (.agg #[.int .u64 0, .int .u64 0, .int .u64 0, .int .u64 0, .int .i64 0]), 5, 40) := by kernel_rfl
theorem Tryd.info41 : (Tryd.prog.info? 41).map (fun i => (i.zero, i.size, i.bytes)) = some (some (.agg #[.int .i64 0, .int .i64 0, .int .i64 0, .int .u64 0, .int .u64 0, .int .u64 0, .int .u64 0]), 7, 56) := by kernel_rfl
theorem ruC_len (r : Ru) : (ruC r).length = 5 := rfl
theorem wiC_len (x : Wi) : (wiC x).length = 7 := rfl
theorem ru_news {W : World} {b : Nat} {r : Ru} (h : RuB W b r) : ∀ j u, (ruC r)[j]? = some u → W.cell? ((⟨b, 0, none⟩ : Addr).add j) = some u := by
  intro j u hj
  unfold RuB at h
  match j, hj with
  | 0, hj => simp [ruC] at hj; subst hj; simp [Addr.add, World.cell?, h]
  | 1, hj => simp [ruC] at hj; subst hj; simp [Addr.add, World.cell?, h]
  | 2, hj => simp [ruC] at hj; subst hj; simp [Addr.add, World.cell?, h]
  | 3, hj => simp [ruC] at hj; subst hj; simp [Addr.add, World.cell?, h]
  | 4, hj => simp [ruC] at hj; subst hj; simp [Addr.add, World.cell?, h]
  | j + 5, hj => simp [ruC] at hj
theorem ru_one (r : Ru) : ∀ u ∈ ruC r, u.oneCell' = true := by
  intro u hu
  simp only [ruC, List.mem_cons, List.not_mem_nil, or_false] at hu
  rcases hu with rfl | rfl | rfl | rfl | rfl <;> rfl
theorem wi_news {W : World} {b : Nat} {x : Wi} (h : WiB W b x) : ∀ j u, (wiC x)[j]? = some u → W.cell? ((⟨b, 0, none⟩ : Addr).add j) = some u := by
  intro j u hj
  unfold WiB at h
  match j, hj with
  | 0, hj => simp [wiC] at hj; subst hj; simp [Addr.add, World.cell?, h]
  | 1, hj => simp [wiC] at hj; subst hj; simp [Addr.add, World.cell?, h]
  | 2, hj => simp [wiC] at hj; subst hj; simp [Addr.add, World.cell?, h]
  | 3, hj => simp [wiC] at hj; subst hj; simp [Addr.add, World.cell?, h]
  | 4, hj => simp [wiC] at hj; subst hj; simp [Addr.add, World.cell?, h]
  | 5, hj => simp [wiC] at hj; subst hj; simp [Addr.add, World.cell?, h]
  | 6, hj => simp [wiC] at hj; subst hj; simp [Addr.add, World.cell?, h]
  | j + 7, hj => simp [wiC] at hj
theorem wi_one (x : Wi) : ∀ u ∈ wiC x, u.oneCell' = true := by
  intro u hu
  simp only [wiC, List.mem_cons, List.not_mem_nil, or_false] at hu
  rcases hu with rfl | rfl | rfl | rfl | rfl | rfl | rfl <;> rfl
theorem size34 : ∃ k, ∀ w, (sizeOf 34).run Tryd.prog w = .ok k w := ⟨2, fun w => by kernel_rfl⟩
theorem size39 : ∃ k, ∀ w, (sizeOf 39).run Tryd.prog w = .ok k w := ⟨3, fun w => by kernel_rfl⟩
/-- The state of the first loop: X: the scene's block; Y: the free nodes'. -/
structure L1 (w0 wr : World) (X Y : Nat) (now : Int) (fr : Nat) (rs : List Ru) (v : Value) : Prop where
  sc : ScB wr X now 255 v (.slice none 0 0)
  fr : Blk4 wr Y fr 0 0 0
  row : RowOf 37 5 ruC wr w0.heap.size v rs
  below : Below w0.heap.size w0 wr
  XY : X ≠ Y
  Xge : w0.heap.size ≤ X
  Yge : w0.heap.size ≤ Y
theorem L1.later {w0 w w' : World} {X Y : Nat} {now : Int} {fr : Nat} {rs : List Ru} {v : Value} (h : L1 w0 w X Y now fr rs v) (hb : Below w.heap.size w w') : L1 w0 w' X Y now fr rs v :=
  ⟨h.sc.below hb, h.fr.below hb, h.row.below hb, h.below.trans (hb.mono h.below.size), h.XY, h.Xge, h.Yge⟩
def BuB (w : World) (Q : Nat) (b : Nat × Nat) : Prop := w.heap[Q]? = some (.cells #[.int .u8 b.1, .int .u8 b.2] 34)
theorem BuB.cells {w : World} {Q : Nat} {b : Nat × Nat} (h : BuB w Q b) : w.cell? ⟨Q, 0, none⟩ = some (.int .u8 b.1) ∧ w.cell? ⟨Q, 1, none⟩ = some (.int .u8 b.2) := by
  unfold BuB at h
  simp [World.cell?, h]
theorem BuB.later {w w' : World} {Q : Nat} {b : Nat × Nat} (h : BuB w Q b) (hb : Below w.heap.size w w') : BuB w' Q b := by
  unfold BuB at *
  rw [hb.block Q (Array.getElem?_eq_some_iff.1 h).1]; exact h
theorem heap_alloc_new' (w : World) {b : Nat} (hb : b = w.heap.size) (o : Obj) : (w.alloc o).heap[b]? = some o := by
  subst hb
  exact heap_alloc_new w o
theorem ScB.frozen {w : World} {X : Nat} {now u : Int} {vr vp : Value} (h : ScB w X now u vr vp) (o : Nat) : w.frozen? ⟨X, o, none⟩ = false := by
  unfold ScB at h
  simp [World.frozen?, h]
theorem heap_far4 (w : World) (Y : Nat) (y0 y1 y2 y3 : Value) (k : Nat) (hk : k ≠ Y) : ((((w.setCell ⟨Y, 0, none⟩ y0).setCell ⟨Y, 1, none⟩ y1).setCell ⟨Y, 2, none⟩ y2).setCell ⟨Y, 3, none⟩ y3).heap[k]? = w.heap[k]? := by
  rw [Below.heap_setCell _ _ _ _ hk, Below.heap_setCell _ _ _ _ hk, Below.heap_setCell _ _ _ _ hk, Below.heap_setCell _ _ _ _ hk]
/-- What stands in memory in a round of the first loop. -/
structure R1 (w0 w : World) (X Y : Nat) (now : Int) (fr : Nat) (rs : List Ru) (v : Value) (N nd Q : Nat) (b : Nat × Nat) : Prop where
  l1 : L1 w0 w X Y now fr rs v
  nd : Blk4 w N nd 0 0 0
  bu : BuB w Q b
theorem R1.later {w0 w w' : World} {X Y : Nat} {now : Int} {fr : Nat} {rs : List Ru} {v : Value} {N nd Q : Nat} {b : Nat × Nat} (h : R1 w0 w X Y now fr rs v N nd Q b) (hb : Below w.heap.size w w') : R1 w0 w' X Y now fr rs v N nd Q b :=
  ⟨h.l1.later hb, h.nd.below hb, h.bu.later hb⟩
theorem R1.set4 {w0 w : World} {X Y : Nat} {now : Int} {fr fr' : Nat} {rs : List Ru} {v : Value} {N nd Q : Nat} {b : Nat × Nat} (h : R1 w0 w X Y now fr rs v N nd Q b) (hN : N ≠ Y) :
    R1 w0 ((((w.setCell ⟨Y, 0, none⟩ (.int .u64 fr')).setCell ⟨Y, 1, none⟩ (.int .u64 0)).setCell ⟨Y, 2, none⟩ (.int .u64 0)).setCell ⟨Y, 3, none⟩ (.int .u64 0)) X Y now fr' rs v N nd Q b := by
  have hY : w.heap[Y]? = _ := h.l1.fr
  have hv := h.l1.row.other hY (by intro cur; simp)
  have hQ : Q ≠ Y := by
    intro e
    have := h.bu
    unfold BuB at this
    rw [e, hY] at this
    simp at this
  refine ⟨⟨?_, four_set h.l1.fr, h.l1.row.kept fun k hk => heap_far4 _ _ _ _ _ _ _ (fun e => hv (e ▸ hk)), four_below' h.l1.below h.l1.Yge, h.l1.XY, h.l1.Xge, h.l1.Yge⟩, ?_, ?_⟩
  · unfold ScB; rw [heap_far4 _ _ _ _ _ _ _ h.l1.XY]; exact h.l1.sc
  · unfold Blk4; rw [heap_far4 _ _ _ _ _ _ _ hN]; exact h.nd
  · unfold BuB; rw [heap_far4 _ _ _ _ _ _ _ hQ]; exact h.bu
/-- One run more. -/
theorem L1.app {w0 W w9 : World} {X Y : Nat} {now : Int} {fr : Nat} {rs : List Ru} {v v' : Value} {r : Ru} (h : L1 w0 W X Y now fr rs v) (hown : w9.ownsRow w0.heap.size 37 5 v' (rs.length + 1) (rs.flatMap ruC ++ ruC r)) (hg : W.grownBy w9 v.ownBlock) :
    ScB w9 X now 255 v (.slice none 0 0) ∧ L1 w0 (w9.setCell ⟨X, 5, none⟩ v') X Y now fr (rs ++ [r]) v' := by
  have hX : W.heap[X]? = _ := h.sc
  have hY : W.heap[Y]? = _ := h.fr
  have hvX := h.row.other hX (by intro cur; simp)
  have hvY := h.row.other hY (by intro cur; simp)
  have hs : ScB w9 X now 255 v (.slice none 0 0) := by unfold ScB; rw [hg.block X h.sc.lt (fun e => hvX e.symm)]; exact h.sc
  have hO : RowOf 37 5 ruC w9 w0.heap.size v' (rs ++ [r]) := RowOf.snoc rfl hown
  have hs9 : w9.heap[X]? = _ := hs
  refine ⟨hs, ⟨?_, ?_, ownsRow_setCell_other hO (hO.other hs9 (by intro cur; simp)) _, (h.below.grown hg h.below.size (fun k hk => (h.row.lt hk).1)).setCell h.Xge _, h.XY, h.Xge, h.Yge⟩⟩
  · unfold ScB; rw [heap_set4 _ _ _ _ _ _ hs9]; rfl
  · unfold Blk4
    rw [Below.heap_setCell _ _ _ _ (fun e => h.XY e.symm), hg.block Y (Array.getElem?_eq_some_iff.1 hY).1 (fun e => hvY e.symm)]
    exact h.fr
/-- The state of the second loop. -/
structure L2 (w0 wr : World) (X : Nat) (now : Int) (rs : List Ru) (ws : List Wi) (vr v : Value) : Prop where
  sc : ScB wr X now 255 vr v
  runs : RowOf 37 5 ruC wr w0.heap.size vr rs
  row : RowOf 41 7 wiC wr w0.heap.size v ws
  below : Below w0.heap.size w0 wr
  Xge : w0.heap.size ≤ X
theorem L2.later {w0 w w' : World} {X : Nat} {now : Int} {rs : List Ru} {ws : List Wi} {vr v : Value} (h : L2 w0 w X now rs ws vr v) (hb : Below w.heap.size w w') : L2 w0 w' X now rs ws vr v :=
  ⟨h.sc.below hb, h.runs.below hb, h.row.below hb, h.below.trans (hb.mono h.below.size), h.Xge⟩
/-- A block of a row has the row's type. -/
theorem RowOf.apart {α β : Type} {e e' k k' : Nat} {c : α → List Value} {c' : β → List Value} {w : World} {B B' : Nat} {v v' : Value} {l : List α} {l' : List β} (h : RowOf e k c w B v l) (h' : RowOf e' k' c' w B' v' l') (he : e ≠ e') : ∀ b, v.ownBlock = some b → v'.ownBlock ≠ some b := by
  intro b hb hb'
  rcases h.2 with ⟨rfl, _⟩ | ⟨g, cap, cur, rfl, _, hg, _⟩
  · cases hb
  · simp only [Value.ownBlock, Option.some.injEq] at hb
    subst hb
    exact h'.other hg (by intro cur' e'; injection e' with _ e'; exact he e') hb'
/-- One wish more. -/
theorem L2.app {w0 W w9 : World} {X : Nat} {now : Int} {rs : List Ru} {ws : List Wi} {vr v v' : Value} {x : Wi} (h : L2 w0 W X now rs ws vr v) (hown : w9.ownsRow w0.heap.size 41 7 v' (ws.length + 1) (ws.flatMap wiC ++ wiC x)) (hg : W.grownBy w9 v.ownBlock) :
    ScB w9 X now 255 vr v ∧ L2 w0 (w9.setCell ⟨X, 6, none⟩ v') X now rs (ws ++ [x]) vr v' := by
  have hX : W.heap[X]? = _ := h.sc
  have hvX := h.row.other hX (by intro cur; simp)
  have hs : ScB w9 X now 255 vr v := by unfold ScB; rw [hg.block X h.sc.lt (fun e => hvX e.symm)]; exact h.sc
  have hO : RowOf 41 7 wiC w9 w0.heap.size v' (ws ++ [x]) := RowOf.snoc rfl hown
  have hs9 : w9.heap[X]? = _ := hs
  have hR : RowOf 37 5 ruC w9 w0.heap.size vr rs := h.runs.kept fun b hb => hg.block b (h.runs.lt hb).2 (fun e => h.runs.apart h.row (by decide) b hb e.symm)
  refine ⟨hs, ⟨?_, ownsRow_setCell_other hR (hR.other hs9 (by intro cur; simp)) _, ownsRow_setCell_other hO (hO.other hs9 (by intro cur; simp)) _, (h.below.grown hg h.below.size (fun k hk => (h.row.lt hk).1)).setCell h.Xge _, h.Xge⟩⟩
  unfold ScB; rw [heap_set4 _ _ _ _ _ _ hs9]; rfl
/-- The state ahead of a pass. -/
structure Scene (w0 wr : World) (X B : Nat) (now : Int) (rs : List Ru) (ws : List Wi) (vr vp : Value) (M : List Pl) (E : Int) : Prop where
  l2 : L2 w0 wr X now rs ws vr vp
  mp : MapP wr B M
  sc : Sc 255 now rs
  now0 : 0 ≤ now
  nowE : now ≤ E
  ends : ∀ r ∈ rs, r.2 ≤ E
  many : rs.length + ws.length ≤ 14
  wish : ∀ x ∈ ws, 1 ≤ x.id ∧ x.id ≤ 1000000 ∧ 1 ≤ x.n ∧ x.n ≤ 256 ∧ 1 ≤ x.long ∧ x.long ≤ 30 ∧ x.of < 256
  ids : ws.Pairwise fun a b => a.id ≠ b.id
  okay : ∀ ps, Plans now (runF 255 rs) ws ps → Okay M E ws ps
  Bge : w0.heap.size ≤ B
theorem scene_start {w0 wr : World} {X B now : Nat} {rs : List Ru} {xs : List (Nat × Nat × Nat)} {vr vp : Value} (h : L2 w0 wr X now rs (wishesOf 0 xs) vr vp) (hm : MapP wr B []) (hs : Sc 255 now rs) (hn : now < 65536) (he : ∀ r ∈ rs, r.2 ≤ 65600) (_ : True) (hr : rs.length ≤ 6) (hx : xs.length ≤ 8) (hof : ∀ x ∈ xs, x.2.2 < 256) (hB : w0.heap.size ≤ B) :
    Scene w0 wr X B now rs (wishesOf 0 xs) vr vp [] 1000000 := by
  have hm' := wishes_mem xs 0 hof
  refine ⟨h, hm, hs, by omega, by omega, fun r hr => by have := he r hr; omega, by rw [wishes_len]; omega, fun x hx' => ?_, wishes_ids xs 0 hof, fun ps hp => ?_, hB⟩
  · obtain ⟨a, b, c, d, e, f, g⟩ := hm' x hx'
    exact ⟨by omega, by omega, c, by omega, e, f, g⟩
  · refine first_okay (E := 65600) (runF_lt (by omega) hs.small) (runF_full (by omega) hs.small he) (by omega) (fun w hw => (hm' w hw).2.2.2.2.2.1) (by rw [wishes_len]; omega) hp
end Go.Proofs.YtnnkibdjbodncaaDoor
