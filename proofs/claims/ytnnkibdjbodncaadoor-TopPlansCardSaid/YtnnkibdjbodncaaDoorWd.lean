/- The statement's own code: what stands in memory behind a pass. No condition. -/
import Derived.Test.YtnnkibdjbodncaaDoorWb
namespace Go.Proofs.YtnnkibdjbodncaaDoor
open Go.RowKit
/-- What stands in memory behind a pass: X: the scene; Y: the next one; B: the plans known. -/
structure GS (w0 wr : World) (X Y B : Nat) (now T : Int) (vr vp vnr vnp vl : Value) (rs : List Ru) (ws : List Wi) (nr : List Ru) (nw : List Wi) (ll : List Pl) (M : List Pl) : Prop where
  sc : ScB wr X now 255 vr vp
  nx : ScB wr Y T 255 vnr vnp
  r1 : RowOf 37 5 ruC wr w0.heap.size vr rs
  r2 : RowOf 41 7 wiC wr w0.heap.size vp ws
  r3 : RowOf 37 5 ruC wr w0.heap.size vnr nr
  r4 : RowOf 41 7 wiC wr w0.heap.size vnp nw
  r5 : RowOf 48 6 plC wr w0.heap.size vl ll
  a37 : ∀ b, vr.ownBlock = some b → vnr.ownBlock ≠ some b
  a41 : ∀ b, vp.ownBlock = some b → vnp.ownBlock ≠ some b
  mp : MapP wr B M
  below : Below w0.heap.size w0 wr
  XY : X ≠ Y
  Xge : w0.heap.size ≤ X
  Yge : w0.heap.size ≤ Y
  Bge : w0.heap.size ≤ B
theorem MapP.below {w w' : World} {B : Nat} {M : List Pl} (h : MapP w B M) (hb : Below w.heap.size w w') : MapP w' B M := by
  unfold MapP; rw [hb.block B (Array.getElem?_eq_some_iff.1 h).1]; exact h
section
variable {w0 w w' : World} {X Y B : Nat} {now T : Int} {vr vp vnr vnp vl : Value} {rs : List Ru} {ws : List Wi} {nr : List Ru} {nw : List Wi} {ll : List Pl} {M : List Pl}
theorem GS.later (h : GS w0 w X Y B now T vr vp vnr vnp vl rs ws nr nw ll M) (hb : Below w.heap.size w w') : GS w0 w' X Y B now T vr vp vnr vnp vl rs ws nr nw ll M :=
  ⟨h.sc.below hb, h.nx.below hb, h.r1.below hb, h.r2.below hb, h.r3.below hb, h.r4.below hb, h.r5.below hb, h.a37, h.a41, h.mp.below hb, h.below.trans (hb.mono h.below.size), h.XY, h.Xge, h.Yge, h.Bge⟩
theorem MapP.no {e k : Nat} {α : Type} {c : α → List Value} {l : List α} {v : Value} {N : Nat} (h : MapP w B M) (hr : RowOf e k c w N v l) : v.ownBlock ≠ some B := hr.other h (by intro cur; simp)
theorem MapP.ne_sc (h : MapP w B M) {u : Int} {a b : Value} (hs : ScB w X now u a b) : B ≠ X := by
  intro e
  have h' : w.heap[B]? = _ := h
  have hs' : w.heap[X]? = _ := hs
  rw [e, hs'] at h'
  simp at h'
/-- A store into a scene. -/
theorem GS.into (h : GS w0 w X Y B now T vr vp vnr vnp vl rs ws nr nw ll M) {Z o : Nat} {v : Value} (hZ : Z = X ∨ Z = Y) {now' T' : Int} {vr' vp' vnr' vnp' : Value} (hs : ScB (w.setCell ⟨Z, o, none⟩ v) X now' 255 vr' vp') (hn : ScB (w.setCell ⟨Z, o, none⟩ v) Y T' 255 vnr' vnp')
    {rs' : List Ru} {ws' : List Wi} {nr' : List Ru} {nw' : List Wi} (h1 : RowOf 37 5 ruC w w0.heap.size vr' rs') (h2 : RowOf 41 7 wiC w w0.heap.size vp' ws') (h3 : RowOf 37 5 ruC w w0.heap.size vnr' nr') (h4 : RowOf 41 7 wiC w w0.heap.size vnp' nw')
    (h37 : ∀ b, vr'.ownBlock = some b → vnr'.ownBlock ≠ some b) (h41 : ∀ b, vp'.ownBlock = some b → vnp'.ownBlock ≠ some b) : GS w0 (w.setCell ⟨Z, o, none⟩ v) X Y B now' T' vr' vp' vnr' vnp' vl rs' ws' nr' nw' ll M := by
  have hz : ∃ cur, w.heap[Z]? = some (.cells cur 32) := by
    rcases hZ with rfl | rfl
    · exact ⟨_, h.sc⟩
    · exact ⟨_, h.nx⟩
  obtain ⟨cur, hz⟩ := hz
  have ge : w0.heap.size ≤ Z := by rcases hZ with rfl | rfl; exact h.Xge; exact h.Yge
  refine ⟨hs, hn, ownsRow_setCell_other h1 (h1.other hz (by intro cur'; simp)) _, ownsRow_setCell_other h2 (h2.other hz (by intro cur'; simp)) _, ownsRow_setCell_other h3 (h3.other hz (by intro cur'; simp)) _,
    ownsRow_setCell_other h4 (h4.other hz (by intro cur'; simp)) _, ownsRow_setCell_other h.r5 (h.r5.other hz (by intro cur'; simp)) _, h37, h41, ?_, h.below.setCell ge _, h.XY, h.Xge, h.Yge, h.Bge⟩
  have hB : B ≠ Z := by
    rcases hZ with rfl | rfl
    · exact h.mp.ne_sc h.sc
    · exact h.mp.ne_sc h.nx
  unfold MapP
  rw [Below.heap_setCell _ _ _ _ hB]
  exact h.mp
theorem GS.setT (h : GS w0 w X Y B now T vr vp vnr vnp vl rs ws nr nw ll M) (T' : Int) : GS w0 (w.setCell ⟨Y, 0, none⟩ (.int .i64 T')) X Y B now T' vr vp vnr vnp vl rs ws nr nw ll M := by
  refine h.into (.inr rfl) ?_ ?_ h.r1 h.r2 h.r3 h.r4 h.a37 h.a41
  · unfold ScB; rw [Below.heap_setCell _ _ _ _ h.XY]; exact h.sc
  · unfold ScB; rw [heap_set4 _ _ _ _ _ _ h.nx]; rfl
theorem GS.appR {v' : Value} {x : Ru} (h : GS w0 w X Y B now T vr vp vnr vnp vl rs ws nr nw ll M) (hown : w'.ownsRow w0.heap.size 37 5 v' (rs.length + 1) (rs.flatMap ruC ++ ruC x)) (hg : w.grownBy w' vr.ownBlock) (hloc : v'.ownBlock = vr.ownBlock ∨ v'.ownBlock = some w.heap.size) :
    ScB w' X now 255 vr vp ∧ GS w0 (w'.setCell ⟨X, 5, none⟩ v') X Y B now T v' vp vnr vnp vl (rs ++ [x]) ws nr nw ll M := by
  have hO : RowOf 37 5 ruC w' w0.heap.size v' (rs ++ [x]) := RowOf.snoc rfl hown
  have hX : w.heap[X]? = _ := h.sc
  have hY : w.heap[Y]? = _ := h.nx
  have hs : ScB w' X now 255 vr vp := by unfold ScB; rw [hg.block X h.sc.lt (fun e => h.r1.other hX (by intro cur; simp) e.symm)]; exact h.sc
  have hn : ScB w' Y T 255 vnr vnp := by unfold ScB; rw [hg.block Y h.nx.lt (fun e => h.r1.other hY (by intro cur; simp) e.symm)]; exact h.nx
  have k2 : RowOf 41 7 wiC w' w0.heap.size vp ws := h.r2.kept fun b hb => hg.block b (h.r2.lt hb).2 (fun e => h.r2.apart h.r1 (by decide) b hb e.symm)
  have k3 : RowOf 37 5 ruC w' w0.heap.size vnr nr := h.r3.kept fun b hb => hg.block b (h.r3.lt hb).2 (fun e => h.a37 b e.symm hb)
  have k4 : RowOf 41 7 wiC w' w0.heap.size vnp nw := h.r4.kept fun b hb => hg.block b (h.r4.lt hb).2 (fun e => h.r4.apart h.r1 (by decide) b hb e.symm)
  have k5 : RowOf 48 6 plC w' w0.heap.size vl ll := h.r5.kept fun b hb => hg.block b (h.r5.lt hb).2 (fun e => h.r5.apart h.r1 (by decide) b hb e.symm)
  have hm : MapP w' B M := by unfold MapP; rw [hg.block B (Array.getElem?_eq_some_iff.1 h.mp).1 (fun e => (h.mp.no h.r1) e.symm)]; exact h.mp
  have hb := h.below.grown hg h.below.size (fun k hk => (h.r1.lt hk).1)
  have ge : w0.heap.size ≤ X := h.Xge
  have hZ' : w'.heap[X]? = _ := hs
  have hB : B ≠ X := hm.ne_sc hs
  refine ⟨hs, ⟨?_, ?_, ownsRow_setCell_other hO (hO.other hZ' (by intro cur; simp)) _, ownsRow_setCell_other k2 (k2.other hZ' (by intro cur; simp)) _, ownsRow_setCell_other k3 (k3.other hZ' (by intro cur; simp)) _, ownsRow_setCell_other k4 (k4.other hZ' (by intro cur; simp)) _, ownsRow_setCell_other k5 (k5.other hZ' (by intro cur; simp)) _, (fun b hb hb' => hloc.elim (fun hl => h.a37 b (hl ▸ hb) hb') (fun hl => by have := (h.r3.lt hb').2; rw [hl] at hb; cases hb; omega)), h.a41, ?_, hb.setCell ge _, h.XY, h.Xge, h.Yge, h.Bge⟩⟩
  · unfold ScB; rw [heap_set4 _ _ _ _ _ _ hZ']; rfl
  · unfold ScB; rw [Below.heap_setCell _ _ _ _ (fun e => h.XY e.symm)]; exact hn
  · unfold MapP; rw [Below.heap_setCell _ _ _ _ hB]; exact hm
theorem GS.appNR {v' : Value} {x : Ru} (h : GS w0 w X Y B now T vr vp vnr vnp vl rs ws nr nw ll M) (hown : w'.ownsRow w0.heap.size 37 5 v' (nr.length + 1) (nr.flatMap ruC ++ ruC x)) (hg : w.grownBy w' vnr.ownBlock) (hloc : v'.ownBlock = vnr.ownBlock ∨ v'.ownBlock = some w.heap.size) :
    ScB w' Y T 255 vnr vnp ∧ GS w0 (w'.setCell ⟨Y, 5, none⟩ v') X Y B now T vr vp v' vnp vl rs ws (nr ++ [x]) nw ll M := by
  have hO : RowOf 37 5 ruC w' w0.heap.size v' (nr ++ [x]) := RowOf.snoc rfl hown
  have hX : w.heap[X]? = _ := h.sc
  have hY : w.heap[Y]? = _ := h.nx
  have hs : ScB w' X now 255 vr vp := by unfold ScB; rw [hg.block X h.sc.lt (fun e => h.r3.other hX (by intro cur; simp) e.symm)]; exact h.sc
  have hn : ScB w' Y T 255 vnr vnp := by unfold ScB; rw [hg.block Y h.nx.lt (fun e => h.r3.other hY (by intro cur; simp) e.symm)]; exact h.nx
  have k1 : RowOf 37 5 ruC w' w0.heap.size vr rs := h.r1.kept fun b hb => hg.block b (h.r1.lt hb).2 (fun e => h.a37 b hb e.symm)
  have k2 : RowOf 41 7 wiC w' w0.heap.size vp ws := h.r2.kept fun b hb => hg.block b (h.r2.lt hb).2 (fun e => h.r2.apart h.r3 (by decide) b hb e.symm)
  have k4 : RowOf 41 7 wiC w' w0.heap.size vnp nw := h.r4.kept fun b hb => hg.block b (h.r4.lt hb).2 (fun e => h.r4.apart h.r3 (by decide) b hb e.symm)
  have k5 : RowOf 48 6 plC w' w0.heap.size vl ll := h.r5.kept fun b hb => hg.block b (h.r5.lt hb).2 (fun e => h.r5.apart h.r3 (by decide) b hb e.symm)
  have hm : MapP w' B M := by unfold MapP; rw [hg.block B (Array.getElem?_eq_some_iff.1 h.mp).1 (fun e => (h.mp.no h.r3) e.symm)]; exact h.mp
  have hb := h.below.grown hg h.below.size (fun k hk => (h.r3.lt hk).1)
  have ge : w0.heap.size ≤ Y := h.Yge
  have hZ' : w'.heap[Y]? = _ := hn
  have hB : B ≠ Y := hm.ne_sc hn
  refine ⟨hn, ⟨?_, ?_, ownsRow_setCell_other k1 (k1.other hZ' (by intro cur; simp)) _, ownsRow_setCell_other k2 (k2.other hZ' (by intro cur; simp)) _, ownsRow_setCell_other hO (hO.other hZ' (by intro cur; simp)) _, ownsRow_setCell_other k4 (k4.other hZ' (by intro cur; simp)) _, ownsRow_setCell_other k5 (k5.other hZ' (by intro cur; simp)) _, (fun b hb hb' => hloc.elim (fun hl => h.a37 b hb (hl ▸ hb')) (fun hl => by have := (h.r1.lt hb).2; rw [hl] at hb'; cases hb'; omega)), h.a41, ?_, hb.setCell ge _, h.XY, h.Xge, h.Yge, h.Bge⟩⟩
  · unfold ScB; rw [Below.heap_setCell _ _ _ _ h.XY]; exact hs
  · unfold ScB; rw [heap_set4 _ _ _ _ _ _ hZ']; rfl
  · unfold MapP; rw [Below.heap_setCell _ _ _ _ hB]; exact hm
theorem GS.appNP {v' : Value} {x : Wi} (h : GS w0 w X Y B now T vr vp vnr vnp vl rs ws nr nw ll M) (hown : w'.ownsRow w0.heap.size 41 7 v' (nw.length + 1) (nw.flatMap wiC ++ wiC x)) (hg : w.grownBy w' vnp.ownBlock) (hloc : v'.ownBlock = vnp.ownBlock ∨ v'.ownBlock = some w.heap.size) :
    ScB w' Y T 255 vnr vnp ∧ GS w0 (w'.setCell ⟨Y, 6, none⟩ v') X Y B now T vr vp vnr v' vl rs ws nr (nw ++ [x]) ll M := by
  have hO : RowOf 41 7 wiC w' w0.heap.size v' (nw ++ [x]) := RowOf.snoc rfl hown
  have hX : w.heap[X]? = _ := h.sc
  have hY : w.heap[Y]? = _ := h.nx
  have hs : ScB w' X now 255 vr vp := by unfold ScB; rw [hg.block X h.sc.lt (fun e => h.r4.other hX (by intro cur; simp) e.symm)]; exact h.sc
  have hn : ScB w' Y T 255 vnr vnp := by unfold ScB; rw [hg.block Y h.nx.lt (fun e => h.r4.other hY (by intro cur; simp) e.symm)]; exact h.nx
  have k1 : RowOf 37 5 ruC w' w0.heap.size vr rs := h.r1.kept fun b hb => hg.block b (h.r1.lt hb).2 (fun e => h.r1.apart h.r4 (by decide) b hb e.symm)
  have k2 : RowOf 41 7 wiC w' w0.heap.size vp ws := h.r2.kept fun b hb => hg.block b (h.r2.lt hb).2 (fun e => h.a41 b hb e.symm)
  have k3 : RowOf 37 5 ruC w' w0.heap.size vnr nr := h.r3.kept fun b hb => hg.block b (h.r3.lt hb).2 (fun e => h.r3.apart h.r4 (by decide) b hb e.symm)
  have k5 : RowOf 48 6 plC w' w0.heap.size vl ll := h.r5.kept fun b hb => hg.block b (h.r5.lt hb).2 (fun e => h.r5.apart h.r4 (by decide) b hb e.symm)
  have hm : MapP w' B M := by unfold MapP; rw [hg.block B (Array.getElem?_eq_some_iff.1 h.mp).1 (fun e => (h.mp.no h.r4) e.symm)]; exact h.mp
  have hb := h.below.grown hg h.below.size (fun k hk => (h.r4.lt hk).1)
  have ge : w0.heap.size ≤ Y := h.Yge
  have hZ' : w'.heap[Y]? = _ := hn
  have hB : B ≠ Y := hm.ne_sc hn
  refine ⟨hn, ⟨?_, ?_, ownsRow_setCell_other k1 (k1.other hZ' (by intro cur; simp)) _, ownsRow_setCell_other k2 (k2.other hZ' (by intro cur; simp)) _, ownsRow_setCell_other k3 (k3.other hZ' (by intro cur; simp)) _, ownsRow_setCell_other hO (hO.other hZ' (by intro cur; simp)) _, ownsRow_setCell_other k5 (k5.other hZ' (by intro cur; simp)) _, h.a37, (fun b hb hb' => hloc.elim (fun hl => h.a41 b hb (hl ▸ hb')) (fun hl => by have := (h.r2.lt hb).2; rw [hl] at hb'; cases hb'; omega)), ?_, hb.setCell ge _, h.XY, h.Xge, h.Yge, h.Bge⟩⟩
  · unfold ScB; rw [Below.heap_setCell _ _ _ _ h.XY]; exact hs
  · unfold ScB; rw [heap_set4 _ _ _ _ _ _ hZ']; rfl
  · unfold MapP; rw [Below.heap_setCell _ _ _ _ hB]; exact hm
/-- The next scene is laid over this one. -/
theorem GS.copy (h : GS w0 w X Y B now T vr vp vnr vnp vl rs ws nr nw ll M) : L2 w0 (((((((w.setCell ⟨X, 0, none⟩ (.int .i64 T)).setCell ⟨X, 1, none⟩ (.int .u64 255)).setCell ⟨X, 2, none⟩ (.int .u64 0)).setCell ⟨X, 3, none⟩ (.int .u64 0)).setCell ⟨X, 4, none⟩ (.int .u64 0)).setCell ⟨X, 5, none⟩ vnr).setCell ⟨X, 6, none⟩ vnp) X T nr nw vnr vnp ∧ MapP (((((((w.setCell ⟨X, 0, none⟩ (.int .i64 T)).setCell ⟨X, 1, none⟩ (.int .u64 255)).setCell ⟨X, 2, none⟩ (.int .u64 0)).setCell ⟨X, 3, none⟩ (.int .u64 0)).setCell ⟨X, 4, none⟩ (.int .u64 0)).setCell ⟨X, 5, none⟩ vnr).setCell ⟨X, 6, none⟩ vnp) B M := by
  have far : ∀ k, k ≠ X → (((((((w.setCell ⟨X, 0, none⟩ (.int .i64 T)).setCell ⟨X, 1, none⟩ (.int .u64 255)).setCell ⟨X, 2, none⟩ (.int .u64 0)).setCell ⟨X, 3, none⟩ (.int .u64 0)).setCell ⟨X, 4, none⟩ (.int .u64 0)).setCell ⟨X, 5, none⟩ vnr).setCell ⟨X, 6, none⟩ vnp).heap[k]? = w.heap[k]? := fun k hk => by
    rw [Below.heap_setCell _ _ _ _ hk, Below.heap_setCell _ _ _ _ hk, Below.heap_setCell _ _ _ _ hk, Below.heap_setCell _ _ _ _ hk, Below.heap_setCell _ _ _ _ hk, Below.heap_setCell _ _ _ _ hk, Below.heap_setCell _ _ _ _ hk]
  have hX : w.heap[X]? = _ := h.sc
  refine ⟨⟨?_, h.r3.kept fun b hb => far b (fun e => h.r3.other hX (by intro cur; simp) (e ▸ hb)), h.r4.kept fun b hb => far b (fun e => h.r4.other hX (by intro cur; simp) (e ▸ hb)), ?_, h.Xge⟩, ?_⟩
  · unfold ScB
    rw [heap_set4 _ _ _ _ _ _ (heap_set4 _ _ _ _ _ _ (heap_set4 _ _ _ _ _ _ (heap_set4 _ _ _ _ _ _ (heap_set4 _ _ _ _ _ _ (heap_set4 _ _ _ _ _ _ (heap_set4 _ _ _ _ _ _ hX))))))]
    rfl
  · exact ((((((h.below.setCell h.Xge _).setCell h.Xge _).setCell h.Xge _).setCell h.Xge _).setCell h.Xge _).setCell h.Xge _).setCell h.Xge _
  · unfold MapP
    rw [far B (h.mp.ne_sc h.sc)]
    exact h.mp
end
end Go.Proofs.YtnnkibdjbodncaaDoor
