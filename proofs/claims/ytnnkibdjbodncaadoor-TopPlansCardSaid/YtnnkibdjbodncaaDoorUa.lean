/- A pass over what runs is begun. Conditions: few runs, apart, that end later. -/
import Derived.Test.YtnnkibdjbodncaaDoorU
namespace Go.Proofs.YtnnkibdjbodncaaDoor
open Go.RowKit
/-- A pass's struct. -/
def PassB (w : World) (q f : Nat) (now : Int) (vs vp : Value) : Prop := w.heap[q]? = some (.cells #[.pointer (some ⟨f, 0, none⟩), .int .i64 now, vs, vp] 59)
theorem PassB.cells {w : World} {q f : Nat} {now : Int} {vs vp : Value} (h : PassB w q f now vs vp) :
    w.cell? ⟨q, 0, none⟩ = some (.pointer (some ⟨f, 0, none⟩)) ∧ w.cell? ⟨q, 1, none⟩ = some (.int .i64 now) ∧ w.cell? ⟨q, 2, none⟩ = some vs ∧ w.cell? ⟨q, 3, none⟩ = some vp := by
  unfold PassB at h
  simp [World.cell?, h]
theorem PassB.lt {w : World} {q f : Nat} {now : Int} {vs vp : Value} (h : PassB w q f now vs vp) : q < w.heap.size := by
  unfold PassB at h
  exact (Array.getElem?_eq_some_iff.1 h).1
/-- A scene's struct. -/
def ScB (w : World) (X : Nat) (now u : Int) (vr vp : Value) : Prop := w.heap[X]? = some (.cells #[.int .i64 now, .int .u64 u, .int .u64 0, .int .u64 0, .int .u64 0, vr, vp] 32)
theorem ScB.cells {w : World} {X : Nat} {now u : Int} {vr vp : Value} (h : ScB w X now u vr vp) :
    w.cell? ⟨X, 0, none⟩ = some (.int .i64 now) ∧ w.cell? ⟨X, 1, none⟩ = some (.int .u64 u) ∧ w.cell? ⟨X, 2, none⟩ = some (.int .u64 0) ∧ w.cell? ⟨X, 3, none⟩ = some (.int .u64 0) ∧ w.cell? ⟨X, 4, none⟩ = some (.int .u64 0) ∧ w.cell? ⟨X, 5, none⟩ = some vr ∧ w.cell? ⟨X, 6, none⟩ = some vp := by
  unfold ScB at h
  simp [World.cell?, h]
theorem ScB.lt {w : World} {X : Nat} {now u : Int} {vr vp : Value} (h : ScB w X now u vr vp) : X < w.heap.size := by
  unfold ScB at h
  exact (Array.getElem?_eq_some_iff.1 h).1
theorem ScB.below {w w' : World} {X : Nat} {now u : Int} {vr vp : Value} (h : ScB w X now u vr vp) (hb : Below w.heap.size w w') : ScB w' X now u vr vp := by
  unfold ScB; rw [hb.block X h.lt]; exact h
theorem Lay.lt_of {l : List St} {now : Int} {F G : Int → Nat} (h : Lay l now 2199023255552 F) (hfg : ∀ t, now ≤ t → F t = G t) : Lay l now 2199023255552 G := h.congr hfg
theorem else_into {w w' : World} {f N : Nat} {w0 : World} (h : Else f none w w') (hb : Below N w0 w) (hN : N ≤ w.heap.size) (hf : N ≤ f) : Below N w0 w' := h.below hb hN hf (fun k hk => by cases hk)
/-- The state of the loop over the runs. -/
structure BG (w0 wr : World) (X : Nat) (f u : Nat) (now : Int) (rs : List Ru) (k : Nat) : Prop where
  prof : ∃ l g cap, IsProf wr f u l g cap ∧ Lay l now 2199023255552 (runF u (rs.take k)) ∧ l.length ≤ 1 + 2 * k ∧ ∀ H, now ≤ H → (∀ r ∈ rs, r.2 ≤ H) → ∀ s ∈ l, s.1 ≤ H
  below : Below (X + 1) w0 wr
  ge : X + 1 ≤ f
def BeginPost (w : World) (u : Nat) (now : Int) (rs : List Ru) (e : Ending) (w' : World) : Prop :=
  ∃ q f l g cap, e = .returned (.pointer (some ⟨q, 0, none⟩)) ∧ PassB w' q f now (.slice none 0 0) (.slice none 0 0) ∧ IsProf w' f u l g cap ∧ Lay l now 2199023255552 (runF u rs) ∧ l.length ≤ 1 + 2 * rs.length ∧
    (∀ H, now ≤ H → (∀ r ∈ rs, r.2 ≤ H) → ∀ s ∈ l, s.1 ≤ H) ∧ Below w.heap.size w w' ∧ w.heap.size ≤ q ∧ w.heap.size ≤ f
theorem new_lay {u : Nat} (hu : u < 256) {now : Int} (hH : now < 2199023255552) : Lay [(now, (u : Int))] now 2199023255552 (runF u []) := by
  have := (Lay.nil now (runF u [])).put (T' := 2199023255552) (x := u) hH (Int.le_refl _) hu (fun t _ _ => rfl) (fun _ => rfl)
  rwa [putL_nil] at this
/-- One run more is taken out. -/
theorem take_run {u : Nat} (hu : u < 256) {now : Int} {rs : List Ru} (hs : Sc u now rs) {k : Nat} {r : Ru} (hr : rs[k]? = some r) :
    SubS r.1 (inter (runF u (rs.take k)) now (r.2 - now).toNat) ∧ ∀ t, now ≤ t → taken (runF u (rs.take k)) r.1 now (r.2 - now).toNat t = runF u (rs.take (k + 1)) t := by
  have hm := List.mem_of_getElem? hr
  have hsm : ∀ q ∈ rs.take k, q.1 < 256 := fun q hq => hs.small q (List.mem_of_mem_take hq)
  constructor
  · intro i hi
    rw [bit_inter]
    refine ⟨bit_lt (hs.small r hm) hi, fun j _ => ?_⟩
    rw [bit_runF hu hsm]
    refine ⟨hs.sub r hm i hi, fun q hq _ => ?_⟩
    cases hqi : q.1.testBit i with
    | false => rfl
    | true =>
      obtain ⟨a, ha⟩ := List.mem_iff_getElem?.1 hq
      rw [List.getElem?_take] at ha
      split at ha
      · rename_i hak
        obtain ⟨h1, rfl⟩ := List.getElem?_eq_some_iff.1 ha
        obtain ⟨h2, rfl⟩ := List.getElem?_eq_some_iff.1 hr
        have := List.pairwise_iff_getElem.1 hs.apart a k h1 h2 hak i hqi
        rw [hi] at this; cases this
      · cases ha
  · intro t ht
    rw [List.take_add_one, hr]
    simp only [Option.toList_some]
    rw [runF_snoc]
    unfold taken
    have := hs.ends r hm
    by_cases h : t < r.2
    · rw [if_pos h, if_pos ⟨ht, by omega⟩]
    · rw [if_neg h, if_neg (by omega)]
set_option maxHeartbeats 4000000 in
theorem begin_any {w : World} {u : Nat} {now : Int} {rs : List Ru} {vr vp : Value} (hu : u < 256) (hs : Sc u now rs) (h0 : 0 ≤ now) (hH : now ≤ 1099511627776) (hr : Reads 5 ruC w vr rs) (hn : rs.length ≤ 500) (he : ∀ r ∈ rs, r.2 ≤ 1099511627776) :
    Calls Tryd.prog 12 #[.agg #[.int .i64 now, .int .u64 u, .int .u64 0, .int .u64 0, .int .u64 0, vr, vp]] w (BeginPost w u now rs) := by
  obtain ⟨ao, cap, rfl, hcap, hcell⟩ := hr
  obtain ⟨n, hnn⟩ : ∃ n, rs.length = n := ⟨_, rfl⟩
  have HNN := Lib.hid hnn
  rw [hnn] at hn hcap ⊢
  have hX : ScB (w.alloc (.cells #[.int .i64 now, .int .u64 u, .int .u64 0, .int .u64 0, .int .u64 0, .slice ao n cap, vp] 32)) w.heap.size now u (.slice ao n cap) vp := heap_alloc_new w _
  have hB1 := below_alloc' w (.cells #[.int .i64 now, .int .u64 u, .int .u64 0, .int .u64 0, .int .u64 0, .slice ao n cap, vp] 32)
  have HX := Lib.hid hX
  have HB1 := Lib.hid hB1
  have HS := Lib.hid hs
  have HC := Lib.hid hcell
  have HE := Lib.hid he
  obtain ⟨x0, x1, x2, x3, x4, x5, x6⟩ := hX.cells
  clear hX hB1 hs hcell he hnn
  go_enter Tryd.func12, Tryd.ntmps12
  go_wp2_with (go_at_call 17; refine (new_any u now _ h0 hH).mono ?_; rintro e w2 ⟨f, g, rfl, hp, hf, hg, hfg, hb2⟩; have hX2 := HX.out.below hb2; have HX2 := Lib.hid hX2; obtain ⟨x0, x1, x2, x3, x4, x5, x6⟩ := hX2.cells; have HP := Lib.hid hp; have HF := Lib.hid hf; have HL := Lib.hid (show Below (w.heap.size + 1) _ w2 from hb2.mono (by simp)); clear hb2 hX2 hp hf hg hfg)
  have hsz : (w.alloc (.cells #[.int .i64 now, .int .u64 u, .int .u64 0, .int .u64 0, .int .u64 0, .slice ao n cap, vp] 32)).heap.size = w.heap.size + 1 := by simp
  generalize w.alloc (.cells #[.int .i64 now, .int .u64 u, .int .u64 0, .int .u64 0, .int .u64 0, .slice ao n cap, vp] 32) = w1 at *
  have HSZ := Lib.hid hsz
  clear hsz
  go_loopw [18] (fun i wr => ∃ k : Nat, i = .int .i64 k ∧ k ≤ n ∧ BG w1 wr w.heap.size f u now rs k) (fun i _ => n - (intOf i).toNat)
  case atStart =>
    refine ⟨0, rfl, Nat.zero_le _, ⟨⟨_, _, _, HP.out, new_lay hu (by omega), by simp, fun H h1 _ s hs => by simp at hs; subst hs; exact h1⟩, HL.out, by have := HF.out; have := HSZ.out; omega⟩⟩
  case round =>
    obtain ⟨k, rfl, hk, hbg⟩ := hrel
    have hXr : ScB wr w.heap.size now u (.slice ao n cap) vp := by
      unfold ScB; rw [hbg.below.block _ (by omega)]; exact HX.out
    obtain ⟨x0, x1, x2, x3, x4, x5, x6⟩ := hXr.cells
    have HXR := Lib.hid hXr
    have HBG := Lib.hid hbg
    clear hXr hbg
    by_cases hlt : k < n
    · obtain ⟨r, hr⟩ : ∃ r, rs[k]? = some r := ⟨rs[k]'(by have := HNN.out; omega), List.getElem?_eq_getElem (by have := HNN.out; omega)⟩
      obtain ⟨gr, rfl, hgr, hcr⟩ := HC.out k r hr
      obtain ⟨c0, c1, c2, c3, c4⟩ := ru_cells (w := wr) (g := gr) (i := k) (r := r) (fun j v hj => by
        rw [HBG.out.below.cell (p := ⟨gr, _, none⟩) (show gr < w.heap.size + 1 by omega), HB1.out.cell (p := ⟨gr, _, none⟩) hgr]; exact hcr j v hj)
      have hrm := List.mem_of_getElem? hr
      have hre := HS.out.ends r hrm
      have hrH := HE.out r hrm
      obtain ⟨l, gl, cl, hip, hlay, hlen, hti⟩ := HBG.out.prof
      obtain ⟨hsub, htk⟩ := take_run hu HS.out hr
      have hp2 := hip.below (below_alloc' wr (.cells #[.int .u64 r.1, .int .u64 0, .int .u64 0, .int .u64 0, .int .i64 r.2] 37))
      have htake := take_any hp2 hu (fun t _ => runF_sub hu (fun q hq => HS.out.small q (List.mem_of_mem_take hq)) t) hlay h0 (by omega) (HS.out.small r hrm) (Int.le_refl now) (by omega) (by omega) hsub
      rw [show now + ((r.2 - now).toNat : Int) = r.2 by omega] at htake
      have HTK := Lib.hid htake
      have HEQ := Lib.hid htk
      have HTI := Lib.hid hti
      have HRM := Lib.hid hrm
      have q1 : (if r.2 < now + 1 then now + 1 else r.2) = r.2 := by split <;> omega
      have q2 : (if r.2 ≤ now then now + 1 else r.2) = r.2 := by split <;> omega
      have q3 : IntKind.i64.wrap (now + 1) = now + 1 := IntWalk.i64_in _ (by omega)
      obtain ⟨y0, y1, y2, y3, y4, y5, y6⟩ := (HXR.out.below (below_alloc' wr (.cells #[.int .u64 r.1, .int .u64 0, .int .u64 0, .int .u64 0, .int .i64 r.2] 37))).cells
      clear hsub htk hp2 htake hti hrm hr hcr hip hlay
      go_wp2_with (go_at_call 18; refine HTK.out.mono ?_; rintro e w5 ⟨rfl, ⟨l', g', cap', hp5, hl5, hn5, ht5⟩, he5⟩)
      refine ⟨⟨k + 1, by go_num, by omega, ⟨⟨l', g', cap', hp5, hl5.congr HEQ.out, by omega, fun H h1 h2 => ht5 H (HTI.out H h1 h2) (h2 r HRM.out)⟩, ?_, HBG.out.ge⟩⟩, by simp only [intOf]; omega⟩
      have h1 := HBG.out.below.size
      have h2 := HSZ.out
      exact else_into he5 (HBG.out.below.alloc (by omega) _) (by simp; omega) HBG.out.ge
    · obtain rfl : k = n := by omega
      go_wp2_with fail
      obtain ⟨l, gl, cl, hip, hlay, hlen, hti⟩ := HBG.out.prof
      have h1 := HBG.out.below.size
      have h2 := HSZ.out
      have hbW : Below w.heap.size w wr := HB1.out.trans (HBG.out.below.mono (by omega))
      go_ret
      rw [List.take_of_length_le (by have := HNN.out; omega)] at hlay
      exact ⟨_, f, l, gl, cl, rfl, heap_alloc_new wr _, hip.below (below_alloc' wr _), hlay, by rw [HNN.out]; exact hlen, hti, hbW.alloc (by omega) _, by omega, by have := HBG.out.ge; omega⟩
end Go.Proofs.YtnnkibdjbodncaaDoor
