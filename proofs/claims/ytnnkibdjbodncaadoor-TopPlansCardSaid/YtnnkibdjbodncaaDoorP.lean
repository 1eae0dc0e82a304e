/- Profiles: the nodes of a span taken out: the walk. Conditions: at most 4000 steps. -/
import Derived.Test.YtnnkibdjbodncaaDoorN
namespace Go.Proofs.YtnnkibdjbodncaaDoor
open Go.RowKit
theorem mem_putL {out : List St} {q s : St} (h : s ∈ putL out q) : s ∈ out ∨ s = q := by
  unfold putL at h
  split at h
  · split at h
    · exact .inl h
    · simpa using h
  · simp at h; exact .inr h
theorem putL_before {out : List St} {t t' x : Int} (h : ∀ s ∈ out, s.1 < t) (ht : t < t') : ∀ s ∈ putL out (t, x), s.1 < t' := by
  intro s hs
  rcases mem_putL hs with hs | rfl
  · have := h s hs; omega
  · exact ht
def TurnPost (w : World) (out : List St) (e : Ending) (w' : World) : Prop := ∃ v, e = .returned v ∧ StRow w' (w.heap.size + 1) v out ∧ Below w.heap.size w w'
set_option maxHeartbeats 16000000 in
theorem turn_any {w : World} {f : Nat} {u : Int} {l : List St} {g0 cap gs : Nat} {S : Int} (h : IsProf w f u l g0 cap) (hS : Blk4 w gs S 0 0 0) (hm : l.length ≤ 4000) (a b : Int) (hab : a < b) (hb : b ≤ 2199023255552)
    (hout : ∀ k x, l[k]? = some x → (∀ s ∈ turnL l a b S k, s.1 < x.1) ∧ (turnL l a b S k).length ≤ 8000 ∧ x.1 < nextT l k ∧ nextT l k ≤ 2199023255552) :
    Calls Tryd.prog 22 #[.pointer (some ⟨f, 0, none⟩), .int .i64 a, .int .i64 b, .func (.func 23) #[] #[.pointer (some ⟨gs, 0, none⟩)]] w (TurnPost w (turnL l a b S l.length)) := by
  have HP := Lib.hid (fun w' (hb : Below w.heap.size w w') => (h.below hb).blk.cells.2.2.2.2)
  have hcell : ∀ w', Below w.heap.size w w' → ∀ i s, l[i]? = some s → w'.cell? ⟨g0, i * 5, none⟩ = some (.int .i64 s.1) ∧ w'.cell? ⟨g0, i * 5 + 1, none⟩ = some (.int .u64 s.2) ∧ w'.cell? ⟨g0, i * 5 + 2, none⟩ = some (.int .u64 0) ∧ w'.cell? ⟨g0, i * 5 + 3, none⟩ = some (.int .u64 0) ∧ w'.cell? ⟨g0, i * 5 + 4, none⟩ = some (.int .u64 0) := by
    intro w' hb' i s hi
    obtain ⟨g', cap', he, _, _, _, _, hc⟩ := (h.below hb').row.form h.some
    simp only [Value.slice.injEq, Option.some.injEq, Addr.mk.injEq, and_true, true_and] at he
    obtain ⟨rfl, rfl⟩ := he
    exact hc i s hi
  have hcap : l.length ≤ cap := by
    obtain ⟨g', cap', he, _, _, hc, _, _⟩ := h.row.form h.some
    simp only [Value.slice.injEq, Option.some.injEq, Addr.mk.injEq, and_true, true_and] at he
    obtain ⟨rfl, rfl⟩ := he
    exact hc
  have HC := Lib.hid hcell
  have HO := Lib.hid hout
  have hp := h.blk.cells.2.2.2.2
  have HS0 := Lib.hid hS
  obtain ⟨n, hn⟩ : ∃ n, l.length = n := ⟨_, rfl⟩
  have HNn := Lib.hid hn
  rw [hn] at hp HP hm hcap ⊢
  have hB1 := below_alloc' w (.cells #[.slice none 0 0] 72)
  have HB1 := Lib.hid hB1
  have p1 := HP.out _ hB1
  clear hcell hout h hS hn hB1
  go_enter Tryd.func22, Tryd.ntmps22
  go_wp2_with fail
  go_loopw [23] (fun i wr => ∃ (k : Nat) (v : Value), i = .int .i64 k ∧ k ≤ n ∧ Box wr w.heap.size v ∧ StRow wr (w.heap.size + 1) v (turnL l a b S k) ∧ Below w.heap.size w wr) (fun i _ => n - (intOf i).toNat)
  case atStart => exact ⟨0, .slice none 0 0, rfl, Nat.zero_le _, heap_alloc_new w _, ⟨rfl, .inl ⟨rfl, rfl⟩⟩, HB1.out⟩
  case round =>
    obtain ⟨k, v, rfl, hk, hbox, hrow, hbel⟩ := hrel
    have HL := Lib.hid hbel
    have HBX := Lib.hid hbox
    have HRW := Lib.hid hrow
    by_cases hlt : k < n
    · obtain ⟨x, hx⟩ : ∃ x, l[k]? = some x := ⟨l[k]'(by have := HNn.out; omega), List.getElem?_eq_getElem (by have := HNn.out; omega)⟩
      obtain ⟨xa, xf⟩ := x
      obtain ⟨o1, o2, o3, o4⟩ := HO.out k _ hx
      obtain ⟨nx, hnx⟩ : ∃ nx, nextT l k = nx := ⟨_, rfl⟩
      rw [hnx] at o3 o4
      have hturn : turnL l a b S (k + 1) = roundL a b S (turnL l a b S k) (xa, xf) nx := by simp [turnL, hx, hnx]
      have HTN := Lib.hid hturn
      obtain ⟨out, hout⟩ : ∃ out, turnL l a b S k = out := ⟨_, rfl⟩
      rw [hout] at o1 o2 HRW HTN
      have hbX : Below w.heap.size w (wr.alloc (.cells #[.int .i64 xa, .int .u64 xf, .int .u64 0, .int .u64 0, .int .u64 0] 71)) := HL.out.alloc HL.out.size (.cells #[.int .i64 xa, .int .u64 xf, .int .u64 0, .int .u64 0, .int .u64 0] 71)
      have HLX := Lib.hid hbX
      have hs0 : RS w (wr.alloc (.cells #[.int .i64 xa, .int .u64 xf, .int .u64 0, .int .u64 0, .int .u64 0] 71)) gs S w.heap.size wr.heap.size v out xa xf := by
        have hlt := HBX.out.lt
        refine ⟨HBX.out.below (below_alloc' wr _) hlt, HRW.out.below (below_alloc' wr _) (fun k hk => (HRW.out.lt k hk).2), heap_alloc_new wr _, (HS0.out.below hbX), hbX, HS0.out.lt, by omega, ?_, by simp; omega⟩
        intro he
        have := (HRW.out.lt _ he).2
        omega
      have HS := Lib.hid hs0
      obtain ⟨x0, x1, x2, x3, x4⟩ := hs0.x.cells
      obtain ⟨c0, c1, c2, c3, c4⟩ := HC.out _ hbel k _ hx
      have pX := HP.out _ hbX
      have e1 : IntKind.i64.wrap ((k : Int) + 1) = (k : Int) + 1 := IntWalk.i64_in _ (by omega)
      simp only at o1 o3
      have HT0 := Lib.hid o1
      have HN0 := Lib.hid (show out.length ≤ 8000 by omega)
      have hfin : ∀ (wf : World) (vf : Value) (of : List St), RS w wf gs S w.heap.size wr.heap.size vf of xa xf → roundL a b S out (xa, xf) nx = of → ∃ (k' : Nat) (v : Value), Value.int .i64 ((k : Int) + 1) = .int .i64 (k' : Int) ∧ k' ≤ n ∧ Box wf w.heap.size v ∧ StRow wf (w.heap.size + 1) v (turnL l a b S k') ∧ Below w.heap.size w wf := by
        intro wf vf of hs he
        exact ⟨k + 1, vf, by simp, by omega, hs.box, by rw [HTN.out, he]; exact hs.row, hs.below⟩
      have HF := Lib.hid hfin
      have HXX := Lib.hid hx
      clear hfin hturn hs0 hbX hbel hbox hrow o1 o2
      by_cases hlast : k + 1 < n
      · have hnc : (wr.alloc (.cells #[.int .i64 xa, .int .u64 xf, .int .u64 0, .int .u64 0, .int .u64 0] 71)).cell? ⟨g0, (k + 1) * 5, none⟩ = some (.int .i64 nx) := by
          obtain ⟨y, hy⟩ : ∃ y, l[k + 1]? = some y := ⟨l[k + 1]'(by have := HNn.out; omega), List.getElem?_eq_getElem (by have := HNn.out; omega)⟩
          have : nx = y.1 := by rw [← hnx]; simp [nextT, hy]
          rw [this]
          exact (HC.out _ HLX.out (k + 1) y hy).1
        have hl1 : (k : Int) + 1 < (n : Int) := by omega
        clear hx hnx hout
        by_cases c1 : xa < a
        · by_cases c2 : b < nx
          · have HT1 := Lib.hid (putL_before (x := xf) HT0.out (show xa < a by omega))
            have HN1 := Lib.hid (show (putL out (xa, xf)).length ≤ 8001 by have := putL_len out (xa, xf); have := HN0.out; omega)
            have HT2 := Lib.hid (putL_before (x := bits .andNot .u64 xf S) HT1.out (show a < b by omega))
            have HN2 := Lib.hid (show (putL (putL out (xa, xf)) (a, bits .andNot .u64 xf S)).length ≤ 8002 by have := putL_len (putL out (xa, xf)) (a, bits .andNot .u64 xf S); have := HN1.out; omega)
            have hR : roundL a b S out (xa, xf) nx = (putL (putL (putL out (xa, xf)) (a, bits .andNot .u64 xf S)) (b, xf)) := by simp only [roundL]; rw [if_pos c1, if_pos (show max xa a < min nx b by omega), if_pos (show max xa b < nx by omega), show max xa a = a by omega, show max xa b = b by omega]
            have HRR := Lib.hid hR
            clear hR
            have q0 : (xa < a) = True := eq_true (by omega)
            have q1 : (xa < b) = True := eq_true (by omega)
            have q2 : (b < nx) = True := eq_true (by omega)
            have q3 : (a < b) = True := eq_true (by omega)
            go_wp2_with (first | (go_at_call 23; refine (takes_any HS.out.set _).mono ?_; rintro e w5 ⟨rfl, hb5⟩; rw [setV_four]; have hs5 := HS.out.kept hb5; clear HS; have HS := Lib.hid hs5; obtain ⟨x0, x1, x2, x3, x4⟩ := hs5.x.cells; clear hs5 hb5) | (go_at_call_of 29 (Value.int IntKind.i64 xa); refine (put_any (Nat.le_trans HN0.out (by decide)) HS.out.box HS.out.row HS.out.sz _ _ HT0.out).mono ?_; rintro e wp0 hp; obtain ⟨vp0, rfl, hsp⟩ := HS.out.put hp; clear HS hp; have HS := Lib.hid hsp; obtain ⟨x0, x1, x2, x3, x4⟩ := hsp.x.cells; clear hsp) | (go_at_call_of 29 (Value.int IntKind.i64 a); refine (put_any (Nat.le_trans HN1.out (by decide)) HS.out.box HS.out.row HS.out.sz _ _ HT1.out).mono ?_; rintro e wp1 hp; obtain ⟨vp1, rfl, hsp⟩ := HS.out.put hp; clear HS hp; have HS := Lib.hid hsp; obtain ⟨x0, x1, x2, x3, x4⟩ := hsp.x.cells; clear hsp) | (go_at_call_of 29 (Value.int IntKind.i64 b); refine (put_any (Nat.le_trans HN2.out (by decide)) HS.out.box HS.out.row HS.out.sz _ _ HT2.out).mono ?_; rintro e wp2 hp; obtain ⟨vp2, rfl, hsp⟩ := HS.out.put hp; clear HS hp; have HS := Lib.hid hsp; obtain ⟨x0, x1, x2, x3, x4⟩ := hsp.x.cells; clear hsp))
            exact ⟨HF.out _ _ _ HS.out HRR.out, by simp only [intOf]; omega⟩
          · by_cases c3 : a < nx
            · have HT1 := Lib.hid (putL_before (x := xf) HT0.out (show xa < a by omega))
              have HN1 := Lib.hid (show (putL out (xa, xf)).length ≤ 8001 by have := putL_len out (xa, xf); have := HN0.out; omega)
              have hR : roundL a b S out (xa, xf) nx = (putL (putL out (xa, xf)) (a, bits .andNot .u64 xf S)) := by simp only [roundL]; rw [if_pos c1, if_pos (show max xa a < min nx b by omega), if_neg (show ¬ max xa b < nx by omega), show max xa a = a by omega]
              have HRR := Lib.hid hR
              clear hR
              have q0 : (xa < a) = True := eq_true (by omega)
              have q1 : (xa < b) = True := eq_true (by omega)
              have q2 : (b < nx) = False := eq_false (by omega)
              have q3 : (a < nx) = True := eq_true (by omega)
              go_wp2_with (first | (go_at_call 23; refine (takes_any HS.out.set _).mono ?_; rintro e w5 ⟨rfl, hb5⟩; rw [setV_four]; have hs5 := HS.out.kept hb5; clear HS; have HS := Lib.hid hs5; obtain ⟨x0, x1, x2, x3, x4⟩ := hs5.x.cells; clear hs5 hb5) | (go_at_call_of 29 (Value.int IntKind.i64 xa); refine (put_any (Nat.le_trans HN0.out (by decide)) HS.out.box HS.out.row HS.out.sz _ _ HT0.out).mono ?_; rintro e wp0 hp; obtain ⟨vp0, rfl, hsp⟩ := HS.out.put hp; clear HS hp; have HS := Lib.hid hsp; obtain ⟨x0, x1, x2, x3, x4⟩ := hsp.x.cells; clear hsp) | (go_at_call_of 29 (Value.int IntKind.i64 a); refine (put_any (Nat.le_trans HN1.out (by decide)) HS.out.box HS.out.row HS.out.sz _ _ HT1.out).mono ?_; rintro e wp1 hp; obtain ⟨vp1, rfl, hsp⟩ := HS.out.put hp; clear HS hp; have HS := Lib.hid hsp; obtain ⟨x0, x1, x2, x3, x4⟩ := hsp.x.cells; clear hsp))
              exact ⟨HF.out _ _ _ HS.out HRR.out, by simp only [intOf]; omega⟩
            · have hR : roundL a b S out (xa, xf) nx = (putL out (xa, xf)) := by simp only [roundL]; rw [if_pos c1, if_neg (show ¬ max xa a < min nx b by omega), if_neg (show ¬ max xa b < nx by omega)]
              have HRR := Lib.hid hR
              clear hR
              have q0 : (xa < a) = True := eq_true (by omega)
              have q1 : (xa < b) = True := eq_true (by omega)
              have q2 : (b < nx) = False := eq_false (by omega)
              have q3 : (a < nx) = False := eq_false (by omega)
              go_wp2_with (first | (go_at_call 23; refine (takes_any HS.out.set _).mono ?_; rintro e w5 ⟨rfl, hb5⟩; rw [setV_four]; have hs5 := HS.out.kept hb5; clear HS; have HS := Lib.hid hs5; obtain ⟨x0, x1, x2, x3, x4⟩ := hs5.x.cells; clear hs5 hb5) | (go_at_call_of 29 (Value.int IntKind.i64 xa); refine (put_any (Nat.le_trans HN0.out (by decide)) HS.out.box HS.out.row HS.out.sz _ _ HT0.out).mono ?_; rintro e wp0 hp; obtain ⟨vp0, rfl, hsp⟩ := HS.out.put hp; clear HS hp; have HS := Lib.hid hsp; obtain ⟨x0, x1, x2, x3, x4⟩ := hsp.x.cells; clear hsp))
              exact ⟨HF.out _ _ _ HS.out HRR.out, by simp only [intOf]; omega⟩
        · by_cases c0 : xa < b
          · by_cases c2 : b < nx
            · have HT1 := Lib.hid (putL_before (x := bits .andNot .u64 xf S) HT0.out (show xa < b by omega))
              have HN1 := Lib.hid (show (putL out (xa, bits .andNot .u64 xf S)).length ≤ 8001 by have := putL_len out (xa, bits .andNot .u64 xf S); have := HN0.out; omega)
              have hR : roundL a b S out (xa, xf) nx = (putL (putL out (xa, bits .andNot .u64 xf S)) (b, xf)) := by simp only [roundL]; rw [if_neg c1, if_pos (show max xa a < min nx b by omega), if_pos (show max xa b < nx by omega), show max xa a = xa by omega, show max xa b = b by omega]
              have HRR := Lib.hid hR
              clear hR
              have q0 : (xa < a) = False := eq_false (by omega)
              have q1 : (xa < b) = True := eq_true (by omega)
              have q2 : (b < nx) = True := eq_true (by omega)
              go_wp2_with (first | (go_at_call 23; refine (takes_any HS.out.set _).mono ?_; rintro e w5 ⟨rfl, hb5⟩; rw [setV_four]; have hs5 := HS.out.kept hb5; clear HS; have HS := Lib.hid hs5; obtain ⟨x0, x1, x2, x3, x4⟩ := hs5.x.cells; clear hs5 hb5) | (go_at_call_of 29 (Value.int IntKind.i64 xa); refine (put_any (Nat.le_trans HN0.out (by decide)) HS.out.box HS.out.row HS.out.sz _ _ HT0.out).mono ?_; rintro e wp0 hp; obtain ⟨vp0, rfl, hsp⟩ := HS.out.put hp; clear HS hp; have HS := Lib.hid hsp; obtain ⟨x0, x1, x2, x3, x4⟩ := hsp.x.cells; clear hsp) | (go_at_call_of 29 (Value.int IntKind.i64 b); refine (put_any (Nat.le_trans HN1.out (by decide)) HS.out.box HS.out.row HS.out.sz _ _ HT1.out).mono ?_; rintro e wp1 hp; obtain ⟨vp1, rfl, hsp⟩ := HS.out.put hp; clear HS hp; have HS := Lib.hid hsp; obtain ⟨x0, x1, x2, x3, x4⟩ := hsp.x.cells; clear hsp))
              exact ⟨HF.out _ _ _ HS.out HRR.out, by simp only [intOf]; omega⟩
            · have hR : roundL a b S out (xa, xf) nx = (putL out (xa, bits .andNot .u64 xf S)) := by simp only [roundL]; rw [if_neg c1, if_pos (show max xa a < min nx b by omega), if_neg (show ¬ max xa b < nx by omega), show max xa a = xa by omega]
              have HRR := Lib.hid hR
              clear hR
              have q0 : (xa < a) = False := eq_false (by omega)
              have q1 : (xa < b) = True := eq_true (by omega)
              have q2 : (b < nx) = False := eq_false (by omega)
              have q3 : (xa < nx) = True := eq_true (by omega)
              go_wp2_with (first | (go_at_call 23; refine (takes_any HS.out.set _).mono ?_; rintro e w5 ⟨rfl, hb5⟩; rw [setV_four]; have hs5 := HS.out.kept hb5; clear HS; have HS := Lib.hid hs5; obtain ⟨x0, x1, x2, x3, x4⟩ := hs5.x.cells; clear hs5 hb5) | (go_at_call_of 29 (Value.int IntKind.i64 xa); refine (put_any (Nat.le_trans HN0.out (by decide)) HS.out.box HS.out.row HS.out.sz _ _ HT0.out).mono ?_; rintro e wp0 hp; obtain ⟨vp0, rfl, hsp⟩ := HS.out.put hp; clear HS hp; have HS := Lib.hid hsp; obtain ⟨x0, x1, x2, x3, x4⟩ := hsp.x.cells; clear hsp))
              exact ⟨HF.out _ _ _ HS.out HRR.out, by simp only [intOf]; omega⟩
          · have hR : roundL a b S out (xa, xf) nx = (putL out (xa, xf)) := by simp only [roundL]; rw [if_neg c1, if_neg (show ¬ max xa a < min nx b by omega), if_pos (show max xa b < nx by omega), show max xa b = xa by omega]
            have HRR := Lib.hid hR
            clear hR
            have q0 : (xa < a) = False := eq_false (by omega)
            have q1 : (xa < b) = False := eq_false (by omega)
            have q2 : (b < nx) = True := eq_true (by omega)
            have q3 : (xa < nx) = True := eq_true (by omega)
            go_wp2_with (first | (go_at_call 23; refine (takes_any HS.out.set _).mono ?_; rintro e w5 ⟨rfl, hb5⟩; rw [setV_four]; have hs5 := HS.out.kept hb5; clear HS; have HS := Lib.hid hs5; obtain ⟨x0, x1, x2, x3, x4⟩ := hs5.x.cells; clear hs5 hb5) | (go_at_call_of 29 (Value.int IntKind.i64 xa); refine (put_any (Nat.le_trans HN0.out (by decide)) HS.out.box HS.out.row HS.out.sz _ _ HT0.out).mono ?_; rintro e wp0 hp; obtain ⟨vp0, rfl, hsp⟩ := HS.out.put hp; clear HS hp; have HS := Lib.hid hsp; obtain ⟨x0, x1, x2, x3, x4⟩ := hsp.x.cells; clear hsp))
            exact ⟨HF.out _ _ _ HS.out HRR.out, by simp only [intOf]; omega⟩
      · have hnx2 : nx = 2199023255552 := by
          rw [← hnx]
          have : l[k + 1]? = none := by rw [List.getElem?_eq_none_iff]; have := HNn.out; omega
          simp [nextT, this]
        have hl1 : ¬ (k : Int) + 1 < (n : Int) := by omega
        clear hx hnx hout
        subst hnx2
        by_cases c1 : xa < a
        · by_cases c2 : b < 2199023255552
          · have HT1 := Lib.hid (putL_before (x := xf) HT0.out (show xa < a by omega))
            have HN1 := Lib.hid (show (putL out (xa, xf)).length ≤ 8001 by have := putL_len out (xa, xf); have := HN0.out; omega)
            have HT2 := Lib.hid (putL_before (x := bits .andNot .u64 xf S) HT1.out (show a < b by omega))
            have HN2 := Lib.hid (show (putL (putL out (xa, xf)) (a, bits .andNot .u64 xf S)).length ≤ 8002 by have := putL_len (putL out (xa, xf)) (a, bits .andNot .u64 xf S); have := HN1.out; omega)
            have hR : roundL a b S out (xa, xf) 2199023255552 = (putL (putL (putL out (xa, xf)) (a, bits .andNot .u64 xf S)) (b, xf)) := by simp only [roundL]; rw [if_pos c1, if_pos (show max xa a < min 2199023255552 b by omega), if_pos (show max xa b < 2199023255552 by omega), show max xa a = a by omega, show max xa b = b by omega]
            have HRR := Lib.hid hR
            clear hR
            have q0 : (xa < a) = True := eq_true (by omega)
            have q1 : (xa < b) = True := eq_true (by omega)
            have q2 : (b < 2199023255552) = True := eq_true (by omega)
            have q3 : (a < b) = True := eq_true (by omega)
            go_wp2_with (first | (go_at_call 23; refine (takes_any HS.out.set _).mono ?_; rintro e w5 ⟨rfl, hb5⟩; rw [setV_four]; have hs5 := HS.out.kept hb5; clear HS; have HS := Lib.hid hs5; obtain ⟨x0, x1, x2, x3, x4⟩ := hs5.x.cells; clear hs5 hb5) | (go_at_call_of 29 (Value.int IntKind.i64 xa); refine (put_any (Nat.le_trans HN0.out (by decide)) HS.out.box HS.out.row HS.out.sz _ _ HT0.out).mono ?_; rintro e wp0 hp; obtain ⟨vp0, rfl, hsp⟩ := HS.out.put hp; clear HS hp; have HS := Lib.hid hsp; obtain ⟨x0, x1, x2, x3, x4⟩ := hsp.x.cells; clear hsp) | (go_at_call_of 29 (Value.int IntKind.i64 a); refine (put_any (Nat.le_trans HN1.out (by decide)) HS.out.box HS.out.row HS.out.sz _ _ HT1.out).mono ?_; rintro e wp1 hp; obtain ⟨vp1, rfl, hsp⟩ := HS.out.put hp; clear HS hp; have HS := Lib.hid hsp; obtain ⟨x0, x1, x2, x3, x4⟩ := hsp.x.cells; clear hsp) | (go_at_call_of 29 (Value.int IntKind.i64 b); refine (put_any (Nat.le_trans HN2.out (by decide)) HS.out.box HS.out.row HS.out.sz _ _ HT2.out).mono ?_; rintro e wp2 hp; obtain ⟨vp2, rfl, hsp⟩ := HS.out.put hp; clear HS hp; have HS := Lib.hid hsp; obtain ⟨x0, x1, x2, x3, x4⟩ := hsp.x.cells; clear hsp))
            exact ⟨HF.out _ _ _ HS.out HRR.out, by simp only [intOf]; omega⟩
          · by_cases c3 : a < 2199023255552
            · have HT1 := Lib.hid (putL_before (x := xf) HT0.out (show xa < a by omega))
              have HN1 := Lib.hid (show (putL out (xa, xf)).length ≤ 8001 by have := putL_len out (xa, xf); have := HN0.out; omega)
              have hR : roundL a b S out (xa, xf) 2199023255552 = (putL (putL out (xa, xf)) (a, bits .andNot .u64 xf S)) := by simp only [roundL]; rw [if_pos c1, if_pos (show max xa a < min 2199023255552 b by omega), if_neg (show ¬ max xa b < 2199023255552 by omega), show max xa a = a by omega]
              have HRR := Lib.hid hR
              clear hR
              have q0 : (xa < a) = True := eq_true (by omega)
              have q1 : (xa < b) = True := eq_true (by omega)
              have q2 : (b < 2199023255552) = False := eq_false (by omega)
              have q3 : (a < 2199023255552) = True := eq_true (by omega)
              go_wp2_with (first | (go_at_call 23; refine (takes_any HS.out.set _).mono ?_; rintro e w5 ⟨rfl, hb5⟩; rw [setV_four]; have hs5 := HS.out.kept hb5; clear HS; have HS := Lib.hid hs5; obtain ⟨x0, x1, x2, x3, x4⟩ := hs5.x.cells; clear hs5 hb5) | (go_at_call_of 29 (Value.int IntKind.i64 xa); refine (put_any (Nat.le_trans HN0.out (by decide)) HS.out.box HS.out.row HS.out.sz _ _ HT0.out).mono ?_; rintro e wp0 hp; obtain ⟨vp0, rfl, hsp⟩ := HS.out.put hp; clear HS hp; have HS := Lib.hid hsp; obtain ⟨x0, x1, x2, x3, x4⟩ := hsp.x.cells; clear hsp) | (go_at_call_of 29 (Value.int IntKind.i64 a); refine (put_any (Nat.le_trans HN1.out (by decide)) HS.out.box HS.out.row HS.out.sz _ _ HT1.out).mono ?_; rintro e wp1 hp; obtain ⟨vp1, rfl, hsp⟩ := HS.out.put hp; clear HS hp; have HS := Lib.hid hsp; obtain ⟨x0, x1, x2, x3, x4⟩ := hsp.x.cells; clear hsp))
              exact ⟨HF.out _ _ _ HS.out HRR.out, by simp only [intOf]; omega⟩
            · exfalso; omega
        · by_cases c0 : xa < b
          · by_cases c2 : b < 2199023255552
            · have HT1 := Lib.hid (putL_before (x := bits .andNot .u64 xf S) HT0.out (show xa < b by omega))
              have HN1 := Lib.hid (show (putL out (xa, bits .andNot .u64 xf S)).length ≤ 8001 by have := putL_len out (xa, bits .andNot .u64 xf S); have := HN0.out; omega)
              have hR : roundL a b S out (xa, xf) 2199023255552 = (putL (putL out (xa, bits .andNot .u64 xf S)) (b, xf)) := by simp only [roundL]; rw [if_neg c1, if_pos (show max xa a < min 2199023255552 b by omega), if_pos (show max xa b < 2199023255552 by omega), show max xa a = xa by omega, show max xa b = b by omega]
              have HRR := Lib.hid hR
              clear hR
              have q0 : (xa < a) = False := eq_false (by omega)
              have q1 : (xa < b) = True := eq_true (by omega)
              have q2 : (b < 2199023255552) = True := eq_true (by omega)
              go_wp2_with (first | (go_at_call 23; refine (takes_any HS.out.set _).mono ?_; rintro e w5 ⟨rfl, hb5⟩; rw [setV_four]; have hs5 := HS.out.kept hb5; clear HS; have HS := Lib.hid hs5; obtain ⟨x0, x1, x2, x3, x4⟩ := hs5.x.cells; clear hs5 hb5) | (go_at_call_of 29 (Value.int IntKind.i64 xa); refine (put_any (Nat.le_trans HN0.out (by decide)) HS.out.box HS.out.row HS.out.sz _ _ HT0.out).mono ?_; rintro e wp0 hp; obtain ⟨vp0, rfl, hsp⟩ := HS.out.put hp; clear HS hp; have HS := Lib.hid hsp; obtain ⟨x0, x1, x2, x3, x4⟩ := hsp.x.cells; clear hsp) | (go_at_call_of 29 (Value.int IntKind.i64 b); refine (put_any (Nat.le_trans HN1.out (by decide)) HS.out.box HS.out.row HS.out.sz _ _ HT1.out).mono ?_; rintro e wp1 hp; obtain ⟨vp1, rfl, hsp⟩ := HS.out.put hp; clear HS hp; have HS := Lib.hid hsp; obtain ⟨x0, x1, x2, x3, x4⟩ := hsp.x.cells; clear hsp))
              exact ⟨HF.out _ _ _ HS.out HRR.out, by simp only [intOf]; omega⟩
            · have hR : roundL a b S out (xa, xf) 2199023255552 = (putL out (xa, bits .andNot .u64 xf S)) := by simp only [roundL]; rw [if_neg c1, if_pos (show max xa a < min 2199023255552 b by omega), if_neg (show ¬ max xa b < 2199023255552 by omega), show max xa a = xa by omega]
              have HRR := Lib.hid hR
              clear hR
              have q0 : (xa < a) = False := eq_false (by omega)
              have q1 : (xa < b) = True := eq_true (by omega)
              have q2 : (b < 2199023255552) = False := eq_false (by omega)
              have q3 : (xa < 2199023255552) = True := eq_true (by omega)
              go_wp2_with (first | (go_at_call 23; refine (takes_any HS.out.set _).mono ?_; rintro e w5 ⟨rfl, hb5⟩; rw [setV_four]; have hs5 := HS.out.kept hb5; clear HS; have HS := Lib.hid hs5; obtain ⟨x0, x1, x2, x3, x4⟩ := hs5.x.cells; clear hs5 hb5) | (go_at_call_of 29 (Value.int IntKind.i64 xa); refine (put_any (Nat.le_trans HN0.out (by decide)) HS.out.box HS.out.row HS.out.sz _ _ HT0.out).mono ?_; rintro e wp0 hp; obtain ⟨vp0, rfl, hsp⟩ := HS.out.put hp; clear HS hp; have HS := Lib.hid hsp; obtain ⟨x0, x1, x2, x3, x4⟩ := hsp.x.cells; clear hsp))
              exact ⟨HF.out _ _ _ HS.out HRR.out, by simp only [intOf]; omega⟩
          · have hR : roundL a b S out (xa, xf) 2199023255552 = (putL out (xa, xf)) := by simp only [roundL]; rw [if_neg c1, if_neg (show ¬ max xa a < min 2199023255552 b by omega), if_pos (show max xa b < 2199023255552 by omega), show max xa b = xa by omega]
            have HRR := Lib.hid hR
            clear hR
            have q0 : (xa < a) = False := eq_false (by omega)
            have q1 : (xa < b) = False := eq_false (by omega)
            have q2 : (b < 2199023255552) = True := eq_true (by omega)
            have q3 : (xa < 2199023255552) = True := eq_true (by omega)
            go_wp2_with (first | (go_at_call 23; refine (takes_any HS.out.set _).mono ?_; rintro e w5 ⟨rfl, hb5⟩; rw [setV_four]; have hs5 := HS.out.kept hb5; clear HS; have HS := Lib.hid hs5; obtain ⟨x0, x1, x2, x3, x4⟩ := hs5.x.cells; clear hs5 hb5) | (go_at_call_of 29 (Value.int IntKind.i64 xa); refine (put_any (Nat.le_trans HN0.out (by decide)) HS.out.box HS.out.row HS.out.sz _ _ HT0.out).mono ?_; rintro e wp0 hp; obtain ⟨vp0, rfl, hsp⟩ := HS.out.put hp; clear HS hp; have HS := Lib.hid hsp; obtain ⟨x0, x1, x2, x3, x4⟩ := hsp.x.cells; clear hsp))
            exact ⟨HF.out _ _ _ HS.out HRR.out, by simp only [intOf]; omega⟩
    · obtain rfl : k = n := by omega
      have cb := HBX.out.cell
      go_wp2_with fail
      go_ret
      exact ⟨_, rfl, HRW.out, HL.out⟩
end Go.Proofs.YtnnkibdjbodncaaDoor
