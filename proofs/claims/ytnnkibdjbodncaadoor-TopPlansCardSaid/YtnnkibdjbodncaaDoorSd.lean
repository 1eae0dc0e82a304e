/- Plans over what is free: plain facts. No condition. -/
import Derived.Test.YtnnkibdjbodncaaDoorSb
namespace Go.Proofs.YtnnkibdjbodncaaDoor
open Go.RowKit
/-- The earliest time, and the lowest nodes. -/
structure Best (F : Int → Nat) (now : Int) (w : Wi) (t : Int) (S : Nat) : Prop where
  from_ : now ≤ t
  low : IsLow w.n (avail F w t) S
  least : ∀ t', now ≤ t' → t' < t → popN (avail F w t') < w.n
  early : t < 1099511627776
def Plans (now : Int) : (Int → Nat) → List Wi → List (Option (Int × Nat)) → Prop
  | _, [], [] => True
  | F, w :: ws, none :: ps => (∀ t, now ≤ t → t < 1099511627776 → popN (avail F w t) < w.n) ∧ Plans now F ws ps
  | F, w :: ws, some (t, S) :: ps => Best F now w t S ∧ Plans now (taken F S t w.long) ws ps
  | _, _, _ => False
theorem Plans.congr {now : Int} : ∀ {ws : List Wi} {ps : List (Option (Int × Nat))} {F G : Int → Nat}, (∀ t, now ≤ t → F t = G t) → Plans now F ws ps → Plans now G ws ps
  | [], [], _, _, _, _ => trivial
  | w :: ws, none :: ps, F, G, h, hp => by
    refine ⟨fun t ht hH => ?_, Plans.congr h hp.2⟩
    rw [← avail_congr fun j hj => h (t + j) (by omega)]
    exact hp.1 t ht hH
  | w :: ws, some (t, S) :: ps, F, G, h, hp => by
    have hc : ∀ t, now ≤ t → avail F w t = avail G w t := fun t ht => avail_congr fun j hj => h (t + j) (by omega)
    refine ⟨⟨hp.1.from_, ?_, fun t' h1 h2 => ?_, hp.1.early⟩, Plans.congr (fun x hx => ?_) hp.2⟩
    · rw [← hc t hp.1.from_]; exact hp.1.low
    · rw [← hc t' h1]; exact hp.1.least t' h1 h2
    · unfold taken; rw [h x hx]
  | [], _ :: _, _, _, _, hp => by simp [Plans] at hp
  | _ :: _, [], _, _, _, hp => by simp [Plans] at hp
theorem Best.unique {F : Int → Nat} {now : Int} {w : Wi} {t t' : Int} {S S' : Nat} (h : Best F now w t S) (h' : Best F now w t' S') : t = t' ∧ S = S' := by
  have a := h.low.pop
  have b := h'.low.pop
  have e : t = t' := by
    rcases Int.lt_trichotomy t t' with hl | hl | hl
    · have := h'.least t h.from_ hl; omega
    · exact hl
    · have := h.least t' h'.from_ hl; omega
  subst e
  exact ⟨rfl, h.low.unique h'.low⟩
theorem Plans.unique {now : Int} : ∀ {ws : List Wi} {ps qs : List (Option (Int × Nat))} {F : Int → Nat}, Plans now F ws ps → Plans now F ws qs → ps = qs
  | [], [], [], _, _, _ => rfl
  | w :: ws, none :: ps, none :: qs, F, h, k => by rw [Plans.unique h.2 k.2]
  | w :: ws, none :: ps, some (t, S) :: qs, F, h, k => by
    have a := h.1 t k.1.from_ k.1.early
    have b := k.1.low.pop
    omega
  | w :: ws, some (t, S) :: ps, none :: qs, F, h, k => by
    have a := k.1 t h.1.from_ h.1.early
    have b := h.1.low.pop
    omega
  | w :: ws, some (t, S) :: ps, some (t', S') :: qs, F, h, k => by
    obtain ⟨rfl, rfl⟩ := h.1.unique k.1
    rw [Plans.unique h.2 k.2]
  | [], _ :: _, _, _, hp, _ => by simp [Plans] at hp
  | [], [], _ :: _, _, _, hp => by simp [Plans] at hp
  | _ :: _, [], _, _, hp, _ => by simp [Plans] at hp
  | _ :: _, _ :: _, [], _, _, hp => by simp [Plans] at hp
theorem Plans.length {now : Int} : ∀ {ws : List Wi} {ps : List (Option (Int × Nat))} {F : Int → Nat}, Plans now F ws ps → ps.length = ws.length
  | [], [], _, _ => rfl
  | w :: ws, none :: ps, F, h => by simp [Plans.length h.2]
  | w :: ws, some (t, S) :: ps, F, h => by simp [Plans.length h.2]
  | [], _ :: _, _, hp => by simp [Plans] at hp
  | _ :: _, [], _, hp => by simp [Plans] at hp
end Go.Proofs.YtnnkibdjbodncaaDoor
