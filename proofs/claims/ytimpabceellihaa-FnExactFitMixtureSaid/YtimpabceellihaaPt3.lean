/-
  Three rows apart, as ranges.
-/
import Derived.Test.YtimpabceellihaaLw
namespace Go.Proofs.Ytimpabceellihaa
open Go.RowKit

section
variable {α β γ : Type} {f : α → Value} {f' : β → Value} {f'' : γ → Value} {E E' E'' : TypeId} {w : World} {base : Nat} {u v x : Value} {xs : List α} {ys : List β} {zs : List γ}
theorem pt_sep {lo hi lo' hi' S : Nat} (h1 : hi ≤ S) (h2 : hi' ≤ S) (h5 : v.ownBlock = none → lo = hi ∧ hi = S) (h6 : ∀ g, v.ownBlock = some g → lo = g ∧ hi = g + 1) (k5 : u.ownBlock = none → lo' = hi' ∧ hi' = S) (k6 : ∀ g, u.ownBlock = some g → lo' = g ∧ hi' = g + 1)
    (ap : v.ownBlock = none ∨ v.ownBlock ≠ u.ownBlock) : hi ≤ lo' ∨ hi' ≤ lo := by
  cases hv : v.ownBlock with
  | none => have := h5 hv; omega
  | some a =>
    cases hu : u.ownBlock with
    | none => have := k5 hu; omega
    | some b =>
      have e1 := h6 a hv
      have e2 := k6 b hu
      have : a ≠ b := by
        rintro rfl
        rcases ap with ap | ap
        · rw [hv] at ap; cases ap
        · exact ap (hv.trans hu.symm)
      omega
theorem own_pt3 (h : Own f E w base v xs) (k : Own f' E' w base u ys) (l : Own f'' E'' w base x zs) (a1 : v.ownBlock = none ∨ v.ownBlock ≠ u.ownBlock) (a2 : v.ownBlock = none ∨ v.ownBlock ≠ x.ownBlock) (a3 : u.ownBlock = none ∨ u.ownBlock ≠ x.ownBlock) (hb : base ≤ w.heap.size) :
    ∃ lo hi lo' hi' lo2 hi2, OwnR f E w lo hi v xs ∧ OwnR f' E' w lo' hi' u ys ∧ OwnR f'' E'' w lo2 hi2 x zs ∧ base ≤ lo ∧ lo ≤ w.heap.size ∧ hi ≤ w.heap.size ∧ base ≤ lo' ∧ lo' ≤ w.heap.size ∧ hi' ≤ w.heap.size ∧ base ≤ lo2 ∧ lo2 ≤ w.heap.size ∧ hi2 ≤ w.heap.size ∧
      (hi ≤ lo' ∨ hi' ≤ lo) ∧ (hi ≤ lo2 ∨ hi2 ≤ lo) ∧ (hi' ≤ lo2 ∨ hi2 ≤ lo') := by
  obtain ⟨lo, hi, h1, h2, h3, h4, h5, h6⟩ := h.pt hb
  obtain ⟨lo', hi', k1, k2, k3, k4, k5, k6⟩ := k.pt hb
  obtain ⟨lo2, hi2, l1, l2, l3, l4, l5, l6⟩ := l.pt hb
  exact ⟨lo, hi, lo', hi', lo2, hi2, h1, k1, l1, h2, h3, h4, k2, k3, k4, l2, l3, l4, pt_sep h4 k4 h5 h6 k5 k6 a1, pt_sep h4 l4 h5 h6 l5 l6 a2, pt_sep k4 l4 k5 k6 l5 l6 a3⟩
end
end Go.Proofs.Ytimpabceellihaa
