/-
  Sums of a share with itself, taken again and again: what they are.
-/
import Derived.Test.YtjajlddnhmbekaaPairs
namespace Go.Proofs.Ytjajlddnhmbekaa
open Go.RowKit

/-- The share after k sums; none where one of the sums is no share. -/
def sumIt (x0 x1 : List Nat) : Nat → Option (List Nat × List Nat)
  | 0 => some (x0, x1)
  | k + 1 => match sumIt x0 x1 k with
    | none => none
    | some p => if gatOk (combV (pairG true) p.1 x0) (combC p.2 x1) then some ((gatS (combV (pairG true) p.1 x0) (combC p.2 x1)).map Prod.fst, gatW ((gatS (combV (pairG true) p.1 x0) (combC p.2 x1)).map Prod.snd)) else none
def sumG (x0 x1 : List Nat) (n : Int) : Bool := shareB x0 x1 && inB n 1 16
def sumOk (x0 x1 : List Nat) (n : Int) : Bool := sumG x0 x1 n && (sumIt x0 x1 (n.toNat - 1)).isSome
def sumV (x0 x1 : List Nat) (n : Int) : List Nat := ((sumIt x0 x1 (n.toNat - 1)).getD ([], [])).1
def sumC (x0 x1 : List Nat) (n : Int) : List Nat := ((sumIt x0 x1 (n.toNat - 1)).getD ([], [])).2
def RetSumShare (x0 x1 : List Nat) (n : Int) (w : World) (e : Ending) (w' : World) : Prop :=
  RetSh (sumOk x0 x1 n) (absL (sumV x0 x1 n)) (absL (sumC x0 x1 n)) w e w'
theorem sumOk_f {x0 x1 : List Nat} {n : Int} (h : sumG x0 x1 n = false) : sumOk x0 x1 n = false := by unfold sumOk; rw [h]; rfl
theorem sumOk_none {x0 x1 : List Nat} {n : Int} (h : sumIt x0 x1 (n.toNat - 1) = none) : sumOk x0 x1 n = false := by unfold sumOk; rw [h]; simp
theorem sumOk_some {x0 x1 : List Nat} {n : Int} (hg : sumG x0 x1 n = true) {y0 y1 : List Nat} (h : sumIt x0 x1 (n.toNat - 1) = some (y0, y1)) : sumOk x0 x1 n = true ∧ sumV x0 x1 n = y0 ∧ sumC x0 x1 n = y1 := by
  unfold sumOk sumV sumC
  rw [h, hg]
  exact ⟨rfl, rfl, rfl⟩
theorem sumIt_none {x0 x1 : List Nat} {k : Nat} (h : sumIt x0 x1 k = none) : ∀ d, sumIt x0 x1 (k + d) = none
  | 0 => h
  | d + 1 => by rw [← Nat.add_assoc]; unfold sumIt; rw [sumIt_none h d]
theorem sumIt_f {x0 x1 : List Nat} {k : Nat} {a c : List Nat} (h : sumIt x0 x1 k = some (a, c)) (hok : gatOk (combV (pairG true) a x0) (combC c x1) = false) : sumIt x0 x1 (k + 1) = none := by
  unfold sumIt
  rw [h]
  simp only [hok]
  rfl
theorem absL_gatW {zs : List Nat} {A : List (Option Nat)} (h : absL zs = A) : absL (gatW A) = A := by
  unfold gatW
  rw [← h]
  exact absL_words zs
theorem sumIt_t {x0 x1 : List Nat} {k : Nat} {a c : List Nat} (h : sumIt x0 x1 k = some (a, c)) (hok : gatOk (combV (pairG true) a x0) (combC c x1) = true) {y0 y1 : List Nat} (h0 : absL y0 = absL ((gatS (combV (pairG true) a x0) (combC c x1)).map Prod.fst)) (h1 : absL y1 = (gatS (combV (pairG true) a x0) (combC c x1)).map Prod.snd) :
    sumIt x0 x1 (k + 1) = some (y0, y1) ∧ shareB y0 y1 = true := by
  have hs : shareAB ((gatS (combV (pairG true) a x0) (combC c x1)).map Prod.fst) ((gatS (combV (pairG true) a x0) (combC c x1)).map Prod.snd) = true := by
    unfold gatOk at hok
    rw [Bool.and_eq_true] at hok
    exact hok.2
  have hf : ((gatS (combV (pairG true) a x0) (combC c x1)).map Prod.fst).all finB = true := by
    unfold shareAB at hs
    simp only [Bool.and_eq_true] at hs
    exact hs.1.1.2
  have e0 : (gatS (combV (pairG true) a x0) (combC c x1)).map Prod.fst = y0 := absL_fin h0.symm hf
  have hs2 : shareB y0 y1 = true := by rw [shareB_abs, h1, ← e0]; exact hs
  have e1 : y1 = gatW ((gatS (combV (pairG true) a x0) (combC c x1)).map Prod.snd) := absL_fin (by rw [absL_gatW h1, h1]) (share_fin hs2).2
  refine ⟨?_, hs2⟩
  unfold sumIt
  rw [h]
  simp only [hok, if_true]
  rw [e0, ← e1]
/-- The state of the sum after j rounds. -/
def SumSt (x0 x1 : List Nat) (ok : Bool) (j : Nat) (y0 y1 : List Nat) : Prop := if ok then sumIt x0 x1 j = some (y0, y1) ∧ shareB y0 y1 = true else sumIt x0 x1 j = none ∧ y0 = [] ∧ y1 = []
section
variable {x0 x1 y0 y1 z0 z1 : List Nat} {j : Nat} {n : Int} {ok : Bool}
theorem sumSt_start (h : shareB x0 x1 = true) : SumSt x0 x1 true 0 x0 x1 := ⟨rfl, h⟩
theorem sumSt_t (h : SumSt x0 x1 true j y0 y1) : sumIt x0 x1 j = some (y0, y1) ∧ shareB y0 y1 = true := h
theorem sumSt_step (hs : shareB x0 x1 = true) (h : SumSt x0 x1 true j y0 y1)
    (a0 : absL z0 = if combOk (pairG true) y0 y1 x0 x1 then absL ((gatS (combV (pairG true) y0 x0) (combC y1 x1)).map Prod.fst) else []) (a1 : absL z1 = if combOk (pairG true) y0 y1 x0 x1 then (gatS (combV (pairG true) y0 x0) (combC y1 x1)).map Prod.snd else []) :
    SumSt x0 x1 (combOk (pairG true) y0 y1 x0 x1) (j + 1) z0 z1 := by
  obtain ⟨h1, h2⟩ := h
  have hc : combOk (pairG true) y0 y1 x0 x1 = gatOk (combV (pairG true) y0 x0) (combC y1 x1) := combOk_t (by unfold combG; rw [h2, hs]; rfl)
  rw [hc] at a0 a1 ⊢
  unfold SumSt
  cases hg : gatOk (combV (pairG true) y0 x0) (combC y1 x1)
  · rw [hg] at a0 a1
    exact ⟨sumIt_f h1 hg, List.map_eq_nil_iff.1 a0, List.map_eq_nil_iff.1 a1⟩
  · rw [hg] at a0 a1
    exact sumIt_t h1 hg a0 a1
/-- Where the rounds end. -/
theorem sumSt_end (hg : sumG x0 x1 n = true) (h : SumSt x0 x1 ok j y0 y1) (hj : (j : Int) + 1 ≤ n) (he : ok = true → (j : Int) + 1 = n) :
    sumOk x0 x1 n = ok ∧ absL y0 = (if ok then absL (sumV x0 x1 n) else []) ∧ absL y1 = (if ok then absL (sumC x0 x1 n) else []) := by
  cases ok with
  | true =>
    obtain ⟨h1, _⟩ := h
    have hn : n.toNat - 1 = j := by have := he rfl; omega
    obtain ⟨e1, e2, e3⟩ := sumOk_some hg (n := n) (by rw [hn]; exact h1)
    exact ⟨e1, by rw [e2]; rfl, by rw [e3]; rfl⟩
  | false =>
    obtain ⟨h1, rfl, rfl⟩ := h
    refine ⟨sumOk_none ?_, rfl, rfl⟩
    have hd := sumIt_none h1 (n.toNat - 1 - j)
    rwa [show j + (n.toNat - 1 - j) = n.toNat - 1 by omega] at hd
end
end Go.Proofs.Ytjajlddnhmbekaa
