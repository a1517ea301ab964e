/-
  Means of shares, chances below a number: the walks of spec.l05Mean, impl.DotNumbers, both MeanOfShare, spec.l05Below, impl.chanceBelow, both ChanceBelow.
-/
import Derived.Test.YthdnelfggmlalaaValidSh
import Derived.Test.YthdnelfggmlalaaFq
namespace Go.Proofs.Ythdnelfggmlalaa
open Go.RowKit
attribute [local go_sem] run_fl_add run_fl_sub run_fl_mul run_fl_quo run_up_

/-- Finite, of what a word stands for. -/
def finA : Option Nat → Bool | none => false | some b => finB b
theorem fin_abs (b : Nat) : finB b = finA (absF .f32 b) := by
  cases h : (FloatKind.f32.decode b).isNaN
  · rw [absF_of h]; rfl
  · rw [absF_nan h]
    obtain ⟨s, t, e⟩ := nan_cases h
    simp [finB, finA, e]
/-- The sum of the products of the first k pairs. -/
def dotTo (xs ys : List Nat) (k : Nat) : Option Nat := (List.range k).foldl (fun s i => opF .add .f32 s (opF .mul .f32 (absF .f32 (xs.getD i 0)) (absF .f32 (ys.getD i 0)))) (some 0)
theorem dotTo_succ {xs ys : List Nat} {k x y : Nat} (hx : xs[k]? = some x) (hy : ys[k]? = some y) : dotTo xs ys (k + 1) = opF .add .f32 (dotTo xs ys k) (opF .mul .f32 (absF .f32 x) (absF .f32 y)) := by
  simp [dotTo, List.range_succ, hx, hy]
/-- The sum of the chances of all values of at most t, of the first k. -/
def belowTo (v c : List Nat) (t k : Nat) : Option Nat := (List.range k).foldl (fun s i => if leB (v.getD i 0) t then opF .add .f32 s (absF .f32 (c.getD i 0)) else s) (some 0)
theorem belowTo_succ {v c : List Nat} {t k x y : Nat} (hx : v[k]? = some x) (hy : c[k]? = some y) : belowTo v c t (k + 1) = if leB x t then opF .add .f32 (belowTo v c t k) (absF .f32 y) else belowTo v c t k := by
  simp [belowTo, List.range_succ, hx, hy]
theorem abs_zero : absF .f32 0 = some 0 := by decide
theorem below_same' {w w' : World} (h : w = w') : Below w.heap.size w w' := by subst h; exact Below.refl _ _

/-- x, if it is finite. -/
def numF (x : Nat) : Nat := if finB x then x else 0
def meanOk (x0 x1 : List Nat) : Bool := shareB x0 x1 && finA (dotTo x0 x1 x0.length)
def meanV (x0 x1 : List Nat) : Option Nat := if meanOk x0 x1 then dotTo x0 x1 x0.length else some 0
def RetMeanOfShare (x0 x1 : List Nat) (w : World) (e : Ending) (w' : World) : Prop :=
  ∃ b, e = .returned (.tuple #[fV b, .bool (meanOk x0 x1)]) ∧ absF .f32 b = meanV x0 x1 ∧ Below w.heap.size w w'
theorem meanV_of {x0 x1 : List Nat} {b : Nat} (hs : shareB x0 x1 = true) (hb : absF .f32 b = dotTo x0 x1 x0.length) : finB b = meanOk x0 x1 ∧ absF .f32 (numF b) = meanV x0 x1 := by
  have h : finB b = meanOk x0 x1 := by unfold meanOk; rw [hs, fin_abs, hb]; rfl
  refine ⟨h, ?_⟩
  unfold meanV numF
  rw [← h]
  split
  · exact hb
  · exact abs_zero
theorem meanV_no {x0 x1 : List Nat} (hs : shareB x0 x1 = false) : meanOk x0 x1 = false ∧ meanV x0 x1 = some 0 := by
  have h : meanOk x0 x1 = false := by unfold meanOk; rw [hs]; rfl
  exact ⟨h, by unfold meanV; rw [h]; rfl⟩

def belowOk (x0 x1 : List Nat) (t : Nat) : Bool := shareB x0 x1 && finB t
def belowV (x0 x1 : List Nat) (t : Nat) : Option Nat := if belowOk x0 x1 t then belowTo x0 x1 t x0.length else some 0
def RetChanceBelow (x0 x1 : List Nat) (t : Nat) (w : World) (e : Ending) (w' : World) : Prop :=
  ∃ b, e = .returned (.tuple #[fV b, .bool (belowOk x0 x1 t)]) ∧ absF .f32 b = belowV x0 x1 t ∧ Below w.heap.size w w'
theorem belowV_no {x0 x1 : List Nat} {t : Nat} (h : belowOk x0 x1 t = false) : belowV x0 x1 t = some 0 := by unfold belowV; rw [h]; rfl
theorem belowV_yes {x0 x1 : List Nat} {t : Nat} (h : belowOk x0 x1 t = true) : belowV x0 x1 t = belowTo x0 x1 t x0.length := by unfold belowV; rw [h]; rfl

end Go.Proofs.Ythdnelfggmlalaa
