/-
  The walks of small functions over lists of float32: tests of all, sums, absolute values.
-/
import Derived.Test.YthdnelfggmlalaaFp
namespace Go.Proofs.Ythdnelfggmlalaa
open Go.RowKit
attribute [local go_sem] run_fl_add run_fl_sub run_fl_mul run_fl_quo

theorem not_any {α : Type} (p : α → Bool) (xs : List α) : (!(xs.any fun x => !p x)) = xs.all p := by simp [List.all_eq_not_any_not]
theorem all_false_of {α : Type} {p : α → Bool} {xs : List α} {k : Nat} {x : α} (hx : xs[k]? = some x) (hp : p x = false) : xs.all p = false := by
  rw [List.all_eq_false]
  exact ⟨x, List.mem_of_getElem? hx, by simp [hp]⟩
/-- The sum from left to right. -/
def sumF (l : List (Option Nat)) : Option Nat := l.foldl (opF .add .f32) (some 0)
theorem sumF_snoc (l : List (Option Nat)) (x : Option Nat) : sumF (l ++ [x]) = opF .add .f32 (sumF l) x := by simp [sumF]
theorem absL_snoc {xs : List Nat} {k : Nat} {x : Nat} (h : xs[k]? = some x) : absL (xs.take (k + 1)) = absL (xs.take k) ++ [absF .f32 x] := by simp [absL, take_snoc h]

end Go.Proofs.Ythdnelfggmlalaa
