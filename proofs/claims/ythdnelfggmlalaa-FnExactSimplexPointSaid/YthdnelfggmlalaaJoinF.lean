/-
  The walks of slices.Grow and slices.Concat at []float32.
-/
import Derived.Test.YthdnelfggmlalaaF32s
import Derived.Test.YthdnelfggmlalaaApp
namespace Go.Proofs.Ythdnelfggmlalaa
open Go.RowKit

theorem flat_snoc {α : Type} {XS : List (List α)} {k : Nat} {xs : List α} (h : XS[k]? = some xs) : (XS.take (k + 1)).flatten = (XS.take k).flatten ++ xs := by
  rw [take_snoc h]; simp
theorem flat_le {α : Type} (XS : List (List α)) (k : Nat) : (XS.take k).flatten.length ≤ XS.flatten.length := by
  have : XS.flatten = (XS.take k).flatten ++ (XS.drop k).flatten := by rw [← List.flatten_append, List.take_append_drop]
  rw [this, List.length_append]; omega

/-- How long the first k lists are together (a name that the walk does not open). -/
def flen {α : Type} (XS : List (List α)) (k : Nat) : Nat := (XS.take k).flatten.length
theorem flen_snoc {α : Type} {XS : List (List α)} {k : Nat} {xs : List α} (h : XS[k]? = some xs) : flen XS (k + 1) = flen XS k + xs.length := by unfold flen; rw [flat_snoc h, List.length_append]
theorem flen_le {α : Type} {XS : List (List α)} (k : Nat) {m : Nat} (h : XS.flatten.length ≤ m) : flen XS k ≤ m := Nat.le_trans (flat_le XS k) h

end Go.Proofs.Ythdnelfggmlalaa
