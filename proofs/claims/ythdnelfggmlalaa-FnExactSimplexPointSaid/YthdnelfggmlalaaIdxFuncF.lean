/-
  The walks of slices.IndexFunc and slices.ContainsFunc at []float32, for whatever function that answers by a predicate and leaves the world alone but for draws.
-/
import Derived.Test.YthdnelfggmlalaaF32s
import Derived.Test.YthdnelfggmlalaaIdxP
namespace Go.Proofs.Ythdnelfggmlalaa
open Go.RowKit

end Go.Proofs.Ythdnelfggmlalaa
