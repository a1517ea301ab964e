/-
  The walks of slices.IndexFunc and slices.ContainsFunc at []int64 (beside those at []float32).
-/
import Derived.Test.YtjajlddnhmbekaaInts
import Derived.Test.YtjajlddnhmbekaaSl
namespace Go.Proofs.Ytjajlddnhmbekaa
open Go.RowKit

end Go.Proofs.Ytjajlddnhmbekaa
