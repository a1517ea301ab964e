/-
  spec.ValidShare, impl.ValidShare.
-/
import Derived.Test.YthdnelfggmlalaaShareIs
namespace Go.Proofs.Ythdnelfggmlalaa
open Go.RowKit

end Go.Proofs.Ythdnelfggmlalaa
