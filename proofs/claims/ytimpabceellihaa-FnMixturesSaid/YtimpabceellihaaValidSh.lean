/-
  spec.ValidShare, impl.ValidShare.
-/
import Derived.Test.YtimpabceellihaaShareIs2
namespace Go.Proofs.Ytimpabceellihaa
open Go.RowKit

end Go.Proofs.Ytimpabceellihaa
