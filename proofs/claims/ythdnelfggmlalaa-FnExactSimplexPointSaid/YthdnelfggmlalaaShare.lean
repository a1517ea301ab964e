/-
  Shares by value: laws.szShare, toShare, eqShare, markShare, heldShare.
-/
import Derived.Test.YthdnelfggmlalaaBox
import Derived.Test.YthdnelfggmlalaaF32s
namespace Go.Proofs.Ythdnelfggmlalaa
open Go.RowKit

/-- A Share as a value. -/
abbrev shV (s0 s1 : Value) : Value := .agg #[s0, s1]

end Go.Proofs.Ythdnelfggmlalaa
