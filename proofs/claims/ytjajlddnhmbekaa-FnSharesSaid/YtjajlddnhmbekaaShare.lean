/-
  Shares by value: laws.szShare, toShare, eqShare, markShare, heldShare.
-/
import Derived.Test.YtjajlddnhmbekaaSl
import Derived.Test.YtjajlddnhmbekaaF32s
namespace Go.Proofs.Ytjajlddnhmbekaa
open Go.RowKit

/-- A Share as a value. -/
abbrev shV (s0 s1 : Value) : Value := .agg #[s0, s1]

end Go.Proofs.Ytjajlddnhmbekaa
