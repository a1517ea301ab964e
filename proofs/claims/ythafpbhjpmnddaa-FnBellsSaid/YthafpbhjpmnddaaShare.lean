/-
  Shares by value: laws.szShare, toShare, eqShare, markShare, heldShare.
-/
import Derived.Test.YthafpbhjpmnddaaBox
import Derived.Test.YthafpbhjpmnddaaF32s
namespace Go.Proofs.Ythafpbhjpmnddaa
open Go.RowKit

/-- A Share as a value. -/
abbrev shV (s0 s1 : Value) : Value := .agg #[s0, s1]

end Go.Proofs.Ythafpbhjpmnddaa
