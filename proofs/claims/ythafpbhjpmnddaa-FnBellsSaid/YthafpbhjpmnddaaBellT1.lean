/-
  Bells, reckoned.
-/
import Derived.Test.YthafpbhjpmnddaaBellT0
namespace Go.Proofs.Ythafpbhjpmnddaa
open Go.RowKit
set_option maxRecDepth 100000 in
theorem aT_ok : ((xT.zip aT).all fun p => bellV p.1 == some p.2) = true := by decide +kernel
set_option maxRecDepth 100000 in
theorem cT_ok : ((nT.zip cT).all fun p => bellV p.1 == some p.2) = true := by decide +kernel
set_option maxRecDepth 100000 in
theorem kkT_ok : ((tT.zip kkT).all fun p => bellV p.1 == some p.2) = true := by decide +kernel
end Go.Proofs.Ythafpbhjpmnddaa
