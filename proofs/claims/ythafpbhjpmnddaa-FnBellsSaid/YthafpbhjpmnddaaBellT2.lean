/-
  Ways back, reckoned: part 1.
-/
import Derived.Test.YthafpbhjpmnddaaBellT0
namespace Go.Proofs.Ythafpbhjpmnddaa
open Go.RowKit
theorem tT_ok0 : bisV 1023410176 40 3233808384 1086324736 = some 3220073983 := by decide +kernel
theorem tT_ok1 : bisV 1031798784 40 3233808384 1086324736 = some 3217317392 := by decide +kernel
theorem tT_ok2 : bisV 1035993088 40 3233808384 1086324736 = some 3215504535 := by decide +kernel
theorem tT_ok3 : bisV 1040187392 40 3233808384 1086324736 = some 3214098086 := by decide +kernel
theorem tT_ok4 : bisV 1042284544 40 3233808384 1086324736 = some 3212920668 := by decide +kernel
theorem tT_ok5 : bisV 1044381696 40 3233808384 1086324736 = some 3210943499 := by decide +kernel
theorem tT_ok6 : bisV 1046478848 40 3233808384 1086324736 = some 3209085845 := by decide +kernel
theorem tT_ok7 : bisV 1048576000 40 3233808384 1086324736 = some 3207375709 := by decide +kernel
end Go.Proofs.Ythafpbhjpmnddaa
