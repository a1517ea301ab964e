/-
  Ways back, reckoned: part 4.
-/
import Derived.Test.YthafpbhjpmnddaaBellT0
namespace Go.Proofs.Ythafpbhjpmnddaa
open Go.RowKit
theorem tT_ok23 : bisV 1061158912 40 3233808384 1086324736 = some 1059892058 := by decide +kernel
theorem tT_ok24 : bisV 1061683200 40 3233808384 1086324736 = some 1061602194 := by decide +kernel
theorem tT_ok25 : bisV 1062207488 40 3233808384 1086324736 = some 1063459847 := by decide +kernel
theorem tT_ok26 : bisV 1062731776 40 3233808384 1086324736 = some 1065437018 := by decide +kernel
theorem tT_ok27 : bisV 1063256064 40 3233808384 1086324736 = some 1066614436 := by decide +kernel
theorem tT_ok28 : bisV 1063780352 40 3233808384 1086324736 = some 1068020883 := by decide +kernel
theorem tT_ok29 : bisV 1064304640 40 3233808384 1086324736 = some 1069833740 := by decide +kernel
theorem tT_ok30 : bisV 1064828928 40 3233808384 1086324736 = some 1072590333 := by decide +kernel
end Go.Proofs.Ythafpbhjpmnddaa
