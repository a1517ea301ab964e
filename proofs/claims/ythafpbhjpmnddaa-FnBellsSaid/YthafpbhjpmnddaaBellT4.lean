/-
  Ways back, reckoned: part 3.
-/
import Derived.Test.YthafpbhjpmnddaaBellT0
namespace Go.Proofs.Ythafpbhjpmnddaa
open Go.RowKit
theorem tT_ok15 : bisV 1056964608 40 3233808384 1086324736 = some 3005248512 := by decide +kernel
theorem tT_ok16 : bisV 1057488896 40 3233808384 1086324736 = some 1033934501 := by decide +kernel
theorem tT_ok17 : bisV 1058013184 40 3233808384 1086324736 = some 1042355720 := by decide +kernel
theorem tT_ok18 : bisV 1058537472 40 3233808384 1086324736 = some 1047717142 := by decide +kernel
theorem tT_ok19 : bisV 1059061760 40 3233808384 1086324736 = some 1050879152 := by decide +kernel
theorem tT_ok20 : bisV 1059586048 40 3233808384 1086324736 = some 1053684661 := by decide +kernel
theorem tT_ok21 : bisV 1060110336 40 3233808384 1086324736 = some 1056588003 := by decide +kernel
theorem tT_ok22 : bisV 1060634624 40 3233808384 1086324736 = some 1058292223 := by decide +kernel
end Go.Proofs.Ythafpbhjpmnddaa
