/-
  Ways back, reckoned: part 2.
-/
import Derived.Test.YthafpbhjpmnddaaBellT0
namespace Go.Proofs.Ythafpbhjpmnddaa
open Go.RowKit
theorem tT_ok8 : bisV 1049624576 40 3233808384 1086324736 = some 3205775875 := by decide +kernel
theorem tT_ok9 : bisV 1050673152 40 3233808384 1086324736 = some 3204071657 := by decide +kernel
theorem tT_ok10 : bisV 1051721728 40 3233808384 1086324736 = some 3201168314 := by decide +kernel
theorem tT_ok11 : bisV 1052770304 40 3233808384 1086324736 = some 3198362805 := by decide +kernel
theorem tT_ok12 : bisV 1053818880 40 3233808384 1086324736 = some 3195200800 := by decide +kernel
theorem tT_ok13 : bisV 1054867456 40 3233808384 1086324736 = some 3189839376 := by decide +kernel
theorem tT_ok14 : bisV 1055916032 40 3233808384 1086324736 = some 3181418165 := by decide +kernel
end Go.Proofs.Ythafpbhjpmnddaa
