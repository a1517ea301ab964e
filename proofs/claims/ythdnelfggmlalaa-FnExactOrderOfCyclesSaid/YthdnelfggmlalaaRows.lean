/-
  No cell of these rows narrows 'for every input' (looked for: loops, veiled, ifaces, maps, wideKeys, modest, calm, conditions, laid).
  DERIVED. THE GIVEN ROWS OF THIS SEAT. 8 by the template 'for every input the law returns true; each argument reads behind the call as it read before'; 0 by the template 'total and deterministic' (their statements: YthdnelfggmlalaaTotals.lean).
  GIVEN WITH THE SEED: the statements are not yours to turn. If you find one false, say at which input.
  Laid BY PROGRAM, IN A SANDBOX (cutbox-rows.mjs): the forced cells as the released guide's own fill.sh prints them over the translation 8f4666996c4b14f0… (all of the seat's roots in one cut). By AI agents, Wed Nov 11 2026. No macro, syntax, notation, axiom, sorry.
-/
import Derived.Test.YthdnelfggmlalaaChecked
import GoSem.Claim
import GoSem.ClaimJoined
import GoSem.ClaimMapViews
import Derived.JoinedTies
import Derived.KernelRfl
namespace Go.Proofs.Ythdnelfggmlalaa
/- THE CELL 'sum', in the pinned program and in every row, IS THE sha256 OF THE DUMP (.gsa) THAT YthdnelfggmlalaaProg.lean LOADS. Nothing in Lean hashes anything: it is a label: what it is worth is what the hold of that sum in a sandbox is worth. -/
noncomputable def Try.pinned : Pinned := { name := "ythdnelfggmlalaa", sum := "8f4666996c4b14f08b5589d5e427d7d397a2df4663fb1e7dbd48cef02398ff86", checked := Try.checked }
namespace Rows
def none {H : Type} : Left H := { results := [], args := [] }

/-- 'laws.FnExactSimplexPoint': WHATEVER THE INPUT: true; the input reads as it did. -/
def fnExactSimplexPointSpec : ChangeSpec := { name := "fnExactSimplexPoint", fn := fun _ => fun
  | [d1, d2] => { results := [.lit (.bool true)], args := [d1, d2] }
  | _ => none }
def fnExactSimplexPointRow : OpenClaim := { program := "ythdnelfggmlalaa", sum := "8f4666996c4b14f08b5589d5e427d7d397a2df4663fb1e7dbd48cef02398ff86", func := "loop.example/g01339/laws.FnExactSimplexPoint", spec := "fnExactSimplexPoint", recurses := true, apart := false }
def FnExactSimplexPointSaid : Prop := fnExactSimplexPointRow.holds Try.pinned (OpenSpec.ofChange fnExactSimplexPointSpec)

/-- ITS FALSE NEIGHBOUR: 'it returns false'. Refute it at one input. -/
def fnExactSimplexPointWrong : ChangeSpec := { name := "fnExactSimplexPoint", fn := fun _ => fun
  | [d1, d2] => { results := [.lit (.bool false)], args := [d1, d2] }
  | _ => none }
def FnExactSimplexPointWrongFalsely : Prop := fnExactSimplexPointRow.holds Try.pinned (OpenSpec.ofChange fnExactSimplexPointWrong)

/-- 'laws.FnExactOrderOfCycles': WHATEVER THE INPUT: true; the input reads as it did. -/
def fnExactOrderOfCyclesSpec : ChangeSpec := { name := "fnExactOrderOfCycles", fn := fun _ => fun
  | [d1, d2] => { results := [.lit (.bool true)], args := [d1, d2] }
  | _ => none }
def fnExactOrderOfCyclesRow : OpenClaim := { program := "ythdnelfggmlalaa", sum := "8f4666996c4b14f08b5589d5e427d7d397a2df4663fb1e7dbd48cef02398ff86", func := "loop.example/g01339/laws.FnExactOrderOfCycles", spec := "fnExactOrderOfCycles", unfollowed := true, recurses := true, apart := false }
def FnExactOrderOfCyclesSaid : Prop := fnExactOrderOfCyclesRow.holds Try.pinned (OpenSpec.ofChange fnExactOrderOfCyclesSpec)

/-- ITS FALSE NEIGHBOUR: 'it returns false'. Refute it at one input. -/
def fnExactOrderOfCyclesWrong : ChangeSpec := { name := "fnExactOrderOfCycles", fn := fun _ => fun
  | [d1, d2] => { results := [.lit (.bool false)], args := [d1, d2] }
  | _ => none }
def FnExactOrderOfCyclesWrongFalsely : Prop := fnExactOrderOfCyclesRow.holds Try.pinned (OpenSpec.ofChange fnExactOrderOfCyclesWrong)

/-- 'laws.FnExactTreeOfCode': WHATEVER THE INPUT: true; the input reads as it did. -/
def fnExactTreeOfCodeSpec : ChangeSpec := { name := "fnExactTreeOfCode", fn := fun _ => fun
  | [d] => { results := [.lit (.bool true)], args := [d] }
  | _ => none }
def fnExactTreeOfCodeRow : OpenClaim := { program := "ythdnelfggmlalaa", sum := "8f4666996c4b14f08b5589d5e427d7d397a2df4663fb1e7dbd48cef02398ff86", func := "loop.example/g01339/laws.FnExactTreeOfCode", spec := "fnExactTreeOfCode", unfollowed := true, recurses := true, apart := false }
def FnExactTreeOfCodeSaid : Prop := fnExactTreeOfCodeRow.holds Try.pinned (OpenSpec.ofChange fnExactTreeOfCodeSpec)

/-- ITS FALSE NEIGHBOUR: 'it returns false'. Refute it at one input. -/
def fnExactTreeOfCodeWrong : ChangeSpec := { name := "fnExactTreeOfCode", fn := fun _ => fun
  | [d] => { results := [.lit (.bool false)], args := [d] }
  | _ => none }
def FnExactTreeOfCodeWrongFalsely : Prop := fnExactTreeOfCodeRow.holds Try.pinned (OpenSpec.ofChange fnExactTreeOfCodeWrong)

/-- 'laws.FnExactSwitchEdges': WHATEVER THE INPUT: true; the input reads as it did. -/
def fnExactSwitchEdgesSpec : ChangeSpec := { name := "fnExactSwitchEdges", fn := fun _ => fun
  | [d1, d2, d3, d4] => { results := [.lit (.bool true)], args := [d1, d2, d3, d4] }
  | _ => none }
def fnExactSwitchEdgesRow : OpenClaim := { program := "ythdnelfggmlalaa", sum := "8f4666996c4b14f08b5589d5e427d7d397a2df4663fb1e7dbd48cef02398ff86", func := "loop.example/g01339/laws.FnExactSwitchEdges", spec := "fnExactSwitchEdges", unfollowed := true, recurses := true, apart := false }
def FnExactSwitchEdgesSaid : Prop := fnExactSwitchEdgesRow.holds Try.pinned (OpenSpec.ofChange fnExactSwitchEdgesSpec)

/-- ITS FALSE NEIGHBOUR: 'it returns false'. Refute it at one input. -/
def fnExactSwitchEdgesWrong : ChangeSpec := { name := "fnExactSwitchEdges", fn := fun _ => fun
  | [d1, d2, d3, d4] => { results := [.lit (.bool false)], args := [d1, d2, d3, d4] }
  | _ => none }
def FnExactSwitchEdgesWrongFalsely : Prop := fnExactSwitchEdgesRow.holds Try.pinned (OpenSpec.ofChange fnExactSwitchEdgesWrong)

/-- 'laws.FnExactDrawnTree': WHATEVER THE INPUT: true; the input reads as it did. -/
def fnExactDrawnTreeSpec : ChangeSpec := { name := "fnExactDrawnTree", fn := fun _ => fun
  | [d1, d2] => { results := [.lit (.bool true)], args := [d1, d2] }
  | _ => none }
def fnExactDrawnTreeRow : OpenClaim := { program := "ythdnelfggmlalaa", sum := "8f4666996c4b14f08b5589d5e427d7d397a2df4663fb1e7dbd48cef02398ff86", func := "loop.example/g01339/laws.FnExactDrawnTree", spec := "fnExactDrawnTree", unfollowed := true, recurses := true, apart := false }
def FnExactDrawnTreeSaid : Prop := fnExactDrawnTreeRow.holds Try.pinned (OpenSpec.ofChange fnExactDrawnTreeSpec)

/-- ITS FALSE NEIGHBOUR: 'it returns false'. Refute it at one input. -/
def fnExactDrawnTreeWrong : ChangeSpec := { name := "fnExactDrawnTree", fn := fun _ => fun
  | [d1, d2] => { results := [.lit (.bool false)], args := [d1, d2] }
  | _ => none }
def FnExactDrawnTreeWrongFalsely : Prop := fnExactDrawnTreeRow.holds Try.pinned (OpenSpec.ofChange fnExactDrawnTreeWrong)

/-- 'laws.FnExactCanBeDegrees': WHATEVER THE INPUT: true; the input reads as it did. -/
def fnExactCanBeDegreesSpec : ChangeSpec := { name := "fnExactCanBeDegrees", fn := fun _ => fun
  | [d] => { results := [.lit (.bool true)], args := [d] }
  | _ => none }
def fnExactCanBeDegreesRow : OpenClaim := { program := "ythdnelfggmlalaa", sum := "8f4666996c4b14f08b5589d5e427d7d397a2df4663fb1e7dbd48cef02398ff86", func := "loop.example/g01339/laws.FnExactCanBeDegrees", spec := "fnExactCanBeDegrees", unfollowed := true, recurses := true, apart := false }
def FnExactCanBeDegreesSaid : Prop := fnExactCanBeDegreesRow.holds Try.pinned (OpenSpec.ofChange fnExactCanBeDegreesSpec)

/-- ITS FALSE NEIGHBOUR: 'it returns false'. Refute it at one input. -/
def fnExactCanBeDegreesWrong : ChangeSpec := { name := "fnExactCanBeDegrees", fn := fun _ => fun
  | [d] => { results := [.lit (.bool false)], args := [d] }
  | _ => none }
def FnExactCanBeDegreesWrongFalsely : Prop := fnExactCanBeDegreesRow.holds Try.pinned (OpenSpec.ofChange fnExactCanBeDegreesWrong)

/-- 'laws.FnExactGraphOfDegrees': WHATEVER THE INPUT: true; the input reads as it did. -/
def fnExactGraphOfDegreesSpec : ChangeSpec := { name := "fnExactGraphOfDegrees", fn := fun _ => fun
  | [d] => { results := [.lit (.bool true)], args := [d] }
  | _ => none }
def fnExactGraphOfDegreesRow : OpenClaim := { program := "ythdnelfggmlalaa", sum := "8f4666996c4b14f08b5589d5e427d7d397a2df4663fb1e7dbd48cef02398ff86", func := "loop.example/g01339/laws.FnExactGraphOfDegrees", spec := "fnExactGraphOfDegrees", unfollowed := true, recurses := true, apart := false }
def FnExactGraphOfDegreesSaid : Prop := fnExactGraphOfDegreesRow.holds Try.pinned (OpenSpec.ofChange fnExactGraphOfDegreesSpec)

/-- ITS FALSE NEIGHBOUR: 'it returns false'. Refute it at one input. -/
def fnExactGraphOfDegreesWrong : ChangeSpec := { name := "fnExactGraphOfDegrees", fn := fun _ => fun
  | [d] => { results := [.lit (.bool false)], args := [d] }
  | _ => none }
def FnExactGraphOfDegreesWrongFalsely : Prop := fnExactGraphOfDegreesRow.holds Try.pinned (OpenSpec.ofChange fnExactGraphOfDegreesWrong)

/-- 'laws.FnExactDrawnGraph': WHATEVER THE INPUT: true; the input reads as it did. -/
def fnExactDrawnGraphSpec : ChangeSpec := { name := "fnExactDrawnGraph", fn := fun _ => fun
  | [d1, d2] => { results := [.lit (.bool true)], args := [d1, d2] }
  | _ => none }
def fnExactDrawnGraphRow : OpenClaim := { program := "ythdnelfggmlalaa", sum := "8f4666996c4b14f08b5589d5e427d7d397a2df4663fb1e7dbd48cef02398ff86", func := "loop.example/g01339/laws.FnExactDrawnGraph", spec := "fnExactDrawnGraph", unfollowed := true, recurses := true, apart := false }
def FnExactDrawnGraphSaid : Prop := fnExactDrawnGraphRow.holds Try.pinned (OpenSpec.ofChange fnExactDrawnGraphSpec)

/-- ITS FALSE NEIGHBOUR: 'it returns false'. Refute it at one input. -/
def fnExactDrawnGraphWrong : ChangeSpec := { name := "fnExactDrawnGraph", fn := fun _ => fun
  | [d1, d2] => { results := [.lit (.bool false)], args := [d1, d2] }
  | _ => none }
def FnExactDrawnGraphWrongFalsely : Prop := fnExactDrawnGraphRow.holds Try.pinned (OpenSpec.ofChange fnExactDrawnGraphWrong)

/- THE SECOND FORM. 'bulk': how many values and letters a reading holds, each counted each time it is reached (what is shared counts as often as it is met; a slice's spare places count too). A statement '..UptoSaid' is the law's where the arguments, and the package variables that the reading takes, are together of bulk at most 1048576: NARROWER than '..Said'. Prove '..Said' where nothing that the law and all that it calls make is longer than what came in: it says more and counts as full. Else prove '..UptoSaid'. A law counts once. -/
mutual
def uptoBulk {H : Type} : DataW H → Nat
  | .lit (.string bytes) => bytes.length + 1
  | .lit _ => 1
  | .nil => 1
  | .ptr d => uptoBulk d + 1
  | .slice elems spare => uptoBulkAll elems + uptoBulkAll spare + 1
  | .agg parts => uptoBulkAll parts + 1
  | .iface _ d => uptoBulk d + 1
  | .map entries => uptoBulkEntries entries + 1
  | .held _ => 1
def uptoBulkAll {H : Type} : List (DataW H) → Nat
  | [] => 0
  | d :: r => uptoBulk d + uptoBulkAll r
def uptoBulkEntries {H : Type} : List (Lit × DataW H) → Nat
  | [] => 0
  | x :: r => uptoBulkEntry x + uptoBulkEntries r
def uptoBulkEntry {H : Type} : Lit × DataW H → Nat
  | (.string bytes, d) => bytes.length + uptoBulk d + 1
  | (_, d) => uptoBulk d + 1
 end
def uptoSmall : (H : Type) → List (DataW H) → Bool := fun _ ds => decide (uptoBulkAll ds ≤ 1048576)
def OpenSpec.upto (s : _root_.Go.ChangeSpec) : _root_.Go.OpenSpec := { _root_.Go.OpenSpec.ofChange s with cond := some uptoSmall }

/-- 'laws.FnExactSimplexPoint', WHERE WHAT IT READS IS OF BULK AT MOST 1048576: true; the input reads as it did. -/
def fnExactSimplexPointUptoRow : OpenClaim := { program := "ythdnelfggmlalaa", sum := "8f4666996c4b14f08b5589d5e427d7d397a2df4663fb1e7dbd48cef02398ff86", func := "loop.example/g01339/laws.FnExactSimplexPoint", spec := "fnExactSimplexPoint", recurses := true, apart := false, narrowed := true }
def FnExactSimplexPointUptoSaid : Prop := fnExactSimplexPointUptoRow.holds Try.pinned (OpenSpec.upto fnExactSimplexPointSpec)

/-- 'laws.FnExactOrderOfCycles', WHERE WHAT IT READS IS OF BULK AT MOST 1048576: true; the input reads as it did. -/
def fnExactOrderOfCyclesUptoRow : OpenClaim := { program := "ythdnelfggmlalaa", sum := "8f4666996c4b14f08b5589d5e427d7d397a2df4663fb1e7dbd48cef02398ff86", func := "loop.example/g01339/laws.FnExactOrderOfCycles", spec := "fnExactOrderOfCycles", unfollowed := true, recurses := true, apart := false, narrowed := true }
def FnExactOrderOfCyclesUptoSaid : Prop := fnExactOrderOfCyclesUptoRow.holds Try.pinned (OpenSpec.upto fnExactOrderOfCyclesSpec)

/-- 'laws.FnExactTreeOfCode', WHERE WHAT IT READS IS OF BULK AT MOST 1048576: true; the input reads as it did. -/
def fnExactTreeOfCodeUptoRow : OpenClaim := { program := "ythdnelfggmlalaa", sum := "8f4666996c4b14f08b5589d5e427d7d397a2df4663fb1e7dbd48cef02398ff86", func := "loop.example/g01339/laws.FnExactTreeOfCode", spec := "fnExactTreeOfCode", unfollowed := true, recurses := true, apart := false, narrowed := true }
def FnExactTreeOfCodeUptoSaid : Prop := fnExactTreeOfCodeUptoRow.holds Try.pinned (OpenSpec.upto fnExactTreeOfCodeSpec)

/-- 'laws.FnExactSwitchEdges', WHERE WHAT IT READS IS OF BULK AT MOST 1048576: true; the input reads as it did. -/
def fnExactSwitchEdgesUptoRow : OpenClaim := { program := "ythdnelfggmlalaa", sum := "8f4666996c4b14f08b5589d5e427d7d397a2df4663fb1e7dbd48cef02398ff86", func := "loop.example/g01339/laws.FnExactSwitchEdges", spec := "fnExactSwitchEdges", unfollowed := true, recurses := true, apart := false, narrowed := true }
def FnExactSwitchEdgesUptoSaid : Prop := fnExactSwitchEdgesUptoRow.holds Try.pinned (OpenSpec.upto fnExactSwitchEdgesSpec)

/-- 'laws.FnExactDrawnTree', WHERE WHAT IT READS IS OF BULK AT MOST 1048576: true; the input reads as it did. -/
def fnExactDrawnTreeUptoRow : OpenClaim := { program := "ythdnelfggmlalaa", sum := "8f4666996c4b14f08b5589d5e427d7d397a2df4663fb1e7dbd48cef02398ff86", func := "loop.example/g01339/laws.FnExactDrawnTree", spec := "fnExactDrawnTree", unfollowed := true, recurses := true, apart := false, narrowed := true }
def FnExactDrawnTreeUptoSaid : Prop := fnExactDrawnTreeUptoRow.holds Try.pinned (OpenSpec.upto fnExactDrawnTreeSpec)

/-- 'laws.FnExactCanBeDegrees', WHERE WHAT IT READS IS OF BULK AT MOST 1048576: true; the input reads as it did. -/
def fnExactCanBeDegreesUptoRow : OpenClaim := { program := "ythdnelfggmlalaa", sum := "8f4666996c4b14f08b5589d5e427d7d397a2df4663fb1e7dbd48cef02398ff86", func := "loop.example/g01339/laws.FnExactCanBeDegrees", spec := "fnExactCanBeDegrees", unfollowed := true, recurses := true, apart := false, narrowed := true }
def FnExactCanBeDegreesUptoSaid : Prop := fnExactCanBeDegreesUptoRow.holds Try.pinned (OpenSpec.upto fnExactCanBeDegreesSpec)

/-- 'laws.FnExactGraphOfDegrees', WHERE WHAT IT READS IS OF BULK AT MOST 1048576: true; the input reads as it did. -/
def fnExactGraphOfDegreesUptoRow : OpenClaim := { program := "ythdnelfggmlalaa", sum := "8f4666996c4b14f08b5589d5e427d7d397a2df4663fb1e7dbd48cef02398ff86", func := "loop.example/g01339/laws.FnExactGraphOfDegrees", spec := "fnExactGraphOfDegrees", unfollowed := true, recurses := true, apart := false, narrowed := true }
def FnExactGraphOfDegreesUptoSaid : Prop := fnExactGraphOfDegreesUptoRow.holds Try.pinned (OpenSpec.upto fnExactGraphOfDegreesSpec)

/-- 'laws.FnExactDrawnGraph', WHERE WHAT IT READS IS OF BULK AT MOST 1048576: true; the input reads as it did. -/
def fnExactDrawnGraphUptoRow : OpenClaim := { program := "ythdnelfggmlalaa", sum := "8f4666996c4b14f08b5589d5e427d7d397a2df4663fb1e7dbd48cef02398ff86", func := "loop.example/g01339/laws.FnExactDrawnGraph", spec := "fnExactDrawnGraph", unfollowed := true, recurses := true, apart := false, narrowed := true }
def FnExactDrawnGraphUptoSaid : Prop := fnExactDrawnGraphUptoRow.holds Try.pinned (OpenSpec.upto fnExactDrawnGraphSpec)

end Rows
end Go.Proofs.Ythdnelfggmlalaa
