/-
  No cell of these rows narrows 'for every input' (looked for: loops, veiled, ifaces, maps, wideKeys, modest, calm, conditions, laid).
  DERIVED. THE GIVEN ROWS OF THIS SEAT. 11 by the template 'for every input the law returns true; each argument reads behind the call as it read before'; 0 by the template 'total and deterministic' (their statements: YtchcgapgpflknaaTotals.lean).
  GIVEN WITH THE SEED: the statements are not yours to turn. If you find one false, say at which input.
  Laid BY PROGRAM, IN A SANDBOX (cutbox-rows.mjs): the forced cells as the released guide's own fill.sh prints them over the translation b4a12e208154aab3… (all of the seat's roots in one cut). By AI agents, Wed Nov 11 2026. No macro, syntax, notation, axiom, sorry.
-/
import Derived.Test.YtchcgapgpflknaaChecked
import GoSem.Claim
import GoSem.ClaimJoined
import GoSem.ClaimMapViews
import Derived.JoinedTies
import Derived.KernelRfl
namespace Go.Proofs.Ytchcgapgpflknaa
/- THE CELL 'sum', in the pinned program and in every row, IS THE sha256 OF THE DUMP (.gsa) THAT YtchcgapgpflknaaProg.lean LOADS. Nothing in Lean hashes anything: it is a label: what it is worth is what the hold of that sum in a sandbox is worth. -/
noncomputable def Try.pinned : Pinned := { name := "ytchcgapgpflknaa", sum := "b4a12e208154aab3dd75966ee4033218d7d2c3e8857900f83a286ef3de725d04", checked := Try.checked }
namespace Rows
def none {H : Type} : Left H := { results := [], args := [] }

/-- 'laws.FnExactBandOf': WHATEVER THE INPUT: true; the input reads as it did. -/
def fnExactBandOfSpec : ChangeSpec := { name := "fnExactBandOf", fn := fun _ => fun
  | [d1, d2] => { results := [.lit (.bool true)], args := [d1, d2] }
  | _ => none }
def fnExactBandOfRow : OpenClaim := { program := "ytchcgapgpflknaa", sum := "b4a12e208154aab3dd75966ee4033218d7d2c3e8857900f83a286ef3de725d04", func := "loop.example/g01339/laws.FnExactBandOf", spec := "fnExactBandOf", inPlace := ["math.archFloor", "math.Float64bits", "math.Float64frombits", "math.archTrunc"], unfollowed := true, recurses := true, apart := false }
def FnExactBandOfSaid : Prop := fnExactBandOfRow.holds Try.pinned (OpenSpec.ofChange fnExactBandOfSpec)

/-- ITS FALSE NEIGHBOUR: 'it returns false'. Refute it at one input. -/
def fnExactBandOfWrong : ChangeSpec := { name := "fnExactBandOf", fn := fun _ => fun
  | [d1, d2] => { results := [.lit (.bool false)], args := [d1, d2] }
  | _ => none }
def FnExactBandOfWrongFalsely : Prop := fnExactBandOfRow.holds Try.pinned (OpenSpec.ofChange fnExactBandOfWrong)

/-- 'laws.FnExactBellBelow': WHATEVER THE INPUT: true; the input reads as it did. -/
def fnExactBellBelowSpec : ChangeSpec := { name := "fnExactBellBelow", fn := fun _ => fun
  | [d] => { results := [.lit (.bool true)], args := [d] }
  | _ => none }
def fnExactBellBelowRow : OpenClaim := { program := "ytchcgapgpflknaa", sum := "b4a12e208154aab3dd75966ee4033218d7d2c3e8857900f83a286ef3de725d04", func := "loop.example/g01339/laws.FnExactBellBelow", spec := "fnExactBellBelow", inPlace := ["math.Float64frombits"], apart := false }
def FnExactBellBelowSaid : Prop := fnExactBellBelowRow.holds Try.pinned (OpenSpec.ofChange fnExactBellBelowSpec)

/-- ITS FALSE NEIGHBOUR: 'it returns false'. Refute it at one input. -/
def fnExactBellBelowWrong : ChangeSpec := { name := "fnExactBellBelow", fn := fun _ => fun
  | [d] => { results := [.lit (.bool false)], args := [d] }
  | _ => none }
def FnExactBellBelowWrongFalsely : Prop := fnExactBellBelowRow.holds Try.pinned (OpenSpec.ofChange fnExactBellBelowWrong)

/-- 'laws.FnExactBellAt': WHATEVER THE INPUT: true; the input reads as it did. -/
def fnExactBellAtSpec : ChangeSpec := { name := "fnExactBellAt", fn := fun _ => fun
  | [d] => { results := [.lit (.bool true)], args := [d] }
  | _ => none }
def fnExactBellAtRow : OpenClaim := { program := "ytchcgapgpflknaa", sum := "b4a12e208154aab3dd75966ee4033218d7d2c3e8857900f83a286ef3de725d04", func := "loop.example/g01339/laws.FnExactBellAt", spec := "fnExactBellAt", inPlace := ["math.Float64frombits"], apart := false }
def FnExactBellAtSaid : Prop := fnExactBellAtRow.holds Try.pinned (OpenSpec.ofChange fnExactBellAtSpec)

/-- ITS FALSE NEIGHBOUR: 'it returns false'. Refute it at one input. -/
def fnExactBellAtWrong : ChangeSpec := { name := "fnExactBellAt", fn := fun _ => fun
  | [d] => { results := [.lit (.bool false)], args := [d] }
  | _ => none }
def FnExactBellAtWrongFalsely : Prop := fnExactBellAtRow.holds Try.pinned (OpenSpec.ofChange fnExactBellAtWrong)

/-- 'laws.FnExactRatioWalk': WHATEVER THE INPUT: true; the input reads as it did. -/
def fnExactRatioWalkSpec : ChangeSpec := { name := "fnExactRatioWalk", fn := fun _ => fun
  | [d1, d2, d3] => { results := [.lit (.bool true)], args := [d1, d2, d3] }
  | _ => none }
def fnExactRatioWalkRow : OpenClaim := { program := "ytchcgapgpflknaa", sum := "b4a12e208154aab3dd75966ee4033218d7d2c3e8857900f83a286ef3de725d04", func := "loop.example/g01339/laws.FnExactRatioWalk", spec := "fnExactRatioWalk", inPlace := ["math.Float64frombits", "math.Float64bits"], unfollowed := true, recurses := true, apart := false }
def FnExactRatioWalkSaid : Prop := fnExactRatioWalkRow.holds Try.pinned (OpenSpec.ofChange fnExactRatioWalkSpec)

/-- ITS FALSE NEIGHBOUR: 'it returns false'. Refute it at one input. -/
def fnExactRatioWalkWrong : ChangeSpec := { name := "fnExactRatioWalk", fn := fun _ => fun
  | [d1, d2, d3] => { results := [.lit (.bool false)], args := [d1, d2, d3] }
  | _ => none }
def FnExactRatioWalkWrongFalsely : Prop := fnExactRatioWalkRow.holds Try.pinned (OpenSpec.ofChange fnExactRatioWalkWrong)

/-- 'laws.FnExactRatioStop': WHATEVER THE INPUT: true; the input reads as it did. -/
def fnExactRatioStopSpec : ChangeSpec := { name := "fnExactRatioStop", fn := fun _ => fun
  | [d1, d2, d3, d4, d5] => { results := [.lit (.bool true)], args := [d1, d2, d3, d4, d5] }
  | _ => none }
def fnExactRatioStopRow : OpenClaim := { program := "ytchcgapgpflknaa", sum := "b4a12e208154aab3dd75966ee4033218d7d2c3e8857900f83a286ef3de725d04", func := "loop.example/g01339/laws.FnExactRatioStop", spec := "fnExactRatioStop", inPlace := ["math.Float64frombits", "math.Float64bits"], unfollowed := true, recurses := true, apart := false }
def FnExactRatioStopSaid : Prop := fnExactRatioStopRow.holds Try.pinned (OpenSpec.ofChange fnExactRatioStopSpec)

/-- ITS FALSE NEIGHBOUR: 'it returns false'. Refute it at one input. -/
def fnExactRatioStopWrong : ChangeSpec := { name := "fnExactRatioStop", fn := fun _ => fun
  | [d1, d2, d3, d4, d5] => { results := [.lit (.bool false)], args := [d1, d2, d3, d4, d5] }
  | _ => none }
def FnExactRatioStopWrongFalsely : Prop := fnExactRatioStopRow.holds Try.pinned (OpenSpec.ofChange fnExactRatioStopWrong)

/-- 'laws.FnExactMixtureAt': WHATEVER THE INPUT: true; the input reads as it did. -/
def fnExactMixtureAtSpec : ChangeSpec := { name := "fnExactMixtureAt", fn := fun _ => fun
  | [d1, d2] => { results := [.lit (.bool true)], args := [d1, d2] }
  | _ => none }
def fnExactMixtureAtRow : OpenClaim := { program := "ytchcgapgpflknaa", sum := "b4a12e208154aab3dd75966ee4033218d7d2c3e8857900f83a286ef3de725d04", func := "loop.example/g01339/laws.FnExactMixtureAt", spec := "fnExactMixtureAt", inPlace := ["math.Float64frombits"], unfollowed := true, recurses := true, apart := false }
def FnExactMixtureAtSaid : Prop := fnExactMixtureAtRow.holds Try.pinned (OpenSpec.ofChange fnExactMixtureAtSpec)

/-- ITS FALSE NEIGHBOUR: 'it returns false'. Refute it at one input. -/
def fnExactMixtureAtWrong : ChangeSpec := { name := "fnExactMixtureAt", fn := fun _ => fun
  | [d1, d2] => { results := [.lit (.bool false)], args := [d1, d2] }
  | _ => none }
def FnExactMixtureAtWrongFalsely : Prop := fnExactMixtureAtRow.holds Try.pinned (OpenSpec.ofChange fnExactMixtureAtWrong)

/-- 'laws.FnExactEntropyOf': WHATEVER THE INPUT: true; the input reads as it did. -/
def fnExactEntropyOfSpec : ChangeSpec := { name := "fnExactEntropyOf", fn := fun _ => fun
  | [d] => { results := [.lit (.bool true)], args := [d] }
  | _ => none }
def fnExactEntropyOfRow : OpenClaim := { program := "ytchcgapgpflknaa", sum := "b4a12e208154aab3dd75966ee4033218d7d2c3e8857900f83a286ef3de725d04", func := "loop.example/g01339/laws.FnExactEntropyOf", spec := "fnExactEntropyOf", inPlace := ["math.Float64frombits", "math.Float64bits"], unfollowed := true, recurses := true, apart := false }
def FnExactEntropyOfSaid : Prop := fnExactEntropyOfRow.holds Try.pinned (OpenSpec.ofChange fnExactEntropyOfSpec)

/-- ITS FALSE NEIGHBOUR: 'it returns false'. Refute it at one input. -/
def fnExactEntropyOfWrong : ChangeSpec := { name := "fnExactEntropyOf", fn := fun _ => fun
  | [d] => { results := [.lit (.bool false)], args := [d] }
  | _ => none }
def FnExactEntropyOfWrongFalsely : Prop := fnExactEntropyOfRow.holds Try.pinned (OpenSpec.ofChange fnExactEntropyOfWrong)

/-- 'laws.FnExactLikeOf': WHATEVER THE INPUT: true; the input reads as it did. -/
def fnExactLikeOfSpec : ChangeSpec := { name := "fnExactLikeOf", fn := fun _ => fun
  | [d1, d2] => { results := [.lit (.bool true)], args := [d1, d2] }
  | _ => none }
def fnExactLikeOfRow : OpenClaim := { program := "ytchcgapgpflknaa", sum := "b4a12e208154aab3dd75966ee4033218d7d2c3e8857900f83a286ef3de725d04", func := "loop.example/g01339/laws.FnExactLikeOf", spec := "fnExactLikeOf", inPlace := ["math.Float64frombits", "math.Float64bits"], unfollowed := true, recurses := true, apart := false }
def FnExactLikeOfSaid : Prop := fnExactLikeOfRow.holds Try.pinned (OpenSpec.ofChange fnExactLikeOfSpec)

/-- ITS FALSE NEIGHBOUR: 'it returns false'. Refute it at one input. -/
def fnExactLikeOfWrong : ChangeSpec := { name := "fnExactLikeOf", fn := fun _ => fun
  | [d1, d2] => { results := [.lit (.bool false)], args := [d1, d2] }
  | _ => none }
def FnExactLikeOfWrongFalsely : Prop := fnExactLikeOfRow.holds Try.pinned (OpenSpec.ofChange fnExactLikeOfWrong)

/-- 'laws.FnExactFitMixture': WHATEVER THE INPUT: true; the input reads as it did. -/
def fnExactFitMixtureSpec : ChangeSpec := { name := "fnExactFitMixture", fn := fun _ => fun
  | [d1, d2, d3] => { results := [.lit (.bool true)], args := [d1, d2, d3] }
  | _ => none }
def fnExactFitMixtureRow : OpenClaim := { program := "ytchcgapgpflknaa", sum := "b4a12e208154aab3dd75966ee4033218d7d2c3e8857900f83a286ef3de725d04", func := "loop.example/g01339/laws.FnExactFitMixture", spec := "fnExactFitMixture", inPlace := ["math.Float64frombits", "math.sqrt"], unfollowed := true, recurses := true, apart := false }
def FnExactFitMixtureSaid : Prop := fnExactFitMixtureRow.holds Try.pinned (OpenSpec.ofChange fnExactFitMixtureSpec)

/-- ITS FALSE NEIGHBOUR: 'it returns false'. Refute it at one input. -/
def fnExactFitMixtureWrong : ChangeSpec := { name := "fnExactFitMixture", fn := fun _ => fun
  | [d1, d2, d3] => { results := [.lit (.bool false)], args := [d1, d2, d3] }
  | _ => none }
def FnExactFitMixtureWrongFalsely : Prop := fnExactFitMixtureRow.holds Try.pinned (OpenSpec.ofChange fnExactFitMixtureWrong)

/-- 'laws.FnExactGivenAbove': WHATEVER THE INPUT: true; the input reads as it did. -/
def fnExactGivenAboveSpec : ChangeSpec := { name := "fnExactGivenAbove", fn := fun _ => fun
  | [d1, d2] => { results := [.lit (.bool true)], args := [d1, d2] }
  | _ => none }
def fnExactGivenAboveRow : OpenClaim := { program := "ytchcgapgpflknaa", sum := "b4a12e208154aab3dd75966ee4033218d7d2c3e8857900f83a286ef3de725d04", func := "loop.example/g01339/laws.FnExactGivenAbove", spec := "fnExactGivenAbove", unfollowed := true, recurses := true, apart := false }
def FnExactGivenAboveSaid : Prop := fnExactGivenAboveRow.holds Try.pinned (OpenSpec.ofChange fnExactGivenAboveSpec)

/-- ITS FALSE NEIGHBOUR: 'it returns false'. Refute it at one input. -/
def fnExactGivenAboveWrong : ChangeSpec := { name := "fnExactGivenAbove", fn := fun _ => fun
  | [d1, d2] => { results := [.lit (.bool false)], args := [d1, d2] }
  | _ => none }
def FnExactGivenAboveWrongFalsely : Prop := fnExactGivenAboveRow.holds Try.pinned (OpenSpec.ofChange fnExactGivenAboveWrong)

/-- 'laws.FnExactSeedShare': WHATEVER THE INPUT: true; the input reads as it did. -/
def fnExactSeedShareSpec : ChangeSpec := { name := "fnExactSeedShare", fn := fun _ => fun
  | [d1, d2] => { results := [.lit (.bool true)], args := [d1, d2] }
  | _ => none }
def fnExactSeedShareRow : OpenClaim := { program := "ytchcgapgpflknaa", sum := "b4a12e208154aab3dd75966ee4033218d7d2c3e8857900f83a286ef3de725d04", func := "loop.example/g01339/laws.FnExactSeedShare", spec := "fnExactSeedShare", unfollowed := true, recurses := true, apart := false }
def FnExactSeedShareSaid : Prop := fnExactSeedShareRow.holds Try.pinned (OpenSpec.ofChange fnExactSeedShareSpec)

/-- ITS FALSE NEIGHBOUR: 'it returns false'. Refute it at one input. -/
def fnExactSeedShareWrong : ChangeSpec := { name := "fnExactSeedShare", fn := fun _ => fun
  | [d1, d2] => { results := [.lit (.bool false)], args := [d1, d2] }
  | _ => none }
def FnExactSeedShareWrongFalsely : Prop := fnExactSeedShareRow.holds Try.pinned (OpenSpec.ofChange fnExactSeedShareWrong)

/- THE SECOND FORM. 'bulk': how many values and letters a reading holds, each counted each time it is reached (what is shared counts as often as it is met; a slice's spare places count too). A statement '..UptoSaid' is the law's where the arguments, and the package variables that the reading takes, are together of bulk at most 1048576: NARROWER than '..Said'. Prove '..Said' where nothing that the law and all that it calls make is longer than what came in: it says more and counts as full. Else prove '..UptoSaid'. A law counts once. -/
mutual
def uptoBulk {H : Type} : DataW H → Nat
  | .lit (.string bytes) => bytes.length + 1
  | .lit _ => 1
  | .nil => 1
  | .ptr d => uptoBulk d + 1
  | .slice elems spare => uptoBulkAll elems + uptoBulkAll spare + 1
  | .agg parts => uptoBulkAll parts + 1
  | .iface _ d => uptoBulk d + 1
  | .map entries => uptoBulkEntries entries + 1
  | .held _ => 1
def uptoBulkAll {H : Type} : List (DataW H) → Nat
  | [] => 0
  | d :: r => uptoBulk d + uptoBulkAll r
def uptoBulkEntries {H : Type} : List (Lit × DataW H) → Nat
  | [] => 0
  | x :: r => uptoBulkEntry x + uptoBulkEntries r
def uptoBulkEntry {H : Type} : Lit × DataW H → Nat
  | (.string bytes, d) => bytes.length + uptoBulk d + 1
  | (_, d) => uptoBulk d + 1
 end
def uptoSmall : (H : Type) → List (DataW H) → Bool := fun _ ds => decide (uptoBulkAll ds ≤ 1048576)
def OpenSpec.upto (s : _root_.Go.ChangeSpec) : _root_.Go.OpenSpec := { _root_.Go.OpenSpec.ofChange s with cond := some uptoSmall }

/-- 'laws.FnExactBandOf', WHERE WHAT IT READS IS OF BULK AT MOST 1048576: true; the input reads as it did. -/
def fnExactBandOfUptoRow : OpenClaim := { program := "ytchcgapgpflknaa", sum := "b4a12e208154aab3dd75966ee4033218d7d2c3e8857900f83a286ef3de725d04", func := "loop.example/g01339/laws.FnExactBandOf", spec := "fnExactBandOf", inPlace := ["math.archFloor", "math.Float64bits", "math.Float64frombits", "math.archTrunc"], unfollowed := true, recurses := true, apart := false, narrowed := true }
def FnExactBandOfUptoSaid : Prop := fnExactBandOfUptoRow.holds Try.pinned (OpenSpec.upto fnExactBandOfSpec)

/-- 'laws.FnExactBellBelow', WHERE WHAT IT READS IS OF BULK AT MOST 1048576: true; the input reads as it did. -/
def fnExactBellBelowUptoRow : OpenClaim := { program := "ytchcgapgpflknaa", sum := "b4a12e208154aab3dd75966ee4033218d7d2c3e8857900f83a286ef3de725d04", func := "loop.example/g01339/laws.FnExactBellBelow", spec := "fnExactBellBelow", inPlace := ["math.Float64frombits"], apart := false, narrowed := true }
def FnExactBellBelowUptoSaid : Prop := fnExactBellBelowUptoRow.holds Try.pinned (OpenSpec.upto fnExactBellBelowSpec)

/-- 'laws.FnExactBellAt', WHERE WHAT IT READS IS OF BULK AT MOST 1048576: true; the input reads as it did. -/
def fnExactBellAtUptoRow : OpenClaim := { program := "ytchcgapgpflknaa", sum := "b4a12e208154aab3dd75966ee4033218d7d2c3e8857900f83a286ef3de725d04", func := "loop.example/g01339/laws.FnExactBellAt", spec := "fnExactBellAt", inPlace := ["math.Float64frombits"], apart := false, narrowed := true }
def FnExactBellAtUptoSaid : Prop := fnExactBellAtUptoRow.holds Try.pinned (OpenSpec.upto fnExactBellAtSpec)

/-- 'laws.FnExactRatioWalk', WHERE WHAT IT READS IS OF BULK AT MOST 1048576: true; the input reads as it did. -/
def fnExactRatioWalkUptoRow : OpenClaim := { program := "ytchcgapgpflknaa", sum := "b4a12e208154aab3dd75966ee4033218d7d2c3e8857900f83a286ef3de725d04", func := "loop.example/g01339/laws.FnExactRatioWalk", spec := "fnExactRatioWalk", inPlace := ["math.Float64frombits", "math.Float64bits"], unfollowed := true, recurses := true, apart := false, narrowed := true }
def FnExactRatioWalkUptoSaid : Prop := fnExactRatioWalkUptoRow.holds Try.pinned (OpenSpec.upto fnExactRatioWalkSpec)

/-- 'laws.FnExactRatioStop', WHERE WHAT IT READS IS OF BULK AT MOST 1048576: true; the input reads as it did. -/
def fnExactRatioStopUptoRow : OpenClaim := { program := "ytchcgapgpflknaa", sum := "b4a12e208154aab3dd75966ee4033218d7d2c3e8857900f83a286ef3de725d04", func := "loop.example/g01339/laws.FnExactRatioStop", spec := "fnExactRatioStop", inPlace := ["math.Float64frombits", "math.Float64bits"], unfollowed := true, recurses := true, apart := false, narrowed := true }
def FnExactRatioStopUptoSaid : Prop := fnExactRatioStopUptoRow.holds Try.pinned (OpenSpec.upto fnExactRatioStopSpec)

/-- 'laws.FnExactMixtureAt', WHERE WHAT IT READS IS OF BULK AT MOST 1048576: true; the input reads as it did. -/
def fnExactMixtureAtUptoRow : OpenClaim := { program := "ytchcgapgpflknaa", sum := "b4a12e208154aab3dd75966ee4033218d7d2c3e8857900f83a286ef3de725d04", func := "loop.example/g01339/laws.FnExactMixtureAt", spec := "fnExactMixtureAt", inPlace := ["math.Float64frombits"], unfollowed := true, recurses := true, apart := false, narrowed := true }
def FnExactMixtureAtUptoSaid : Prop := fnExactMixtureAtUptoRow.holds Try.pinned (OpenSpec.upto fnExactMixtureAtSpec)

/-- 'laws.FnExactEntropyOf', WHERE WHAT IT READS IS OF BULK AT MOST 1048576: true; the input reads as it did. -/
def fnExactEntropyOfUptoRow : OpenClaim := { program := "ytchcgapgpflknaa", sum := "b4a12e208154aab3dd75966ee4033218d7d2c3e8857900f83a286ef3de725d04", func := "loop.example/g01339/laws.FnExactEntropyOf", spec := "fnExactEntropyOf", inPlace := ["math.Float64frombits", "math.Float64bits"], unfollowed := true, recurses := true, apart := false, narrowed := true }
def FnExactEntropyOfUptoSaid : Prop := fnExactEntropyOfUptoRow.holds Try.pinned (OpenSpec.upto fnExactEntropyOfSpec)

/-- 'laws.FnExactLikeOf', WHERE WHAT IT READS IS OF BULK AT MOST 1048576: true; the input reads as it did. -/
def fnExactLikeOfUptoRow : OpenClaim := { program := "ytchcgapgpflknaa", sum := "b4a12e208154aab3dd75966ee4033218d7d2c3e8857900f83a286ef3de725d04", func := "loop.example/g01339/laws.FnExactLikeOf", spec := "fnExactLikeOf", inPlace := ["math.Float64frombits", "math.Float64bits"], unfollowed := true, recurses := true, apart := false, narrowed := true }
def FnExactLikeOfUptoSaid : Prop := fnExactLikeOfUptoRow.holds Try.pinned (OpenSpec.upto fnExactLikeOfSpec)

/-- 'laws.FnExactFitMixture', WHERE WHAT IT READS IS OF BULK AT MOST 1048576: true; the input reads as it did. -/
def fnExactFitMixtureUptoRow : OpenClaim := { program := "ytchcgapgpflknaa", sum := "b4a12e208154aab3dd75966ee4033218d7d2c3e8857900f83a286ef3de725d04", func := "loop.example/g01339/laws.FnExactFitMixture", spec := "fnExactFitMixture", inPlace := ["math.Float64frombits", "math.sqrt"], unfollowed := true, recurses := true, apart := false, narrowed := true }
def FnExactFitMixtureUptoSaid : Prop := fnExactFitMixtureUptoRow.holds Try.pinned (OpenSpec.upto fnExactFitMixtureSpec)

/-- 'laws.FnExactGivenAbove', WHERE WHAT IT READS IS OF BULK AT MOST 1048576: true; the input reads as it did. -/
def fnExactGivenAboveUptoRow : OpenClaim := { program := "ytchcgapgpflknaa", sum := "b4a12e208154aab3dd75966ee4033218d7d2c3e8857900f83a286ef3de725d04", func := "loop.example/g01339/laws.FnExactGivenAbove", spec := "fnExactGivenAbove", unfollowed := true, recurses := true, apart := false, narrowed := true }
def FnExactGivenAboveUptoSaid : Prop := fnExactGivenAboveUptoRow.holds Try.pinned (OpenSpec.upto fnExactGivenAboveSpec)

/-- 'laws.FnExactSeedShare', WHERE WHAT IT READS IS OF BULK AT MOST 1048576: true; the input reads as it did. -/
def fnExactSeedShareUptoRow : OpenClaim := { program := "ytchcgapgpflknaa", sum := "b4a12e208154aab3dd75966ee4033218d7d2c3e8857900f83a286ef3de725d04", func := "loop.example/g01339/laws.FnExactSeedShare", spec := "fnExactSeedShare", unfollowed := true, recurses := true, apart := false, narrowed := true }
def FnExactSeedShareUptoSaid : Prop := fnExactSeedShareUptoRow.holds Try.pinned (OpenSpec.upto fnExactSeedShareSpec)

end Rows
end Go.Proofs.Ytchcgapgpflknaa
