/-
  No cell of these rows narrows 'for every input' (looked for: loops, veiled, ifaces, maps, wideKeys, modest, calm, conditions, laid).
  DERIVED. THE GIVEN ROWS OF THIS SEAT. 12 by the template 'for every input the law returns true; each argument reads behind the call as it read before'; 0 by the template 'total and deterministic' (their statements: YtobheippncjjiaaTotals.lean).
  GIVEN WITH THE SEED: the statements are not yours to turn. If you find one false, say at which input.
  Laid BY PROGRAM, IN A SANDBOX (cutbox-rows.mjs): the forced cells as the released guide's own fill.sh prints them over the translation 0a5eafbd1cff23fb… (all of the seat's roots in one cut). By AI agents, Wed Nov 11 2026. No macro, syntax, notation, axiom, sorry.
-/
import Derived.Test.YtobheippncjjiaaChecked
import GoSem.Claim
import GoSem.ClaimJoined
import GoSem.ClaimMapViews
import Derived.JoinedTies
import Derived.KernelRfl
namespace Go.Proofs.Ytobheippncjjiaa
/- THE CELL 'sum', in the pinned program and in every row, IS THE sha256 OF THE DUMP (.gsa) THAT YtobheippncjjiaaProg.lean LOADS. Nothing in Lean hashes anything: it is a label: what it is worth is what the hold of that sum in a sandbox is worth. -/
noncomputable def Try.pinned : Pinned := { name := "ytobheippncjjiaa", sum := "0a5eafbd1cff23fbb11142968b4154f6e1b4385bf8525b7c22c022e5a135fa7c", checked := Try.checked }
namespace Rows
def none {H : Type} : Left H := { results := [], args := [] }

/-- 'laws.FnExactPlainMany': WHATEVER THE INPUT: true; the input reads as it did. -/
def fnExactPlainManySpec : ChangeSpec := { name := "fnExactPlainMany", fn := fun _ => fun
  | [d] => { results := [.lit (.bool true)], args := [d] }
  | _ => none }
def fnExactPlainManyRow : OpenClaim := { program := "ytobheippncjjiaa", sum := "0a5eafbd1cff23fbb11142968b4154f6e1b4385bf8525b7c22c022e5a135fa7c", func := "loop.example/g01339/laws.FnExactPlainMany", spec := "fnExactPlainMany", unfollowed := true, recurses := true, apart := false }
def FnExactPlainManySaid : Prop := fnExactPlainManyRow.holds Try.pinned (OpenSpec.ofChange fnExactPlainManySpec)

/-- ITS FALSE NEIGHBOUR: 'it returns false'. Refute it at one input. -/
def fnExactPlainManyWrong : ChangeSpec := { name := "fnExactPlainMany", fn := fun _ => fun
  | [d] => { results := [.lit (.bool false)], args := [d] }
  | _ => none }
def FnExactPlainManyWrongFalsely : Prop := fnExactPlainManyRow.holds Try.pinned (OpenSpec.ofChange fnExactPlainManyWrong)

/-- 'laws.FnExactSameShare': WHATEVER THE INPUT: true; the input reads as it did. -/
def fnExactSameShareSpec : ChangeSpec := { name := "fnExactSameShare", fn := fun _ => fun
  | [d1, d2] => { results := [.lit (.bool true)], args := [d1, d2] }
  | _ => none }
def fnExactSameShareRow : OpenClaim := { program := "ytobheippncjjiaa", sum := "0a5eafbd1cff23fbb11142968b4154f6e1b4385bf8525b7c22c022e5a135fa7c", func := "loop.example/g01339/laws.FnExactSameShare", spec := "fnExactSameShare", inPlace := ["math.Float32bits", "math.Float64bits"], unfollowed := true, recurses := true, apart := false }
def FnExactSameShareSaid : Prop := fnExactSameShareRow.holds Try.pinned (OpenSpec.ofChange fnExactSameShareSpec)

/-- ITS FALSE NEIGHBOUR: 'it returns false'. Refute it at one input. -/
def fnExactSameShareWrong : ChangeSpec := { name := "fnExactSameShare", fn := fun _ => fun
  | [d1, d2] => { results := [.lit (.bool false)], args := [d1, d2] }
  | _ => none }
def FnExactSameShareWrongFalsely : Prop := fnExactSameShareRow.holds Try.pinned (OpenSpec.ofChange fnExactSameShareWrong)

/-- 'laws.FnExactValidShare': WHATEVER THE INPUT: true; the input reads as it did. -/
def fnExactValidShareSpec : ChangeSpec := { name := "fnExactValidShare", fn := fun _ => fun
  | [d] => { results := [.lit (.bool true)], args := [d] }
  | _ => none }
def fnExactValidShareRow : OpenClaim := { program := "ytobheippncjjiaa", sum := "0a5eafbd1cff23fbb11142968b4154f6e1b4385bf8525b7c22c022e5a135fa7c", func := "loop.example/g01339/laws.FnExactValidShare", spec := "fnExactValidShare", unfollowed := true, recurses := true, apart := false }
def FnExactValidShareSaid : Prop := fnExactValidShareRow.holds Try.pinned (OpenSpec.ofChange fnExactValidShareSpec)

/-- ITS FALSE NEIGHBOUR: 'it returns false'. Refute it at one input. -/
def fnExactValidShareWrong : ChangeSpec := { name := "fnExactValidShare", fn := fun _ => fun
  | [d] => { results := [.lit (.bool false)], args := [d] }
  | _ => none }
def FnExactValidShareWrongFalsely : Prop := fnExactValidShareRow.holds Try.pinned (OpenSpec.ofChange fnExactValidShareWrong)

/-- 'laws.FnExactBetWealth': WHATEVER THE INPUT: true; the input reads as it did. -/
def fnExactBetWealthSpec : ChangeSpec := { name := "fnExactBetWealth", fn := fun _ => fun
  | [d1, d2, d3] => { results := [.lit (.bool true)], args := [d1, d2, d3] }
  | _ => none }
def fnExactBetWealthRow : OpenClaim := { program := "ytobheippncjjiaa", sum := "0a5eafbd1cff23fbb11142968b4154f6e1b4385bf8525b7c22c022e5a135fa7c", func := "loop.example/g01339/laws.FnExactBetWealth", spec := "fnExactBetWealth", unfollowed := true, recurses := true, apart := false }
def FnExactBetWealthSaid : Prop := fnExactBetWealthRow.holds Try.pinned (OpenSpec.ofChange fnExactBetWealthSpec)

/-- ITS FALSE NEIGHBOUR: 'it returns false'. Refute it at one input. -/
def fnExactBetWealthWrong : ChangeSpec := { name := "fnExactBetWealth", fn := fun _ => fun
  | [d1, d2, d3] => { results := [.lit (.bool false)], args := [d1, d2, d3] }
  | _ => none }
def FnExactBetWealthWrongFalsely : Prop := fnExactBetWealthRow.holds Try.pinned (OpenSpec.ofChange fnExactBetWealthWrong)

/-- 'laws.FnExactValidMixture': WHATEVER THE INPUT: true; the input reads as it did. -/
def fnExactValidMixtureSpec : ChangeSpec := { name := "fnExactValidMixture", fn := fun _ => fun
  | [d] => { results := [.lit (.bool true)], args := [d] }
  | _ => none }
def fnExactValidMixtureRow : OpenClaim := { program := "ytobheippncjjiaa", sum := "0a5eafbd1cff23fbb11142968b4154f6e1b4385bf8525b7c22c022e5a135fa7c", func := "loop.example/g01339/laws.FnExactValidMixture", spec := "fnExactValidMixture", unfollowed := true, recurses := true, apart := false }
def FnExactValidMixtureSaid : Prop := fnExactValidMixtureRow.holds Try.pinned (OpenSpec.ofChange fnExactValidMixtureSpec)

/-- ITS FALSE NEIGHBOUR: 'it returns false'. Refute it at one input. -/
def fnExactValidMixtureWrong : ChangeSpec := { name := "fnExactValidMixture", fn := fun _ => fun
  | [d] => { results := [.lit (.bool false)], args := [d] }
  | _ => none }
def FnExactValidMixtureWrongFalsely : Prop := fnExactValidMixtureRow.holds Try.pinned (OpenSpec.ofChange fnExactValidMixtureWrong)

/-- 'laws.FnExactChanceBelow': WHATEVER THE INPUT: true; the input reads as it did. -/
def fnExactChanceBelowSpec : ChangeSpec := { name := "fnExactChanceBelow", fn := fun _ => fun
  | [d1, d2] => { results := [.lit (.bool true)], args := [d1, d2] }
  | _ => none }
def fnExactChanceBelowRow : OpenClaim := { program := "ytobheippncjjiaa", sum := "0a5eafbd1cff23fbb11142968b4154f6e1b4385bf8525b7c22c022e5a135fa7c", func := "loop.example/g01339/laws.FnExactChanceBelow", spec := "fnExactChanceBelow", unfollowed := true, recurses := true, apart := false }
def FnExactChanceBelowSaid : Prop := fnExactChanceBelowRow.holds Try.pinned (OpenSpec.ofChange fnExactChanceBelowSpec)

/-- ITS FALSE NEIGHBOUR: 'it returns false'. Refute it at one input. -/
def fnExactChanceBelowWrong : ChangeSpec := { name := "fnExactChanceBelow", fn := fun _ => fun
  | [d1, d2] => { results := [.lit (.bool false)], args := [d1, d2] }
  | _ => none }
def FnExactChanceBelowWrongFalsely : Prop := fnExactChanceBelowRow.holds Try.pinned (OpenSpec.ofChange fnExactChanceBelowWrong)

/-- 'laws.FnExactQuantileOf': WHATEVER THE INPUT: true; the input reads as it did. -/
def fnExactQuantileOfSpec : ChangeSpec := { name := "fnExactQuantileOf", fn := fun _ => fun
  | [d1, d2] => { results := [.lit (.bool true)], args := [d1, d2] }
  | _ => none }
def fnExactQuantileOfRow : OpenClaim := { program := "ytobheippncjjiaa", sum := "0a5eafbd1cff23fbb11142968b4154f6e1b4385bf8525b7c22c022e5a135fa7c", func := "loop.example/g01339/laws.FnExactQuantileOf", spec := "fnExactQuantileOf", unfollowed := true, recurses := true, apart := false }
def FnExactQuantileOfSaid : Prop := fnExactQuantileOfRow.holds Try.pinned (OpenSpec.ofChange fnExactQuantileOfSpec)

/-- ITS FALSE NEIGHBOUR: 'it returns false'. Refute it at one input. -/
def fnExactQuantileOfWrong : ChangeSpec := { name := "fnExactQuantileOf", fn := fun _ => fun
  | [d1, d2] => { results := [.lit (.bool false)], args := [d1, d2] }
  | _ => none }
def FnExactQuantileOfWrongFalsely : Prop := fnExactQuantileOfRow.holds Try.pinned (OpenSpec.ofChange fnExactQuantileOfWrong)

/-- 'laws.FnExactBandOf': WHATEVER THE INPUT: true; the input reads as it did. -/
def fnExactBandOfSpec : ChangeSpec := { name := "fnExactBandOf", fn := fun _ => fun
  | [d1, d2] => { results := [.lit (.bool true)], args := [d1, d2] }
  | _ => none }
def fnExactBandOfRow : OpenClaim := { program := "ytobheippncjjiaa", sum := "0a5eafbd1cff23fbb11142968b4154f6e1b4385bf8525b7c22c022e5a135fa7c", func := "loop.example/g01339/laws.FnExactBandOf", spec := "fnExactBandOf", inPlace := ["math.archFloor", "math.Float64bits", "math.Float64frombits", "math.archTrunc"], unfollowed := true, recurses := true, apart := false }
def FnExactBandOfSaid : Prop := fnExactBandOfRow.holds Try.pinned (OpenSpec.ofChange fnExactBandOfSpec)

/-- ITS FALSE NEIGHBOUR: 'it returns false'. Refute it at one input. -/
def fnExactBandOfWrong : ChangeSpec := { name := "fnExactBandOf", fn := fun _ => fun
  | [d1, d2] => { results := [.lit (.bool false)], args := [d1, d2] }
  | _ => none }
def FnExactBandOfWrongFalsely : Prop := fnExactBandOfRow.holds Try.pinned (OpenSpec.ofChange fnExactBandOfWrong)

/-- 'laws.FnExactMeanOfShare': WHATEVER THE INPUT: true; the input reads as it did. -/
def fnExactMeanOfShareSpec : ChangeSpec := { name := "fnExactMeanOfShare", fn := fun _ => fun
  | [d] => { results := [.lit (.bool true)], args := [d] }
  | _ => none }
def fnExactMeanOfShareRow : OpenClaim := { program := "ytobheippncjjiaa", sum := "0a5eafbd1cff23fbb11142968b4154f6e1b4385bf8525b7c22c022e5a135fa7c", func := "loop.example/g01339/laws.FnExactMeanOfShare", spec := "fnExactMeanOfShare", unfollowed := true, recurses := true, apart := false }
def FnExactMeanOfShareSaid : Prop := fnExactMeanOfShareRow.holds Try.pinned (OpenSpec.ofChange fnExactMeanOfShareSpec)

/-- ITS FALSE NEIGHBOUR: 'it returns false'. Refute it at one input. -/
def fnExactMeanOfShareWrong : ChangeSpec := { name := "fnExactMeanOfShare", fn := fun _ => fun
  | [d] => { results := [.lit (.bool false)], args := [d] }
  | _ => none }
def FnExactMeanOfShareWrongFalsely : Prop := fnExactMeanOfShareRow.holds Try.pinned (OpenSpec.ofChange fnExactMeanOfShareWrong)

/-- 'laws.FnExactHitsShare': WHATEVER THE INPUT: true; the input reads as it did. -/
def fnExactHitsShareSpec : ChangeSpec := { name := "fnExactHitsShare", fn := fun _ => fun
  | [d1, d2] => { results := [.lit (.bool true)], args := [d1, d2] }
  | _ => none }
def fnExactHitsShareRow : OpenClaim := { program := "ytobheippncjjiaa", sum := "0a5eafbd1cff23fbb11142968b4154f6e1b4385bf8525b7c22c022e5a135fa7c", func := "loop.example/g01339/laws.FnExactHitsShare", spec := "fnExactHitsShare", unfollowed := true, recurses := true, apart := false }
def FnExactHitsShareSaid : Prop := fnExactHitsShareRow.holds Try.pinned (OpenSpec.ofChange fnExactHitsShareSpec)

/-- ITS FALSE NEIGHBOUR: 'it returns false'. Refute it at one input. -/
def fnExactHitsShareWrong : ChangeSpec := { name := "fnExactHitsShare", fn := fun _ => fun
  | [d1, d2] => { results := [.lit (.bool false)], args := [d1, d2] }
  | _ => none }
def FnExactHitsShareWrongFalsely : Prop := fnExactHitsShareRow.holds Try.pinned (OpenSpec.ofChange fnExactHitsShareWrong)

/-- 'laws.FnExactRareShare': WHATEVER THE INPUT: true; the input reads as it did. -/
def fnExactRareShareSpec : ChangeSpec := { name := "fnExactRareShare", fn := fun _ => fun
  | [d1, d2] => { results := [.lit (.bool true)], args := [d1, d2] }
  | _ => none }
def fnExactRareShareRow : OpenClaim := { program := "ytobheippncjjiaa", sum := "0a5eafbd1cff23fbb11142968b4154f6e1b4385bf8525b7c22c022e5a135fa7c", func := "loop.example/g01339/laws.FnExactRareShare", spec := "fnExactRareShare", unfollowed := true, recurses := true, apart := false }
def FnExactRareShareSaid : Prop := fnExactRareShareRow.holds Try.pinned (OpenSpec.ofChange fnExactRareShareSpec)

/-- ITS FALSE NEIGHBOUR: 'it returns false'. Refute it at one input. -/
def fnExactRareShareWrong : ChangeSpec := { name := "fnExactRareShare", fn := fun _ => fun
  | [d1, d2] => { results := [.lit (.bool false)], args := [d1, d2] }
  | _ => none }
def FnExactRareShareWrongFalsely : Prop := fnExactRareShareRow.holds Try.pinned (OpenSpec.ofChange fnExactRareShareWrong)

/-- 'laws.FnExactMomentOf': WHATEVER THE INPUT: true; the input reads as it did. -/
def fnExactMomentOfSpec : ChangeSpec := { name := "fnExactMomentOf", fn := fun _ => fun
  | [d1, d2] => { results := [.lit (.bool true)], args := [d1, d2] }
  | _ => none }
def fnExactMomentOfRow : OpenClaim := { program := "ytobheippncjjiaa", sum := "0a5eafbd1cff23fbb11142968b4154f6e1b4385bf8525b7c22c022e5a135fa7c", func := "loop.example/g01339/laws.FnExactMomentOf", spec := "fnExactMomentOf", unfollowed := true, recurses := true, apart := false }
def FnExactMomentOfSaid : Prop := fnExactMomentOfRow.holds Try.pinned (OpenSpec.ofChange fnExactMomentOfSpec)

/-- ITS FALSE NEIGHBOUR: 'it returns false'. Refute it at one input. -/
def fnExactMomentOfWrong : ChangeSpec := { name := "fnExactMomentOf", fn := fun _ => fun
  | [d1, d2] => { results := [.lit (.bool false)], args := [d1, d2] }
  | _ => none }
def FnExactMomentOfWrongFalsely : Prop := fnExactMomentOfRow.holds Try.pinned (OpenSpec.ofChange fnExactMomentOfWrong)

/- THE SECOND FORM. 'bulk': how many values and letters a reading holds, each counted each time it is reached (what is shared counts as often as it is met; a slice's spare places count too). A statement '..UptoSaid' is the law's where the arguments, and the package variables that the reading takes, are together of bulk at most 1048576: NARROWER than '..Said'. Prove '..Said' where nothing that the law and all that it calls make is longer than what came in: it says more and counts as full. Else prove '..UptoSaid'. A law counts once. -/
mutual
def uptoBulk {H : Type} : DataW H → Nat
  | .lit (.string bytes) => bytes.length + 1
  | .lit _ => 1
  | .nil => 1
  | .ptr d => uptoBulk d + 1
  | .slice elems spare => uptoBulkAll elems + uptoBulkAll spare + 1
  | .agg parts => uptoBulkAll parts + 1
  | .iface _ d => uptoBulk d + 1
  | .map entries => uptoBulkEntries entries + 1
  | .held _ => 1
def uptoBulkAll {H : Type} : List (DataW H) → Nat
  | [] => 0
  | d :: r => uptoBulk d + uptoBulkAll r
def uptoBulkEntries {H : Type} : List (Lit × DataW H) → Nat
  | [] => 0
  | x :: r => uptoBulkEntry x + uptoBulkEntries r
def uptoBulkEntry {H : Type} : Lit × DataW H → Nat
  | (.string bytes, d) => bytes.length + uptoBulk d + 1
  | (_, d) => uptoBulk d + 1
 end
def uptoSmall : (H : Type) → List (DataW H) → Bool := fun _ ds => decide (uptoBulkAll ds ≤ 1048576)
def OpenSpec.upto (s : _root_.Go.ChangeSpec) : _root_.Go.OpenSpec := { _root_.Go.OpenSpec.ofChange s with cond := some uptoSmall }

/-- 'laws.FnExactPlainMany', WHERE WHAT IT READS IS OF BULK AT MOST 1048576: true; the input reads as it did. -/
def fnExactPlainManyUptoRow : OpenClaim := { program := "ytobheippncjjiaa", sum := "0a5eafbd1cff23fbb11142968b4154f6e1b4385bf8525b7c22c022e5a135fa7c", func := "loop.example/g01339/laws.FnExactPlainMany", spec := "fnExactPlainMany", unfollowed := true, recurses := true, apart := false, narrowed := true }
def FnExactPlainManyUptoSaid : Prop := fnExactPlainManyUptoRow.holds Try.pinned (OpenSpec.upto fnExactPlainManySpec)

/-- 'laws.FnExactSameShare', WHERE WHAT IT READS IS OF BULK AT MOST 1048576: true; the input reads as it did. -/
def fnExactSameShareUptoRow : OpenClaim := { program := "ytobheippncjjiaa", sum := "0a5eafbd1cff23fbb11142968b4154f6e1b4385bf8525b7c22c022e5a135fa7c", func := "loop.example/g01339/laws.FnExactSameShare", spec := "fnExactSameShare", inPlace := ["math.Float32bits", "math.Float64bits"], unfollowed := true, recurses := true, apart := false, narrowed := true }
def FnExactSameShareUptoSaid : Prop := fnExactSameShareUptoRow.holds Try.pinned (OpenSpec.upto fnExactSameShareSpec)

/-- 'laws.FnExactValidShare', WHERE WHAT IT READS IS OF BULK AT MOST 1048576: true; the input reads as it did. -/
def fnExactValidShareUptoRow : OpenClaim := { program := "ytobheippncjjiaa", sum := "0a5eafbd1cff23fbb11142968b4154f6e1b4385bf8525b7c22c022e5a135fa7c", func := "loop.example/g01339/laws.FnExactValidShare", spec := "fnExactValidShare", unfollowed := true, recurses := true, apart := false, narrowed := true }
def FnExactValidShareUptoSaid : Prop := fnExactValidShareUptoRow.holds Try.pinned (OpenSpec.upto fnExactValidShareSpec)

/-- 'laws.FnExactBetWealth', WHERE WHAT IT READS IS OF BULK AT MOST 1048576: true; the input reads as it did. -/
def fnExactBetWealthUptoRow : OpenClaim := { program := "ytobheippncjjiaa", sum := "0a5eafbd1cff23fbb11142968b4154f6e1b4385bf8525b7c22c022e5a135fa7c", func := "loop.example/g01339/laws.FnExactBetWealth", spec := "fnExactBetWealth", unfollowed := true, recurses := true, apart := false, narrowed := true }
def FnExactBetWealthUptoSaid : Prop := fnExactBetWealthUptoRow.holds Try.pinned (OpenSpec.upto fnExactBetWealthSpec)

/-- 'laws.FnExactValidMixture', WHERE WHAT IT READS IS OF BULK AT MOST 1048576: true; the input reads as it did. -/
def fnExactValidMixtureUptoRow : OpenClaim := { program := "ytobheippncjjiaa", sum := "0a5eafbd1cff23fbb11142968b4154f6e1b4385bf8525b7c22c022e5a135fa7c", func := "loop.example/g01339/laws.FnExactValidMixture", spec := "fnExactValidMixture", unfollowed := true, recurses := true, apart := false, narrowed := true }
def FnExactValidMixtureUptoSaid : Prop := fnExactValidMixtureUptoRow.holds Try.pinned (OpenSpec.upto fnExactValidMixtureSpec)

/-- 'laws.FnExactChanceBelow', WHERE WHAT IT READS IS OF BULK AT MOST 1048576: true; the input reads as it did. -/
def fnExactChanceBelowUptoRow : OpenClaim := { program := "ytobheippncjjiaa", sum := "0a5eafbd1cff23fbb11142968b4154f6e1b4385bf8525b7c22c022e5a135fa7c", func := "loop.example/g01339/laws.FnExactChanceBelow", spec := "fnExactChanceBelow", unfollowed := true, recurses := true, apart := false, narrowed := true }
def FnExactChanceBelowUptoSaid : Prop := fnExactChanceBelowUptoRow.holds Try.pinned (OpenSpec.upto fnExactChanceBelowSpec)

/-- 'laws.FnExactQuantileOf', WHERE WHAT IT READS IS OF BULK AT MOST 1048576: true; the input reads as it did. -/
def fnExactQuantileOfUptoRow : OpenClaim := { program := "ytobheippncjjiaa", sum := "0a5eafbd1cff23fbb11142968b4154f6e1b4385bf8525b7c22c022e5a135fa7c", func := "loop.example/g01339/laws.FnExactQuantileOf", spec := "fnExactQuantileOf", unfollowed := true, recurses := true, apart := false, narrowed := true }
def FnExactQuantileOfUptoSaid : Prop := fnExactQuantileOfUptoRow.holds Try.pinned (OpenSpec.upto fnExactQuantileOfSpec)

/-- 'laws.FnExactBandOf', WHERE WHAT IT READS IS OF BULK AT MOST 1048576: true; the input reads as it did. -/
def fnExactBandOfUptoRow : OpenClaim := { program := "ytobheippncjjiaa", sum := "0a5eafbd1cff23fbb11142968b4154f6e1b4385bf8525b7c22c022e5a135fa7c", func := "loop.example/g01339/laws.FnExactBandOf", spec := "fnExactBandOf", inPlace := ["math.archFloor", "math.Float64bits", "math.Float64frombits", "math.archTrunc"], unfollowed := true, recurses := true, apart := false, narrowed := true }
def FnExactBandOfUptoSaid : Prop := fnExactBandOfUptoRow.holds Try.pinned (OpenSpec.upto fnExactBandOfSpec)

/-- 'laws.FnExactMeanOfShare', WHERE WHAT IT READS IS OF BULK AT MOST 1048576: true; the input reads as it did. -/
def fnExactMeanOfShareUptoRow : OpenClaim := { program := "ytobheippncjjiaa", sum := "0a5eafbd1cff23fbb11142968b4154f6e1b4385bf8525b7c22c022e5a135fa7c", func := "loop.example/g01339/laws.FnExactMeanOfShare", spec := "fnExactMeanOfShare", unfollowed := true, recurses := true, apart := false, narrowed := true }
def FnExactMeanOfShareUptoSaid : Prop := fnExactMeanOfShareUptoRow.holds Try.pinned (OpenSpec.upto fnExactMeanOfShareSpec)

/-- 'laws.FnExactHitsShare', WHERE WHAT IT READS IS OF BULK AT MOST 1048576: true; the input reads as it did. -/
def fnExactHitsShareUptoRow : OpenClaim := { program := "ytobheippncjjiaa", sum := "0a5eafbd1cff23fbb11142968b4154f6e1b4385bf8525b7c22c022e5a135fa7c", func := "loop.example/g01339/laws.FnExactHitsShare", spec := "fnExactHitsShare", unfollowed := true, recurses := true, apart := false, narrowed := true }
def FnExactHitsShareUptoSaid : Prop := fnExactHitsShareUptoRow.holds Try.pinned (OpenSpec.upto fnExactHitsShareSpec)

/-- 'laws.FnExactRareShare', WHERE WHAT IT READS IS OF BULK AT MOST 1048576: true; the input reads as it did. -/
def fnExactRareShareUptoRow : OpenClaim := { program := "ytobheippncjjiaa", sum := "0a5eafbd1cff23fbb11142968b4154f6e1b4385bf8525b7c22c022e5a135fa7c", func := "loop.example/g01339/laws.FnExactRareShare", spec := "fnExactRareShare", unfollowed := true, recurses := true, apart := false, narrowed := true }
def FnExactRareShareUptoSaid : Prop := fnExactRareShareUptoRow.holds Try.pinned (OpenSpec.upto fnExactRareShareSpec)

/-- 'laws.FnExactMomentOf', WHERE WHAT IT READS IS OF BULK AT MOST 1048576: true; the input reads as it did. -/
def fnExactMomentOfUptoRow : OpenClaim := { program := "ytobheippncjjiaa", sum := "0a5eafbd1cff23fbb11142968b4154f6e1b4385bf8525b7c22c022e5a135fa7c", func := "loop.example/g01339/laws.FnExactMomentOf", spec := "fnExactMomentOf", unfollowed := true, recurses := true, apart := false, narrowed := true }
def FnExactMomentOfUptoSaid : Prop := fnExactMomentOfUptoRow.holds Try.pinned (OpenSpec.upto fnExactMomentOfSpec)

end Rows
end Go.Proofs.Ytobheippncjjiaa
