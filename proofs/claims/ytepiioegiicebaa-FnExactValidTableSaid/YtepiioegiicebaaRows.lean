/-
  No cell of these rows narrows 'for every input' (looked for: loops, veiled, ifaces, maps, wideKeys, modest, calm, conditions, laid).
  DERIVED. THE GIVEN ROWS OF THIS SEAT. 12 by the template 'for every input the law returns true; each argument reads behind the call as it read before'; 0 by the template 'total and deterministic' (their statements: YtepiioegiicebaaTotals.lean).
  GIVEN WITH THE SEED: the statements are not yours to turn. If you find one false, say at which input.
  Laid BY PROGRAM, IN A SANDBOX (cutbox-rows.mjs): the forced cells as the released guide's own fill.sh prints them over the translation a3e4a3514e0ea70d… (all of the seat's roots in one cut). By AI agents, Wed Nov 11 2026. No macro, syntax, notation, axiom, sorry.
-/
import Derived.Test.YtepiioegiicebaaChecked
import GoSem.Claim
import GoSem.ClaimJoined
import GoSem.ClaimMapViews
import Derived.JoinedTies
import Derived.KernelRfl
namespace Go.Proofs.Ytepiioegiicebaa
/- THE CELL 'sum', in the pinned program and in every row, IS THE sha256 OF THE DUMP (.gsa) THAT YtepiioegiicebaaProg.lean LOADS. Nothing in Lean hashes anything: it is a label: what it is worth is what the hold of that sum in a sandbox is worth. -/
noncomputable def Try.pinned : Pinned := { name := "ytepiioegiicebaa", sum := "a3e4a3514e0ea70da74d8727b4b399b45fdf41b9d9f2310d2ab7efd9b25dbd3b", checked := Try.checked }
namespace Rows
def none {H : Type} : Left H := { results := [], args := [] }

/-- 'laws.FnExactShareOfTail': WHATEVER THE INPUT: true; the input reads as it did. -/
def fnExactShareOfTailSpec : ChangeSpec := { name := "fnExactShareOfTail", fn := fun _ => fun
  | [d1, d2] => { results := [.lit (.bool true)], args := [d1, d2] }
  | _ => none }
def fnExactShareOfTailRow : OpenClaim := { program := "ytepiioegiicebaa", sum := "a3e4a3514e0ea70da74d8727b4b399b45fdf41b9d9f2310d2ab7efd9b25dbd3b", func := "loop.example/g01339/laws.FnExactShareOfTail", spec := "fnExactShareOfTail", apart := false }
def FnExactShareOfTailSaid : Prop := fnExactShareOfTailRow.holds Try.pinned (OpenSpec.ofChange fnExactShareOfTailSpec)

/-- ITS FALSE NEIGHBOUR: 'it returns false'. Refute it at one input. -/
def fnExactShareOfTailWrong : ChangeSpec := { name := "fnExactShareOfTail", fn := fun _ => fun
  | [d1, d2] => { results := [.lit (.bool false)], args := [d1, d2] }
  | _ => none }
def FnExactShareOfTailWrongFalsely : Prop := fnExactShareOfTailRow.holds Try.pinned (OpenSpec.ofChange fnExactShareOfTailWrong)

/-- 'laws.FnExactChoices': WHATEVER THE INPUT: true; the input reads as it did. -/
def fnExactChoicesSpec : ChangeSpec := { name := "fnExactChoices", fn := fun _ => fun
  | [d1, d2] => { results := [.lit (.bool true)], args := [d1, d2] }
  | _ => none }
def fnExactChoicesRow : OpenClaim := { program := "ytepiioegiicebaa", sum := "a3e4a3514e0ea70da74d8727b4b399b45fdf41b9d9f2310d2ab7efd9b25dbd3b", func := "loop.example/g01339/laws.FnExactChoices", spec := "fnExactChoices", apart := false }
def FnExactChoicesSaid : Prop := fnExactChoicesRow.holds Try.pinned (OpenSpec.ofChange fnExactChoicesSpec)

/-- ITS FALSE NEIGHBOUR: 'it returns false'. Refute it at one input. -/
def fnExactChoicesWrong : ChangeSpec := { name := "fnExactChoices", fn := fun _ => fun
  | [d1, d2] => { results := [.lit (.bool false)], args := [d1, d2] }
  | _ => none }
def FnExactChoicesWrongFalsely : Prop := fnExactChoicesRow.holds Try.pinned (OpenSpec.ofChange fnExactChoicesWrong)

/-- 'laws.FnExactSignTail': WHATEVER THE INPUT: true; the input reads as it did. -/
def fnExactSignTailSpec : ChangeSpec := { name := "fnExactSignTail", fn := fun _ => fun
  | [d1, d2] => { results := [.lit (.bool true)], args := [d1, d2] }
  | _ => none }
def fnExactSignTailRow : OpenClaim := { program := "ytepiioegiicebaa", sum := "a3e4a3514e0ea70da74d8727b4b399b45fdf41b9d9f2310d2ab7efd9b25dbd3b", func := "loop.example/g01339/laws.FnExactSignTail", spec := "fnExactSignTail", apart := false }
def FnExactSignTailSaid : Prop := fnExactSignTailRow.holds Try.pinned (OpenSpec.ofChange fnExactSignTailSpec)

/-- ITS FALSE NEIGHBOUR: 'it returns false'. Refute it at one input. -/
def fnExactSignTailWrong : ChangeSpec := { name := "fnExactSignTail", fn := fun _ => fun
  | [d1, d2] => { results := [.lit (.bool false)], args := [d1, d2] }
  | _ => none }
def FnExactSignTailWrongFalsely : Prop := fnExactSignTailRow.holds Try.pinned (OpenSpec.ofChange fnExactSignTailWrong)

/-- 'laws.FnExactStairTail': WHATEVER THE INPUT: true; the input reads as it did. -/
def fnExactStairTailSpec : ChangeSpec := { name := "fnExactStairTail", fn := fun _ => fun
  | [d1, d2, d3] => { results := [.lit (.bool true)], args := [d1, d2, d3] }
  | _ => none }
def fnExactStairTailRow : OpenClaim := { program := "ytepiioegiicebaa", sum := "a3e4a3514e0ea70da74d8727b4b399b45fdf41b9d9f2310d2ab7efd9b25dbd3b", func := "loop.example/g01339/laws.FnExactStairTail", spec := "fnExactStairTail", apart := false }
def FnExactStairTailSaid : Prop := fnExactStairTailRow.holds Try.pinned (OpenSpec.ofChange fnExactStairTailSpec)

/-- ITS FALSE NEIGHBOUR: 'it returns false'. Refute it at one input. -/
def fnExactStairTailWrong : ChangeSpec := { name := "fnExactStairTail", fn := fun _ => fun
  | [d1, d2, d3] => { results := [.lit (.bool false)], args := [d1, d2, d3] }
  | _ => none }
def FnExactStairTailWrongFalsely : Prop := fnExactStairTailRow.holds Try.pinned (OpenSpec.ofChange fnExactStairTailWrong)

/-- 'laws.FnExactSameTable': WHATEVER THE INPUT: true; the input reads as it did. -/
def fnExactSameTableSpec : ChangeSpec := { name := "fnExactSameTable", fn := fun _ => fun
  | [d1, d2] => { results := [.lit (.bool true)], args := [d1, d2] }
  | _ => none }
def fnExactSameTableRow : OpenClaim := { program := "ytepiioegiicebaa", sum := "a3e4a3514e0ea70da74d8727b4b399b45fdf41b9d9f2310d2ab7efd9b25dbd3b", func := "loop.example/g01339/laws.FnExactSameTable", spec := "fnExactSameTable", apart := false }
def FnExactSameTableSaid : Prop := fnExactSameTableRow.holds Try.pinned (OpenSpec.ofChange fnExactSameTableSpec)

/-- ITS FALSE NEIGHBOUR: 'it returns false'. Refute it at one input. -/
def fnExactSameTableWrong : ChangeSpec := { name := "fnExactSameTable", fn := fun _ => fun
  | [d1, d2] => { results := [.lit (.bool false)], args := [d1, d2] }
  | _ => none }
def FnExactSameTableWrongFalsely : Prop := fnExactSameTableRow.holds Try.pinned (OpenSpec.ofChange fnExactSameTableWrong)

/-- 'laws.FnExactValidTable': WHATEVER THE INPUT: true; the input reads as it did. -/
def fnExactValidTableSpec : ChangeSpec := { name := "fnExactValidTable", fn := fun _ => fun
  | [d] => { results := [.lit (.bool true)], args := [d] }
  | _ => none }
def fnExactValidTableRow : OpenClaim := { program := "ytepiioegiicebaa", sum := "a3e4a3514e0ea70da74d8727b4b399b45fdf41b9d9f2310d2ab7efd9b25dbd3b", func := "loop.example/g01339/laws.FnExactValidTable", spec := "fnExactValidTable", unfollowed := true, recurses := true, apart := false }
def FnExactValidTableSaid : Prop := fnExactValidTableRow.holds Try.pinned (OpenSpec.ofChange fnExactValidTableSpec)

/-- ITS FALSE NEIGHBOUR: 'it returns false'. Refute it at one input. -/
def fnExactValidTableWrong : ChangeSpec := { name := "fnExactValidTable", fn := fun _ => fun
  | [d] => { results := [.lit (.bool false)], args := [d] }
  | _ => none }
def FnExactValidTableWrongFalsely : Prop := fnExactValidTableRow.holds Try.pinned (OpenSpec.ofChange fnExactValidTableWrong)

/-- 'laws.FnExactRanksOf': WHATEVER THE INPUT: true; the input reads as it did. -/
def fnExactRanksOfSpec : ChangeSpec := { name := "fnExactRanksOf", fn := fun _ => fun
  | [d] => { results := [.lit (.bool true)], args := [d] }
  | _ => none }
def fnExactRanksOfRow : OpenClaim := { program := "ytepiioegiicebaa", sum := "a3e4a3514e0ea70da74d8727b4b399b45fdf41b9d9f2310d2ab7efd9b25dbd3b", func := "loop.example/g01339/laws.FnExactRanksOf", spec := "fnExactRanksOf", unfollowed := true, recurses := true, apart := false }
def FnExactRanksOfSaid : Prop := fnExactRanksOfRow.holds Try.pinned (OpenSpec.ofChange fnExactRanksOfSpec)

/-- ITS FALSE NEIGHBOUR: 'it returns false'. Refute it at one input. -/
def fnExactRanksOfWrong : ChangeSpec := { name := "fnExactRanksOf", fn := fun _ => fun
  | [d] => { results := [.lit (.bool false)], args := [d] }
  | _ => none }
def FnExactRanksOfWrongFalsely : Prop := fnExactRanksOfRow.holds Try.pinned (OpenSpec.ofChange fnExactRanksOfWrong)

/-- 'laws.FnExactStairGap': WHATEVER THE INPUT: true; the input reads as it did. -/
def fnExactStairGapSpec : ChangeSpec := { name := "fnExactStairGap", fn := fun _ => fun
  | [d1, d2] => { results := [.lit (.bool true)], args := [d1, d2] }
  | _ => none }
def fnExactStairGapRow : OpenClaim := { program := "ytepiioegiicebaa", sum := "a3e4a3514e0ea70da74d8727b4b399b45fdf41b9d9f2310d2ab7efd9b25dbd3b", func := "loop.example/g01339/laws.FnExactStairGap", spec := "fnExactStairGap", unfollowed := true, recurses := true, apart := false }
def FnExactStairGapSaid : Prop := fnExactStairGapRow.holds Try.pinned (OpenSpec.ofChange fnExactStairGapSpec)

/-- ITS FALSE NEIGHBOUR: 'it returns false'. Refute it at one input. -/
def fnExactStairGapWrong : ChangeSpec := { name := "fnExactStairGap", fn := fun _ => fun
  | [d1, d2] => { results := [.lit (.bool false)], args := [d1, d2] }
  | _ => none }
def FnExactStairGapWrongFalsely : Prop := fnExactStairGapRow.holds Try.pinned (OpenSpec.ofChange fnExactStairGapWrong)

/-- 'laws.FnExactRankSum': WHATEVER THE INPUT: true; the input reads as it did. -/
def fnExactRankSumSpec : ChangeSpec := { name := "fnExactRankSum", fn := fun _ => fun
  | [d1, d2] => { results := [.lit (.bool true)], args := [d1, d2] }
  | _ => none }
def fnExactRankSumRow : OpenClaim := { program := "ytepiioegiicebaa", sum := "a3e4a3514e0ea70da74d8727b4b399b45fdf41b9d9f2310d2ab7efd9b25dbd3b", func := "loop.example/g01339/laws.FnExactRankSum", spec := "fnExactRankSum", unfollowed := true, recurses := true, apart := false }
def FnExactRankSumSaid : Prop := fnExactRankSumRow.holds Try.pinned (OpenSpec.ofChange fnExactRankSumSpec)

/-- ITS FALSE NEIGHBOUR: 'it returns false'. Refute it at one input. -/
def fnExactRankSumWrong : ChangeSpec := { name := "fnExactRankSum", fn := fun _ => fun
  | [d1, d2] => { results := [.lit (.bool false)], args := [d1, d2] }
  | _ => none }
def FnExactRankSumWrongFalsely : Prop := fnExactRankSumRow.holds Try.pinned (OpenSpec.ofChange fnExactRankSumWrong)

/-- 'laws.FnExactSumTail': WHATEVER THE INPUT: true; the input reads as it did. -/
def fnExactSumTailSpec : ChangeSpec := { name := "fnExactSumTail", fn := fun _ => fun
  | [d1, d2] => { results := [.lit (.bool true)], args := [d1, d2] }
  | _ => none }
def fnExactSumTailRow : OpenClaim := { program := "ytepiioegiicebaa", sum := "a3e4a3514e0ea70da74d8727b4b399b45fdf41b9d9f2310d2ab7efd9b25dbd3b", func := "loop.example/g01339/laws.FnExactSumTail", spec := "fnExactSumTail", unfollowed := true, recurses := true, apart := false }
def FnExactSumTailSaid : Prop := fnExactSumTailRow.holds Try.pinned (OpenSpec.ofChange fnExactSumTailSpec)

/-- ITS FALSE NEIGHBOUR: 'it returns false'. Refute it at one input. -/
def fnExactSumTailWrong : ChangeSpec := { name := "fnExactSumTail", fn := fun _ => fun
  | [d1, d2] => { results := [.lit (.bool false)], args := [d1, d2] }
  | _ => none }
def FnExactSumTailWrongFalsely : Prop := fnExactSumTailRow.holds Try.pinned (OpenSpec.ofChange fnExactSumTailWrong)

/-- 'laws.FnExactRowSums': WHATEVER THE INPUT: true; the input reads as it did. -/
def fnExactRowSumsSpec : ChangeSpec := { name := "fnExactRowSums", fn := fun _ => fun
  | [d] => { results := [.lit (.bool true)], args := [d] }
  | _ => none }
def fnExactRowSumsRow : OpenClaim := { program := "ytepiioegiicebaa", sum := "a3e4a3514e0ea70da74d8727b4b399b45fdf41b9d9f2310d2ab7efd9b25dbd3b", func := "loop.example/g01339/laws.FnExactRowSums", spec := "fnExactRowSums", unfollowed := true, recurses := true, apart := false }
def FnExactRowSumsSaid : Prop := fnExactRowSumsRow.holds Try.pinned (OpenSpec.ofChange fnExactRowSumsSpec)

/-- ITS FALSE NEIGHBOUR: 'it returns false'. Refute it at one input. -/
def fnExactRowSumsWrong : ChangeSpec := { name := "fnExactRowSums", fn := fun _ => fun
  | [d] => { results := [.lit (.bool false)], args := [d] }
  | _ => none }
def FnExactRowSumsWrongFalsely : Prop := fnExactRowSumsRow.holds Try.pinned (OpenSpec.ofChange fnExactRowSumsWrong)

/-- 'laws.FnExactColumnSums': WHATEVER THE INPUT: true; the input reads as it did. -/
def fnExactColumnSumsSpec : ChangeSpec := { name := "fnExactColumnSums", fn := fun _ => fun
  | [d] => { results := [.lit (.bool true)], args := [d] }
  | _ => none }
def fnExactColumnSumsRow : OpenClaim := { program := "ytepiioegiicebaa", sum := "a3e4a3514e0ea70da74d8727b4b399b45fdf41b9d9f2310d2ab7efd9b25dbd3b", func := "loop.example/g01339/laws.FnExactColumnSums", spec := "fnExactColumnSums", unfollowed := true, recurses := true, apart := false }
def FnExactColumnSumsSaid : Prop := fnExactColumnSumsRow.holds Try.pinned (OpenSpec.ofChange fnExactColumnSumsSpec)

/-- ITS FALSE NEIGHBOUR: 'it returns false'. Refute it at one input. -/
def fnExactColumnSumsWrong : ChangeSpec := { name := "fnExactColumnSums", fn := fun _ => fun
  | [d] => { results := [.lit (.bool false)], args := [d] }
  | _ => none }
def FnExactColumnSumsWrongFalsely : Prop := fnExactColumnSumsRow.holds Try.pinned (OpenSpec.ofChange fnExactColumnSumsWrong)

/- THE SECOND FORM. 'bulk': how many values and letters a reading holds, each counted each time it is reached (what is shared counts as often as it is met; a slice's spare places count too). A statement '..UptoSaid' is the law's where the arguments, and the package variables that the reading takes, are together of bulk at most 1048576: NARROWER than '..Said'. Prove '..Said' where nothing that the law and all that it calls make is longer than what came in: it says more and counts as full. Else prove '..UptoSaid'. A law counts once. -/
mutual
def uptoBulk {H : Type} : DataW H → Nat
  | .lit (.string bytes) => bytes.length + 1
  | .lit _ => 1
  | .nil => 1
  | .ptr d => uptoBulk d + 1
  | .slice elems spare => uptoBulkAll elems + uptoBulkAll spare + 1
  | .agg parts => uptoBulkAll parts + 1
  | .iface _ d => uptoBulk d + 1
  | .map entries => uptoBulkEntries entries + 1
  | .held _ => 1
def uptoBulkAll {H : Type} : List (DataW H) → Nat
  | [] => 0
  | d :: r => uptoBulk d + uptoBulkAll r
def uptoBulkEntries {H : Type} : List (Lit × DataW H) → Nat
  | [] => 0
  | x :: r => uptoBulkEntry x + uptoBulkEntries r
def uptoBulkEntry {H : Type} : Lit × DataW H → Nat
  | (.string bytes, d) => bytes.length + uptoBulk d + 1
  | (_, d) => uptoBulk d + 1
 end
def uptoSmall : (H : Type) → List (DataW H) → Bool := fun _ ds => decide (uptoBulkAll ds ≤ 1048576)
def OpenSpec.upto (s : _root_.Go.ChangeSpec) : _root_.Go.OpenSpec := { _root_.Go.OpenSpec.ofChange s with cond := some uptoSmall }

/-- 'laws.FnExactShareOfTail', WHERE WHAT IT READS IS OF BULK AT MOST 1048576: true; the input reads as it did. -/
def fnExactShareOfTailUptoRow : OpenClaim := { program := "ytepiioegiicebaa", sum := "a3e4a3514e0ea70da74d8727b4b399b45fdf41b9d9f2310d2ab7efd9b25dbd3b", func := "loop.example/g01339/laws.FnExactShareOfTail", spec := "fnExactShareOfTail", apart := false, narrowed := true }
def FnExactShareOfTailUptoSaid : Prop := fnExactShareOfTailUptoRow.holds Try.pinned (OpenSpec.upto fnExactShareOfTailSpec)

/-- 'laws.FnExactChoices', WHERE WHAT IT READS IS OF BULK AT MOST 1048576: true; the input reads as it did. -/
def fnExactChoicesUptoRow : OpenClaim := { program := "ytepiioegiicebaa", sum := "a3e4a3514e0ea70da74d8727b4b399b45fdf41b9d9f2310d2ab7efd9b25dbd3b", func := "loop.example/g01339/laws.FnExactChoices", spec := "fnExactChoices", apart := false, narrowed := true }
def FnExactChoicesUptoSaid : Prop := fnExactChoicesUptoRow.holds Try.pinned (OpenSpec.upto fnExactChoicesSpec)

/-- 'laws.FnExactSignTail', WHERE WHAT IT READS IS OF BULK AT MOST 1048576: true; the input reads as it did. -/
def fnExactSignTailUptoRow : OpenClaim := { program := "ytepiioegiicebaa", sum := "a3e4a3514e0ea70da74d8727b4b399b45fdf41b9d9f2310d2ab7efd9b25dbd3b", func := "loop.example/g01339/laws.FnExactSignTail", spec := "fnExactSignTail", apart := false, narrowed := true }
def FnExactSignTailUptoSaid : Prop := fnExactSignTailUptoRow.holds Try.pinned (OpenSpec.upto fnExactSignTailSpec)

/-- 'laws.FnExactStairTail', WHERE WHAT IT READS IS OF BULK AT MOST 1048576: true; the input reads as it did. -/
def fnExactStairTailUptoRow : OpenClaim := { program := "ytepiioegiicebaa", sum := "a3e4a3514e0ea70da74d8727b4b399b45fdf41b9d9f2310d2ab7efd9b25dbd3b", func := "loop.example/g01339/laws.FnExactStairTail", spec := "fnExactStairTail", apart := false, narrowed := true }
def FnExactStairTailUptoSaid : Prop := fnExactStairTailUptoRow.holds Try.pinned (OpenSpec.upto fnExactStairTailSpec)

/-- 'laws.FnExactSameTable', WHERE WHAT IT READS IS OF BULK AT MOST 1048576: true; the input reads as it did. -/
def fnExactSameTableUptoRow : OpenClaim := { program := "ytepiioegiicebaa", sum := "a3e4a3514e0ea70da74d8727b4b399b45fdf41b9d9f2310d2ab7efd9b25dbd3b", func := "loop.example/g01339/laws.FnExactSameTable", spec := "fnExactSameTable", apart := false, narrowed := true }
def FnExactSameTableUptoSaid : Prop := fnExactSameTableUptoRow.holds Try.pinned (OpenSpec.upto fnExactSameTableSpec)

/-- 'laws.FnExactValidTable', WHERE WHAT IT READS IS OF BULK AT MOST 1048576: true; the input reads as it did. -/
def fnExactValidTableUptoRow : OpenClaim := { program := "ytepiioegiicebaa", sum := "a3e4a3514e0ea70da74d8727b4b399b45fdf41b9d9f2310d2ab7efd9b25dbd3b", func := "loop.example/g01339/laws.FnExactValidTable", spec := "fnExactValidTable", unfollowed := true, recurses := true, apart := false, narrowed := true }
def FnExactValidTableUptoSaid : Prop := fnExactValidTableUptoRow.holds Try.pinned (OpenSpec.upto fnExactValidTableSpec)

/-- 'laws.FnExactRanksOf', WHERE WHAT IT READS IS OF BULK AT MOST 1048576: true; the input reads as it did. -/
def fnExactRanksOfUptoRow : OpenClaim := { program := "ytepiioegiicebaa", sum := "a3e4a3514e0ea70da74d8727b4b399b45fdf41b9d9f2310d2ab7efd9b25dbd3b", func := "loop.example/g01339/laws.FnExactRanksOf", spec := "fnExactRanksOf", unfollowed := true, recurses := true, apart := false, narrowed := true }
def FnExactRanksOfUptoSaid : Prop := fnExactRanksOfUptoRow.holds Try.pinned (OpenSpec.upto fnExactRanksOfSpec)

/-- 'laws.FnExactStairGap', WHERE WHAT IT READS IS OF BULK AT MOST 1048576: true; the input reads as it did. -/
def fnExactStairGapUptoRow : OpenClaim := { program := "ytepiioegiicebaa", sum := "a3e4a3514e0ea70da74d8727b4b399b45fdf41b9d9f2310d2ab7efd9b25dbd3b", func := "loop.example/g01339/laws.FnExactStairGap", spec := "fnExactStairGap", unfollowed := true, recurses := true, apart := false, narrowed := true }
def FnExactStairGapUptoSaid : Prop := fnExactStairGapUptoRow.holds Try.pinned (OpenSpec.upto fnExactStairGapSpec)

/-- 'laws.FnExactRankSum', WHERE WHAT IT READS IS OF BULK AT MOST 1048576: true; the input reads as it did. -/
def fnExactRankSumUptoRow : OpenClaim := { program := "ytepiioegiicebaa", sum := "a3e4a3514e0ea70da74d8727b4b399b45fdf41b9d9f2310d2ab7efd9b25dbd3b", func := "loop.example/g01339/laws.FnExactRankSum", spec := "fnExactRankSum", unfollowed := true, recurses := true, apart := false, narrowed := true }
def FnExactRankSumUptoSaid : Prop := fnExactRankSumUptoRow.holds Try.pinned (OpenSpec.upto fnExactRankSumSpec)

/-- 'laws.FnExactSumTail', WHERE WHAT IT READS IS OF BULK AT MOST 1048576: true; the input reads as it did. -/
def fnExactSumTailUptoRow : OpenClaim := { program := "ytepiioegiicebaa", sum := "a3e4a3514e0ea70da74d8727b4b399b45fdf41b9d9f2310d2ab7efd9b25dbd3b", func := "loop.example/g01339/laws.FnExactSumTail", spec := "fnExactSumTail", unfollowed := true, recurses := true, apart := false, narrowed := true }
def FnExactSumTailUptoSaid : Prop := fnExactSumTailUptoRow.holds Try.pinned (OpenSpec.upto fnExactSumTailSpec)

/-- 'laws.FnExactRowSums', WHERE WHAT IT READS IS OF BULK AT MOST 1048576: true; the input reads as it did. -/
def fnExactRowSumsUptoRow : OpenClaim := { program := "ytepiioegiicebaa", sum := "a3e4a3514e0ea70da74d8727b4b399b45fdf41b9d9f2310d2ab7efd9b25dbd3b", func := "loop.example/g01339/laws.FnExactRowSums", spec := "fnExactRowSums", unfollowed := true, recurses := true, apart := false, narrowed := true }
def FnExactRowSumsUptoSaid : Prop := fnExactRowSumsUptoRow.holds Try.pinned (OpenSpec.upto fnExactRowSumsSpec)

/-- 'laws.FnExactColumnSums', WHERE WHAT IT READS IS OF BULK AT MOST 1048576: true; the input reads as it did. -/
def fnExactColumnSumsUptoRow : OpenClaim := { program := "ytepiioegiicebaa", sum := "a3e4a3514e0ea70da74d8727b4b399b45fdf41b9d9f2310d2ab7efd9b25dbd3b", func := "loop.example/g01339/laws.FnExactColumnSums", spec := "fnExactColumnSums", unfollowed := true, recurses := true, apart := false, narrowed := true }
def FnExactColumnSumsUptoSaid : Prop := fnExactColumnSumsUptoRow.holds Try.pinned (OpenSpec.upto fnExactColumnSumsSpec)

end Rows
end Go.Proofs.Ytepiioegiicebaa
