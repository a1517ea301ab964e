/-
  No cell of these rows narrows 'for every input' (looked for: loops, veiled, ifaces, maps, wideKeys, modest, calm, conditions, laid).
  DERIVED. THE GIVEN ROWS OF THIS SEAT. 9 by the template 'for every input the law returns true; each argument reads behind the call as it read before'; 0 by the template 'total and deterministic' (their statements: YtkohhhmllekokaaTotals.lean).
  GIVEN WITH THE SEED: the statements are not yours to turn. If you find one false, say at which input.
  Laid BY PROGRAM, IN A SANDBOX (cutbox-rows.mjs): the forced cells as the released guide's own fill.sh prints them over the translation fa085ea335d2fb47… (all of the seat's roots in one cut). By AI agents, Wed Nov 11 2026. No macro, syntax, notation, axiom, sorry.
-/
import Derived.Test.YtkohhhmllekokaaChecked
import GoSem.Claim
import GoSem.ClaimJoined
import GoSem.ClaimMapViews
import Derived.JoinedTies
import Derived.KernelRfl
namespace Go.Proofs.Ytkohhhmllekokaa
/- THE CELL 'sum', in the pinned program and in every row, IS THE sha256 OF THE DUMP (.gsa) THAT YtkohhhmllekokaaProg.lean LOADS. Nothing in Lean hashes anything: it is a label: what it is worth is what the hold of that sum in a sandbox is worth. -/
noncomputable def Try.pinned : Pinned := { name := "ytkohhhmllekokaa", sum := "fa085ea335d2fb4725a0425608f8ab9ac725112d8584d442620a2ea84a613737", checked := Try.checked }
namespace Rows
def none {H : Type} : Left H := { results := [], args := [] }

/-- 'laws.FnExactShiftShare': WHATEVER THE INPUT: true; the input reads as it did. -/
def fnExactShiftShareSpec : ChangeSpec := { name := "fnExactShiftShare", fn := fun _ => fun
  | [d1, d2, d3] => { results := [.lit (.bool true)], args := [d1, d2, d3] }
  | _ => none }
def fnExactShiftShareRow : OpenClaim := { program := "ytkohhhmllekokaa", sum := "fa085ea335d2fb4725a0425608f8ab9ac725112d8584d442620a2ea84a613737", func := "loop.example/g01339/laws.FnExactShiftShare", spec := "fnExactShiftShare", unfollowed := true, recurses := true, apart := false }
def FnExactShiftShareSaid : Prop := fnExactShiftShareRow.holds Try.pinned (OpenSpec.ofChange fnExactShiftShareSpec)

/-- ITS FALSE NEIGHBOUR: 'it returns false'. Refute it at one input. -/
def fnExactShiftShareWrong : ChangeSpec := { name := "fnExactShiftShare", fn := fun _ => fun
  | [d1, d2, d3] => { results := [.lit (.bool false)], args := [d1, d2, d3] }
  | _ => none }
def FnExactShiftShareWrongFalsely : Prop := fnExactShiftShareRow.holds Try.pinned (OpenSpec.ofChange fnExactShiftShareWrong)

/-- 'laws.FnExactAddShares': WHATEVER THE INPUT: true; the input reads as it did. -/
def fnExactAddSharesSpec : ChangeSpec := { name := "fnExactAddShares", fn := fun _ => fun
  | [d1, d2] => { results := [.lit (.bool true)], args := [d1, d2] }
  | _ => none }
def fnExactAddSharesRow : OpenClaim := { program := "ytkohhhmllekokaa", sum := "fa085ea335d2fb4725a0425608f8ab9ac725112d8584d442620a2ea84a613737", func := "loop.example/g01339/laws.FnExactAddShares", spec := "fnExactAddShares", unfollowed := true, recurses := true, apart := false }
def FnExactAddSharesSaid : Prop := fnExactAddSharesRow.holds Try.pinned (OpenSpec.ofChange fnExactAddSharesSpec)

/-- ITS FALSE NEIGHBOUR: 'it returns false'. Refute it at one input. -/
def fnExactAddSharesWrong : ChangeSpec := { name := "fnExactAddShares", fn := fun _ => fun
  | [d1, d2] => { results := [.lit (.bool false)], args := [d1, d2] }
  | _ => none }
def FnExactAddSharesWrongFalsely : Prop := fnExactAddSharesRow.holds Try.pinned (OpenSpec.ofChange fnExactAddSharesWrong)

/-- 'laws.FnExactPlainShare': WHATEVER THE INPUT: true; the input reads as it did. -/
def fnExactPlainShareSpec : ChangeSpec := { name := "fnExactPlainShare", fn := fun _ => fun
  | [d] => { results := [.lit (.bool true)], args := [d] }
  | _ => none }
def fnExactPlainShareRow : OpenClaim := { program := "ytkohhhmllekokaa", sum := "fa085ea335d2fb4725a0425608f8ab9ac725112d8584d442620a2ea84a613737", func := "loop.example/g01339/laws.FnExactPlainShare", spec := "fnExactPlainShare", unfollowed := true, recurses := true, apart := false }
def FnExactPlainShareSaid : Prop := fnExactPlainShareRow.holds Try.pinned (OpenSpec.ofChange fnExactPlainShareSpec)

/-- ITS FALSE NEIGHBOUR: 'it returns false'. Refute it at one input. -/
def fnExactPlainShareWrong : ChangeSpec := { name := "fnExactPlainShare", fn := fun _ => fun
  | [d] => { results := [.lit (.bool false)], args := [d] }
  | _ => none }
def FnExactPlainShareWrongFalsely : Prop := fnExactPlainShareRow.holds Try.pinned (OpenSpec.ofChange fnExactPlainShareWrong)

/-- 'laws.FnExactCountShare': WHATEVER THE INPUT: true; the input reads as it did. -/
def fnExactCountShareSpec : ChangeSpec := { name := "fnExactCountShare", fn := fun _ => fun
  | [d1, d2] => { results := [.lit (.bool true)], args := [d1, d2] }
  | _ => none }
def fnExactCountShareRow : OpenClaim := { program := "ytkohhhmllekokaa", sum := "fa085ea335d2fb4725a0425608f8ab9ac725112d8584d442620a2ea84a613737", func := "loop.example/g01339/laws.FnExactCountShare", spec := "fnExactCountShare", unfollowed := true, recurses := true, apart := false }
def FnExactCountShareSaid : Prop := fnExactCountShareRow.holds Try.pinned (OpenSpec.ofChange fnExactCountShareSpec)

/-- ITS FALSE NEIGHBOUR: 'it returns false'. Refute it at one input. -/
def fnExactCountShareWrong : ChangeSpec := { name := "fnExactCountShare", fn := fun _ => fun
  | [d1, d2] => { results := [.lit (.bool false)], args := [d1, d2] }
  | _ => none }
def FnExactCountShareWrongFalsely : Prop := fnExactCountShareRow.holds Try.pinned (OpenSpec.ofChange fnExactCountShareWrong)

/-- 'laws.FnExactGreaterShare': WHATEVER THE INPUT: true; the input reads as it did. -/
def fnExactGreaterShareSpec : ChangeSpec := { name := "fnExactGreaterShare", fn := fun _ => fun
  | [d1, d2] => { results := [.lit (.bool true)], args := [d1, d2] }
  | _ => none }
def fnExactGreaterShareRow : OpenClaim := { program := "ytkohhhmllekokaa", sum := "fa085ea335d2fb4725a0425608f8ab9ac725112d8584d442620a2ea84a613737", func := "loop.example/g01339/laws.FnExactGreaterShare", spec := "fnExactGreaterShare", unfollowed := true, recurses := true, apart := false }
def FnExactGreaterShareSaid : Prop := fnExactGreaterShareRow.holds Try.pinned (OpenSpec.ofChange fnExactGreaterShareSpec)

/-- ITS FALSE NEIGHBOUR: 'it returns false'. Refute it at one input. -/
def fnExactGreaterShareWrong : ChangeSpec := { name := "fnExactGreaterShare", fn := fun _ => fun
  | [d1, d2] => { results := [.lit (.bool false)], args := [d1, d2] }
  | _ => none }
def FnExactGreaterShareWrongFalsely : Prop := fnExactGreaterShareRow.holds Try.pinned (OpenSpec.ofChange fnExactGreaterShareWrong)

/-- 'laws.FnExactMixShares': WHATEVER THE INPUT: true; the input reads as it did. -/
def fnExactMixSharesSpec : ChangeSpec := { name := "fnExactMixShares", fn := fun _ => fun
  | [d1, d2, d3] => { results := [.lit (.bool true)], args := [d1, d2, d3] }
  | _ => none }
def fnExactMixSharesRow : OpenClaim := { program := "ytkohhhmllekokaa", sum := "fa085ea335d2fb4725a0425608f8ab9ac725112d8584d442620a2ea84a613737", func := "loop.example/g01339/laws.FnExactMixShares", spec := "fnExactMixShares", unfollowed := true, recurses := true, apart := false }
def FnExactMixSharesSaid : Prop := fnExactMixSharesRow.holds Try.pinned (OpenSpec.ofChange fnExactMixSharesSpec)

/-- ITS FALSE NEIGHBOUR: 'it returns false'. Refute it at one input. -/
def fnExactMixSharesWrong : ChangeSpec := { name := "fnExactMixShares", fn := fun _ => fun
  | [d1, d2, d3] => { results := [.lit (.bool false)], args := [d1, d2, d3] }
  | _ => none }
def FnExactMixSharesWrongFalsely : Prop := fnExactMixSharesRow.holds Try.pinned (OpenSpec.ofChange fnExactMixSharesWrong)

/-- 'laws.FnExactSumShare': WHATEVER THE INPUT: true; the input reads as it did. -/
def fnExactSumShareSpec : ChangeSpec := { name := "fnExactSumShare", fn := fun _ => fun
  | [d1, d2] => { results := [.lit (.bool true)], args := [d1, d2] }
  | _ => none }
def fnExactSumShareRow : OpenClaim := { program := "ytkohhhmllekokaa", sum := "fa085ea335d2fb4725a0425608f8ab9ac725112d8584d442620a2ea84a613737", func := "loop.example/g01339/laws.FnExactSumShare", spec := "fnExactSumShare", unfollowed := true, recurses := true, apart := false }
def FnExactSumShareSaid : Prop := fnExactSumShareRow.holds Try.pinned (OpenSpec.ofChange fnExactSumShareSpec)

/-- ITS FALSE NEIGHBOUR: 'it returns false'. Refute it at one input. -/
def fnExactSumShareWrong : ChangeSpec := { name := "fnExactSumShare", fn := fun _ => fun
  | [d1, d2] => { results := [.lit (.bool false)], args := [d1, d2] }
  | _ => none }
def FnExactSumShareWrongFalsely : Prop := fnExactSumShareRow.holds Try.pinned (OpenSpec.ofChange fnExactSumShareWrong)

/-- 'laws.FnExactStepsApart': WHATEVER THE INPUT: true; the input reads as it did. -/
def fnExactStepsApartSpec : ChangeSpec := { name := "fnExactStepsApart", fn := fun _ => fun
  | [d1, d2] => { results := [.lit (.bool true)], args := [d1, d2] }
  | _ => none }
def fnExactStepsApartRow : OpenClaim := { program := "ytkohhhmllekokaa", sum := "fa085ea335d2fb4725a0425608f8ab9ac725112d8584d442620a2ea84a613737", func := "loop.example/g01339/laws.FnExactStepsApart", spec := "fnExactStepsApart", unfollowed := true, recurses := true, apart := false }
def FnExactStepsApartSaid : Prop := fnExactStepsApartRow.holds Try.pinned (OpenSpec.ofChange fnExactStepsApartSpec)

/-- ITS FALSE NEIGHBOUR: 'it returns false'. Refute it at one input. -/
def fnExactStepsApartWrong : ChangeSpec := { name := "fnExactStepsApart", fn := fun _ => fun
  | [d1, d2] => { results := [.lit (.bool false)], args := [d1, d2] }
  | _ => none }
def FnExactStepsApartWrongFalsely : Prop := fnExactStepsApartRow.holds Try.pinned (OpenSpec.ofChange fnExactStepsApartWrong)

/-- 'laws.FnExactApartShares': WHATEVER THE INPUT: true; the input reads as it did. -/
def fnExactApartSharesSpec : ChangeSpec := { name := "fnExactApartShares", fn := fun _ => fun
  | [d1, d2] => { results := [.lit (.bool true)], args := [d1, d2] }
  | _ => none }
def fnExactApartSharesRow : OpenClaim := { program := "ytkohhhmllekokaa", sum := "fa085ea335d2fb4725a0425608f8ab9ac725112d8584d442620a2ea84a613737", func := "loop.example/g01339/laws.FnExactApartShares", spec := "fnExactApartShares", unfollowed := true, recurses := true, apart := false }
def FnExactApartSharesSaid : Prop := fnExactApartSharesRow.holds Try.pinned (OpenSpec.ofChange fnExactApartSharesSpec)

/-- ITS FALSE NEIGHBOUR: 'it returns false'. Refute it at one input. -/
def fnExactApartSharesWrong : ChangeSpec := { name := "fnExactApartShares", fn := fun _ => fun
  | [d1, d2] => { results := [.lit (.bool false)], args := [d1, d2] }
  | _ => none }
def FnExactApartSharesWrongFalsely : Prop := fnExactApartSharesRow.holds Try.pinned (OpenSpec.ofChange fnExactApartSharesWrong)

/- THE SECOND FORM. 'bulk': how many values and letters a reading holds, each counted each time it is reached (what is shared counts as often as it is met; a slice's spare places count too). A statement '..UptoSaid' is the law's where the arguments, and the package variables that the reading takes, are together of bulk at most 1048576: NARROWER than '..Said'. Prove '..Said' where nothing that the law and all that it calls make is longer than what came in: it says more and counts as full. Else prove '..UptoSaid'. A law counts once. -/
mutual
def uptoBulk {H : Type} : DataW H → Nat
  | .lit (.string bytes) => bytes.length + 1
  | .lit _ => 1
  | .nil => 1
  | .ptr d => uptoBulk d + 1
  | .slice elems spare => uptoBulkAll elems + uptoBulkAll spare + 1
  | .agg parts => uptoBulkAll parts + 1
  | .iface _ d => uptoBulk d + 1
  | .map entries => uptoBulkEntries entries + 1
  | .held _ => 1
def uptoBulkAll {H : Type} : List (DataW H) → Nat
  | [] => 0
  | d :: r => uptoBulk d + uptoBulkAll r
def uptoBulkEntries {H : Type} : List (Lit × DataW H) → Nat
  | [] => 0
  | x :: r => uptoBulkEntry x + uptoBulkEntries r
def uptoBulkEntry {H : Type} : Lit × DataW H → Nat
  | (.string bytes, d) => bytes.length + uptoBulk d + 1
  | (_, d) => uptoBulk d + 1
 end
def uptoSmall : (H : Type) → List (DataW H) → Bool := fun _ ds => decide (uptoBulkAll ds ≤ 1048576)
def OpenSpec.upto (s : _root_.Go.ChangeSpec) : _root_.Go.OpenSpec := { _root_.Go.OpenSpec.ofChange s with cond := some uptoSmall }

/-- 'laws.FnExactShiftShare', WHERE WHAT IT READS IS OF BULK AT MOST 1048576: true; the input reads as it did. -/
def fnExactShiftShareUptoRow : OpenClaim := { program := "ytkohhhmllekokaa", sum := "fa085ea335d2fb4725a0425608f8ab9ac725112d8584d442620a2ea84a613737", func := "loop.example/g01339/laws.FnExactShiftShare", spec := "fnExactShiftShare", unfollowed := true, recurses := true, apart := false, narrowed := true }
def FnExactShiftShareUptoSaid : Prop := fnExactShiftShareUptoRow.holds Try.pinned (OpenSpec.upto fnExactShiftShareSpec)

/-- 'laws.FnExactAddShares', WHERE WHAT IT READS IS OF BULK AT MOST 1048576: true; the input reads as it did. -/
def fnExactAddSharesUptoRow : OpenClaim := { program := "ytkohhhmllekokaa", sum := "fa085ea335d2fb4725a0425608f8ab9ac725112d8584d442620a2ea84a613737", func := "loop.example/g01339/laws.FnExactAddShares", spec := "fnExactAddShares", unfollowed := true, recurses := true, apart := false, narrowed := true }
def FnExactAddSharesUptoSaid : Prop := fnExactAddSharesUptoRow.holds Try.pinned (OpenSpec.upto fnExactAddSharesSpec)

/-- 'laws.FnExactPlainShare', WHERE WHAT IT READS IS OF BULK AT MOST 1048576: true; the input reads as it did. -/
def fnExactPlainShareUptoRow : OpenClaim := { program := "ytkohhhmllekokaa", sum := "fa085ea335d2fb4725a0425608f8ab9ac725112d8584d442620a2ea84a613737", func := "loop.example/g01339/laws.FnExactPlainShare", spec := "fnExactPlainShare", unfollowed := true, recurses := true, apart := false, narrowed := true }
def FnExactPlainShareUptoSaid : Prop := fnExactPlainShareUptoRow.holds Try.pinned (OpenSpec.upto fnExactPlainShareSpec)

/-- 'laws.FnExactCountShare', WHERE WHAT IT READS IS OF BULK AT MOST 1048576: true; the input reads as it did. -/
def fnExactCountShareUptoRow : OpenClaim := { program := "ytkohhhmllekokaa", sum := "fa085ea335d2fb4725a0425608f8ab9ac725112d8584d442620a2ea84a613737", func := "loop.example/g01339/laws.FnExactCountShare", spec := "fnExactCountShare", unfollowed := true, recurses := true, apart := false, narrowed := true }
def FnExactCountShareUptoSaid : Prop := fnExactCountShareUptoRow.holds Try.pinned (OpenSpec.upto fnExactCountShareSpec)

/-- 'laws.FnExactGreaterShare', WHERE WHAT IT READS IS OF BULK AT MOST 1048576: true; the input reads as it did. -/
def fnExactGreaterShareUptoRow : OpenClaim := { program := "ytkohhhmllekokaa", sum := "fa085ea335d2fb4725a0425608f8ab9ac725112d8584d442620a2ea84a613737", func := "loop.example/g01339/laws.FnExactGreaterShare", spec := "fnExactGreaterShare", unfollowed := true, recurses := true, apart := false, narrowed := true }
def FnExactGreaterShareUptoSaid : Prop := fnExactGreaterShareUptoRow.holds Try.pinned (OpenSpec.upto fnExactGreaterShareSpec)

/-- 'laws.FnExactMixShares', WHERE WHAT IT READS IS OF BULK AT MOST 1048576: true; the input reads as it did. -/
def fnExactMixSharesUptoRow : OpenClaim := { program := "ytkohhhmllekokaa", sum := "fa085ea335d2fb4725a0425608f8ab9ac725112d8584d442620a2ea84a613737", func := "loop.example/g01339/laws.FnExactMixShares", spec := "fnExactMixShares", unfollowed := true, recurses := true, apart := false, narrowed := true }
def FnExactMixSharesUptoSaid : Prop := fnExactMixSharesUptoRow.holds Try.pinned (OpenSpec.upto fnExactMixSharesSpec)

/-- 'laws.FnExactSumShare', WHERE WHAT IT READS IS OF BULK AT MOST 1048576: true; the input reads as it did. -/
def fnExactSumShareUptoRow : OpenClaim := { program := "ytkohhhmllekokaa", sum := "fa085ea335d2fb4725a0425608f8ab9ac725112d8584d442620a2ea84a613737", func := "loop.example/g01339/laws.FnExactSumShare", spec := "fnExactSumShare", unfollowed := true, recurses := true, apart := false, narrowed := true }
def FnExactSumShareUptoSaid : Prop := fnExactSumShareUptoRow.holds Try.pinned (OpenSpec.upto fnExactSumShareSpec)

/-- 'laws.FnExactStepsApart', WHERE WHAT IT READS IS OF BULK AT MOST 1048576: true; the input reads as it did. -/
def fnExactStepsApartUptoRow : OpenClaim := { program := "ytkohhhmllekokaa", sum := "fa085ea335d2fb4725a0425608f8ab9ac725112d8584d442620a2ea84a613737", func := "loop.example/g01339/laws.FnExactStepsApart", spec := "fnExactStepsApart", unfollowed := true, recurses := true, apart := false, narrowed := true }
def FnExactStepsApartUptoSaid : Prop := fnExactStepsApartUptoRow.holds Try.pinned (OpenSpec.upto fnExactStepsApartSpec)

/-- 'laws.FnExactApartShares', WHERE WHAT IT READS IS OF BULK AT MOST 1048576: true; the input reads as it did. -/
def fnExactApartSharesUptoRow : OpenClaim := { program := "ytkohhhmllekokaa", sum := "fa085ea335d2fb4725a0425608f8ab9ac725112d8584d442620a2ea84a613737", func := "loop.example/g01339/laws.FnExactApartShares", spec := "fnExactApartShares", unfollowed := true, recurses := true, apart := false, narrowed := true }
def FnExactApartSharesUptoSaid : Prop := fnExactApartSharesUptoRow.holds Try.pinned (OpenSpec.upto fnExactApartSharesSpec)

end Rows
end Go.Proofs.Ytkohhhmllekokaa
