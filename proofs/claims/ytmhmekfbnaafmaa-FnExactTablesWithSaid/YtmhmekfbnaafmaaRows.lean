/-
  No cell of these rows narrows 'for every input' (looked for: loops, veiled, ifaces, maps, wideKeys, modest, calm, conditions, laid).
  DERIVED. THE GIVEN ROWS OF THIS SEAT. 5 by the template 'for every input the law returns true; each argument reads behind the call as it read before'; 0 by the template 'total and deterministic' (their statements: YtmhmekfbnaafmaaTotals.lean).
  GIVEN WITH THE SEED: the statements are not yours to turn. If you find one false, say at which input.
  Laid BY PROGRAM, IN A SANDBOX (cutbox-rows.mjs): the forced cells as the released guide's own fill.sh prints them over the translation 8134ac88dcb79478… (all of the seat's roots in one cut). By AI agents, Wed Nov 11 2026. No macro, syntax, notation, axiom, sorry.
-/
import Derived.Test.YtmhmekfbnaafmaaChecked
import GoSem.Claim
import GoSem.ClaimJoined
import GoSem.ClaimMapViews
import Derived.JoinedTies
import Derived.KernelRfl
namespace Go.Proofs.Ytmhmekfbnaafmaa
/- THE CELL 'sum', in the pinned program and in every row, IS THE sha256 OF THE DUMP (.gsa) THAT YtmhmekfbnaafmaaProg.lean LOADS. Nothing in Lean hashes anything: it is a label: what it is worth is what the hold of that sum in a sandbox is worth. -/
noncomputable def Try.pinned : Pinned := { name := "ytmhmekfbnaafmaa", sum := "8134ac88dcb79478e8f7f980ed61d8c521515cd377f28a7c292f9d00c19eb6be", checked := Try.checked }
namespace Rows
def none {H : Type} : Left H := { results := [], args := [] }

/-- 'laws.FnExactColumnSums': WHATEVER THE INPUT: true; the input reads as it did. -/
def fnExactColumnSumsSpec : ChangeSpec := { name := "fnExactColumnSums", fn := fun _ => fun
  | [d] => { results := [.lit (.bool true)], args := [d] }
  | _ => none }
def fnExactColumnSumsRow : OpenClaim := { program := "ytmhmekfbnaafmaa", sum := "8134ac88dcb79478e8f7f980ed61d8c521515cd377f28a7c292f9d00c19eb6be", func := "loop.example/g01339/laws.FnExactColumnSums", spec := "fnExactColumnSums", unfollowed := true, recurses := true, plainKeys := false, apart := false }
def FnExactColumnSumsSaid : Prop := fnExactColumnSumsRow.holds Try.pinned (OpenSpec.ofChange fnExactColumnSumsSpec)

/-- ITS FALSE NEIGHBOUR: 'it returns false'. Refute it at one input. -/
def fnExactColumnSumsWrong : ChangeSpec := { name := "fnExactColumnSums", fn := fun _ => fun
  | [d] => { results := [.lit (.bool false)], args := [d] }
  | _ => none }
def FnExactColumnSumsWrongFalsely : Prop := fnExactColumnSumsRow.holds Try.pinned (OpenSpec.ofChange fnExactColumnSumsWrong)

/-- 'laws.FnExactRowSums': WHATEVER THE INPUT: true; the input reads as it did. -/
def fnExactRowSumsSpec : ChangeSpec := { name := "fnExactRowSums", fn := fun _ => fun
  | [d] => { results := [.lit (.bool true)], args := [d] }
  | _ => none }
def fnExactRowSumsRow : OpenClaim := { program := "ytmhmekfbnaafmaa", sum := "8134ac88dcb79478e8f7f980ed61d8c521515cd377f28a7c292f9d00c19eb6be", func := "loop.example/g01339/laws.FnExactRowSums", spec := "fnExactRowSums", unfollowed := true, recurses := true, plainKeys := false, apart := false }
def FnExactRowSumsSaid : Prop := fnExactRowSumsRow.holds Try.pinned (OpenSpec.ofChange fnExactRowSumsSpec)

/-- ITS FALSE NEIGHBOUR: 'it returns false'. Refute it at one input. -/
def fnExactRowSumsWrong : ChangeSpec := { name := "fnExactRowSums", fn := fun _ => fun
  | [d] => { results := [.lit (.bool false)], args := [d] }
  | _ => none }
def FnExactRowSumsWrongFalsely : Prop := fnExactRowSumsRow.holds Try.pinned (OpenSpec.ofChange fnExactRowSumsWrong)

/-- 'laws.FnExactSumTail': WHATEVER THE INPUT: true; the input reads as it did. -/
def fnExactSumTailSpec : ChangeSpec := { name := "fnExactSumTail", fn := fun _ => fun
  | [d1, d2] => { results := [.lit (.bool true)], args := [d1, d2] }
  | _ => none }
def fnExactSumTailRow : OpenClaim := { program := "ytmhmekfbnaafmaa", sum := "8134ac88dcb79478e8f7f980ed61d8c521515cd377f28a7c292f9d00c19eb6be", func := "loop.example/g01339/laws.FnExactSumTail", spec := "fnExactSumTail", unfollowed := true, recurses := true, plainKeys := false, apart := false }
def FnExactSumTailSaid : Prop := fnExactSumTailRow.holds Try.pinned (OpenSpec.ofChange fnExactSumTailSpec)

/-- ITS FALSE NEIGHBOUR: 'it returns false'. Refute it at one input. -/
def fnExactSumTailWrong : ChangeSpec := { name := "fnExactSumTail", fn := fun _ => fun
  | [d1, d2] => { results := [.lit (.bool false)], args := [d1, d2] }
  | _ => none }
def FnExactSumTailWrongFalsely : Prop := fnExactSumTailRow.holds Try.pinned (OpenSpec.ofChange fnExactSumTailWrong)

/-- 'laws.FnExactSignedTail': WHATEVER THE INPUT: true; the input reads as it did. -/
def fnExactSignedTailSpec : ChangeSpec := { name := "fnExactSignedTail", fn := fun _ => fun
  | [d] => { results := [.lit (.bool true)], args := [d] }
  | _ => none }
def fnExactSignedTailRow : OpenClaim := { program := "ytmhmekfbnaafmaa", sum := "8134ac88dcb79478e8f7f980ed61d8c521515cd377f28a7c292f9d00c19eb6be", func := "loop.example/g01339/laws.FnExactSignedTail", spec := "fnExactSignedTail", unfollowed := true, recurses := true, plainKeys := false, apart := false }
def FnExactSignedTailSaid : Prop := fnExactSignedTailRow.holds Try.pinned (OpenSpec.ofChange fnExactSignedTailSpec)

/-- ITS FALSE NEIGHBOUR: 'it returns false'. Refute it at one input. -/
def fnExactSignedTailWrong : ChangeSpec := { name := "fnExactSignedTail", fn := fun _ => fun
  | [d] => { results := [.lit (.bool false)], args := [d] }
  | _ => none }
def FnExactSignedTailWrongFalsely : Prop := fnExactSignedTailRow.holds Try.pinned (OpenSpec.ofChange fnExactSignedTailWrong)

/-- 'laws.FnExactTablesWith': WHATEVER THE INPUT: true; the input reads as it did. -/
def fnExactTablesWithSpec : ChangeSpec := { name := "fnExactTablesWith", fn := fun _ => fun
  | [d1, d2] => { results := [.lit (.bool true)], args := [d1, d2] }
  | _ => none }
def fnExactTablesWithRow : OpenClaim := { program := "ytmhmekfbnaafmaa", sum := "8134ac88dcb79478e8f7f980ed61d8c521515cd377f28a7c292f9d00c19eb6be", func := "loop.example/g01339/laws.FnExactTablesWith", spec := "fnExactTablesWith", unfollowed := true, recurses := true, plainKeys := false, apart := false }
def FnExactTablesWithSaid : Prop := fnExactTablesWithRow.holds Try.pinned (OpenSpec.ofChange fnExactTablesWithSpec)

/-- ITS FALSE NEIGHBOUR: 'it returns false'. Refute it at one input. -/
def fnExactTablesWithWrong : ChangeSpec := { name := "fnExactTablesWith", fn := fun _ => fun
  | [d1, d2] => { results := [.lit (.bool false)], args := [d1, d2] }
  | _ => none }
def FnExactTablesWithWrongFalsely : Prop := fnExactTablesWithRow.holds Try.pinned (OpenSpec.ofChange fnExactTablesWithWrong)

/- THE SECOND FORM. 'bulk': how many values and letters a reading holds, each counted each time it is reached (what is shared counts as often as it is met; a slice's spare places count too). A statement '..UptoSaid' is the law's where the arguments, and the package variables that the reading takes, are together of bulk at most 1048576: NARROWER than '..Said'. Prove '..Said' where nothing that the law and all that it calls make is longer than what came in: it says more and counts as full. Else prove '..UptoSaid'. A law counts once. -/
mutual
def uptoBulk {H : Type} : DataW H → Nat
  | .lit (.string bytes) => bytes.length + 1
  | .lit _ => 1
  | .nil => 1
  | .ptr d => uptoBulk d + 1
  | .slice elems spare => uptoBulkAll elems + uptoBulkAll spare + 1
  | .agg parts => uptoBulkAll parts + 1
  | .iface _ d => uptoBulk d + 1
  | .map entries => uptoBulkEntries entries + 1
  | .held _ => 1
def uptoBulkAll {H : Type} : List (DataW H) → Nat
  | [] => 0
  | d :: r => uptoBulk d + uptoBulkAll r
def uptoBulkEntries {H : Type} : List (Lit × DataW H) → Nat
  | [] => 0
  | x :: r => uptoBulkEntry x + uptoBulkEntries r
def uptoBulkEntry {H : Type} : Lit × DataW H → Nat
  | (.string bytes, d) => bytes.length + uptoBulk d + 1
  | (_, d) => uptoBulk d + 1
 end
def uptoSmall : (H : Type) → List (DataW H) → Bool := fun _ ds => decide (uptoBulkAll ds ≤ 1048576)
def OpenSpec.upto (s : _root_.Go.ChangeSpec) : _root_.Go.OpenSpec := { _root_.Go.OpenSpec.ofChange s with cond := some uptoSmall }

/-- 'laws.FnExactColumnSums', WHERE WHAT IT READS IS OF BULK AT MOST 1048576: true; the input reads as it did. -/
def fnExactColumnSumsUptoRow : OpenClaim := { program := "ytmhmekfbnaafmaa", sum := "8134ac88dcb79478e8f7f980ed61d8c521515cd377f28a7c292f9d00c19eb6be", func := "loop.example/g01339/laws.FnExactColumnSums", spec := "fnExactColumnSums", unfollowed := true, recurses := true, plainKeys := false, apart := false, narrowed := true }
def FnExactColumnSumsUptoSaid : Prop := fnExactColumnSumsUptoRow.holds Try.pinned (OpenSpec.upto fnExactColumnSumsSpec)

/-- 'laws.FnExactRowSums', WHERE WHAT IT READS IS OF BULK AT MOST 1048576: true; the input reads as it did. -/
def fnExactRowSumsUptoRow : OpenClaim := { program := "ytmhmekfbnaafmaa", sum := "8134ac88dcb79478e8f7f980ed61d8c521515cd377f28a7c292f9d00c19eb6be", func := "loop.example/g01339/laws.FnExactRowSums", spec := "fnExactRowSums", unfollowed := true, recurses := true, plainKeys := false, apart := false, narrowed := true }
def FnExactRowSumsUptoSaid : Prop := fnExactRowSumsUptoRow.holds Try.pinned (OpenSpec.upto fnExactRowSumsSpec)

/-- 'laws.FnExactSumTail', WHERE WHAT IT READS IS OF BULK AT MOST 1048576: true; the input reads as it did. -/
def fnExactSumTailUptoRow : OpenClaim := { program := "ytmhmekfbnaafmaa", sum := "8134ac88dcb79478e8f7f980ed61d8c521515cd377f28a7c292f9d00c19eb6be", func := "loop.example/g01339/laws.FnExactSumTail", spec := "fnExactSumTail", unfollowed := true, recurses := true, plainKeys := false, apart := false, narrowed := true }
def FnExactSumTailUptoSaid : Prop := fnExactSumTailUptoRow.holds Try.pinned (OpenSpec.upto fnExactSumTailSpec)

/-- 'laws.FnExactSignedTail', WHERE WHAT IT READS IS OF BULK AT MOST 1048576: true; the input reads as it did. -/
def fnExactSignedTailUptoRow : OpenClaim := { program := "ytmhmekfbnaafmaa", sum := "8134ac88dcb79478e8f7f980ed61d8c521515cd377f28a7c292f9d00c19eb6be", func := "loop.example/g01339/laws.FnExactSignedTail", spec := "fnExactSignedTail", unfollowed := true, recurses := true, plainKeys := false, apart := false, narrowed := true }
def FnExactSignedTailUptoSaid : Prop := fnExactSignedTailUptoRow.holds Try.pinned (OpenSpec.upto fnExactSignedTailSpec)

/-- 'laws.FnExactTablesWith', WHERE WHAT IT READS IS OF BULK AT MOST 1048576: true; the input reads as it did. -/
def fnExactTablesWithUptoRow : OpenClaim := { program := "ytmhmekfbnaafmaa", sum := "8134ac88dcb79478e8f7f980ed61d8c521515cd377f28a7c292f9d00c19eb6be", func := "loop.example/g01339/laws.FnExactTablesWith", spec := "fnExactTablesWith", unfollowed := true, recurses := true, plainKeys := false, apart := false, narrowed := true }
def FnExactTablesWithUptoSaid : Prop := fnExactTablesWithUptoRow.holds Try.pinned (OpenSpec.upto fnExactTablesWithSpec)

end Rows
end Go.Proofs.Ytmhmekfbnaafmaa
