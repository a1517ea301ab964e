/-
  An argument that is a share, opened.
-/
import Derived.Test.YtkohhhmllekokaaOpen
import Derived.Test.YtkohhhmllekokaaShare
import Derived.Lib.SmallJoins
namespace Go.Proofs.Ytkohhhmllekokaa
open Go.RowKit Go.WideShapes Go.ChangeShapes Go.Deep Go.Joins

section
variable {H : Type} {enc : TypeId × Value → H} {w : World} {base : Nat} {spare : Nat → Bool} {held : Bool}
set_option maxRecDepth 10000 in
theorem open_share {r : Reach} {b0 : Nat} {v : Value} {d : DataW H} {p : List MemPlace} (hv : Value.okWide Try.prog w r b0 24 v) (h : DataW.Trod enc Try.prog w base spare held 24 v d p) :
    ∃ (s0 : Value) (x0 : List Nat) (s1 : Value) (x1 : List Nat), v = shV s0 s1 ∧ Rd fV w s0 x0 ∧ x0.length ≤ 9223372036854775807 ∧ Rd fV w s1 x1 ∧ x1.length ≤ 9223372036854775807 := by
  obtain ⟨v0, v1, y0, y1, n, rfl, -, -, h0, h1⟩ := open_agg2 Try.underlying24 (by kernel_rfl) (by kernel_rfl) hv h
  obtain ⟨x0, hr0, hx0⟩ := rd_of_cell fV Try.underlying22 (by kernel_rfl) (elem_float Try.underlying25) h0
  obtain ⟨x1, hr1, hx1⟩ := rd_of_cell fV Try.underlying22 (by kernel_rfl) (elem_float Try.underlying25) h1
  exact ⟨v0, x0, v1, x1, rfl, hr0, hx0, hr1, hx1⟩
end
end Go.Proofs.Ytkohhhmllekokaa
