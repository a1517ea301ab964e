/-
  An argument that is a mixture, opened.
-/
import Derived.Test.YtimpabceellihaaOpen
import Derived.Test.YtimpabceellihaaMixture
import Derived.Lib.SmallJoins
namespace Go.Proofs.Ytimpabceellihaa
open Go.RowKit Go.WideShapes Go.ChangeShapes Go.Deep Go.Joins

section
variable {H : Type} {enc : TypeId × Value → H} {w : World} {base : Nat} {spare : Nat → Bool} {held : Bool}
set_option maxRecDepth 10000 in
theorem open_mixture {r : Reach} {b0 : Nat} {v : Value} {d : DataW H} {p : List MemPlace} (hv : Value.okWide Try.prog w r b0 24 v) (h : DataW.Trod enc Try.prog w base spare held 24 v d p) :
    ∃ (s0 : Value) (x0 : List Nat) (s1 : Value) (x1 : List Nat) (s2 : Value) (x2 : List Nat), v = mxV s0 s1 s2 ∧ Rd fV w s0 x0 ∧ x0.length ≤ 9223372036854775807 ∧ Rd fV w s1 x1 ∧ x1.length ≤ 9223372036854775807 ∧ Rd fV w s2 x2 ∧ x2.length ≤ 9223372036854775807 := by
  obtain ⟨v0, v1, v2, y0, y1, y2, n, rfl, -, -, h0, h1, h2⟩ := open_agg3 Try.underlying24 (by kernel_rfl) (by kernel_rfl) hv h
  obtain ⟨x0, hr0, hx0⟩ := rd_of_cell fV Try.underlying22 (by kernel_rfl) (elem_float Try.underlying39) h0
  obtain ⟨x1, hr1, hx1⟩ := rd_of_cell fV Try.underlying22 (by kernel_rfl) (elem_float Try.underlying39) h1
  obtain ⟨x2, hr2, hx2⟩ := rd_of_cell fV Try.underlying22 (by kernel_rfl) (elem_float Try.underlying39) h2
  exact ⟨v0, x0, v1, x1, v2, x2, rfl, hr0, hx0, hr1, hx1, hr2, hx2⟩
end
end Go.Proofs.Ytimpabceellihaa
