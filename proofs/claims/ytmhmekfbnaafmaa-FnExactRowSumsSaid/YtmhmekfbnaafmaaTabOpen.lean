/-
  An argument that is a table, opened.
-/
import Derived.Test.YtmhmekfbnaafmaaOpen
import Derived.Test.YtmhmekfbnaafmaaTab
import Derived.Lib.SmallJoins
namespace Go.Proofs.Ytmhmekfbnaafmaa
open Go.RowKit Go.WideShapes Go.ChangeShapes Go.Deep Go.Joins

section
variable {H : Type} {enc : TypeId × Value → H} {P : Program} {w : World} {base : Nat} {spare : Nat → Bool} {held : Bool}

theorem open_table {r : Reach} {b0 : Nat} {v : Value} {d : DataW H} {p : List MemPlace} (hv : Value.okWide Try.prog w r b0 24 v) (h : DataW.Trod enc Try.prog w base spare held 24 v d p) :
    ∃ r c s xs, v = tabV r c s ∧ Rd iV w s xs ∧ xs.length ≤ 9223372036854775807 := by
  obtain ⟨v0, v1, v2, y0, y1, y2, n, rfl, -, -, h0, h1, h2⟩ := open_agg3 Try.underlying24 (by kernel_rfl) (by kernel_rfl) hv h
  obtain ⟨r, rfl⟩ := elem_int Try.underlying2 n v0 y0 h0
  obtain ⟨c, rfl⟩ := elem_int Try.underlying2 n v1 y1 h1
  obtain ⟨xs, hr, hx⟩ := rd_of_cell iV Try.underlying22 (by kernel_rfl) (elem_int Try.underlying2) h2
  exact ⟨r, c, v2, xs, rfl, hr, hx⟩
end
end Go.Proofs.Ytmhmekfbnaafmaa
