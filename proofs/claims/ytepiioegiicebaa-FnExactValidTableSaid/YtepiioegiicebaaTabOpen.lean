/-
  An argument that is a table, opened.
-/
import Derived.Test.YtepiioegiicebaaOpen
import Derived.Test.YtepiioegiicebaaTab
import Derived.Lib.SmallJoins
namespace Go.Proofs.Ytepiioegiicebaa
open Go.RowKit Go.WideShapes Go.ChangeShapes Go.Deep Go.Joins

section
variable {H : Type} {enc : TypeId × Value → H} {P : Program} {w : World} {base : Nat} {spare : Nat → Bool} {held : Bool}

theorem rd_of_cell {α : Type} [Inhabited α] (f : α → Value) {t e : TypeId} {v : Value} {fuel : Nat} {y : DataW H × List MemPlace} (ht : P.underlying t = some (.slice e)) (hc : P.cellsOf e = 1)
    (elem : ∀ (n : Nat) (v : Value) (y : DataW H × List MemPlace), DataW.trod enc P w base spare held n e [v] = some y → ∃ x : α, v = f x)
    (h : DataW.trod enc P w base spare held fuel t [v] = some y) : ∃ xs : List α, Rd f w v xs ∧ xs.length ≤ 9223372036854775807 := by
  rcases open_slice1 ht hc h with ⟨hcs, _⟩ | ⟨a, len', cap', m, n, V, D, Pl, hcs, _, hl, hm1, hm, _, hx⟩
  · simp at hcs
    subst hcs
    exact ⟨[], Rd.nil, by simp⟩
  · simp at hcs
    subst hcs
    have hlm : len' ≤ m := by rw [hm]; split <;> omega
    obtain ⟨X, hX⟩ := choose_lt (α := α) (n := len') (p := fun i x => V i = f x) (fun i hi => elem n _ _ (hx i (by omega)).2)
    refine ⟨(List.range len').map X, ⟨some a, cap', by simp, by simpa using hl, fun k x hk => ⟨a, rfl, ?_, ?_⟩⟩, by unfold maxLen at hm1; simp; omega⟩
    · have hkl : k < len' := by simpa using lt_of_get hk
      have := World.block_lt_of_cell? w _ (hx k (by omega)).1
      rwa [add_block] at this
    · have hkl : k < len' := by simpa using lt_of_get hk
      rw [List.getElem?_map, List.getElem?_range hkl] at hk
      simp only [Option.map_some, Option.some.injEq] at hk
      subst hk
      rw [(hx k (by omega)).1, hX k hkl]

theorem open_table {r : Reach} {b0 : Nat} {v : Value} {d : DataW H} {p : List MemPlace} (hv : Value.okWide Try.prog w r b0 36 v) (h : DataW.Trod enc Try.prog w base spare held 36 v d p) :
    ∃ r c s xs, v = tabV r c s ∧ Rd iV w s xs ∧ xs.length ≤ 9223372036854775807 := by
  obtain ⟨v0, v1, v2, y0, y1, y2, n, rfl, -, -, h0, h1, h2⟩ := open_agg3 Try.underlying36 (by kernel_rfl) (by kernel_rfl) hv h
  obtain ⟨r, rfl⟩ := elem_int Try.underlying2 n v0 y0 h0
  obtain ⟨c, rfl⟩ := elem_int Try.underlying2 n v1 y1 h1
  obtain ⟨xs, hr, hx⟩ := rd_of_cell iV Try.underlying34 (by kernel_rfl) (elem_int Try.underlying2) h2
  exact ⟨r, c, v2, xs, rfl, hr, hx⟩
end
end Go.Proofs.Ytepiioegiicebaa
