/-
  Arguments opened: a slice of elements of one cell each reads as a list.
-/
import Derived.Test.YtjajlddnhmbekaaSl
import Derived.Test.YtjajlddnhmbekaaPost
import Derived.Deep.Slices
import Derived.Carry
namespace Go.Proofs.Ytjajlddnhmbekaa
open Go.RowKit Go.WideShapes Go.ChangeShapes Go.Deep

section
variable {H : Type} {enc : TypeId × Value → H} {P : Program} {w : World} {base : Nat} {spare : Nat → Bool} {held : Bool}

theorem rd_of_trod {α : Type} [Inhabited α] (f : α → Value) {t e : TypeId} {A : Option Addr} {len cap : Nat} {d : DataW H} {ps : List MemPlace} (ht : P.underlying t = some (.slice e)) (hc : P.cellsOf e = 1)
    (elem : ∀ (n : Nat) (v : Value) (y : DataW H × List MemPlace), DataW.trod enc P w base spare held n e [v] = some y → ∃ x : α, v = f x)
    (h : DataW.Trod enc P w base spare held t (.slice A len cap) d ps) : ∃ xs : List α, Rd f w (.slice A len cap) xs := by
  obtain ⟨fuel, hf⟩ := h
  rcases open_slice1 ht hc hf with ⟨hcs, _⟩ | ⟨a, len', cap', m, n, V, D, Pl, hcs, _, hl, _, hm, _, hx⟩
  · simp [Value.cells] at hcs
    obtain ⟨rfl, rfl, rfl⟩ := hcs
    exact ⟨[], Rd.nil⟩
  · simp [Value.cells] at hcs
    obtain ⟨rfl, rfl, rfl⟩ := hcs
    have hlm : len ≤ m := by rw [hm]; split <;> omega
    obtain ⟨X, hX⟩ := choose_lt (α := α) (n := len) (p := fun i x => V i = f x) (fun i hi => elem n _ _ (hx i (by omega)).2)
    refine ⟨(List.range len).map X, some a, cap, by simp, by simpa using hl, fun k x hk => ⟨a, rfl, ?_, ?_⟩⟩
    · have hkl : k < len := by simpa using lt_of_get hk
      have := World.block_lt_of_cell? w _ (hx k (by omega)).1
      rwa [add_block] at this
    · have hkl : k < len := by simpa using lt_of_get hk
      rw [List.getElem?_map, List.getElem?_range hkl] at hk
      simp only [Option.map_some, Option.some.injEq] at hk
      subst hk
      rw [(hx k (by omega)).1, hX k hkl]

theorem elem_int {e : TypeId} {k : IntKind} (he : P.underlying e = some (.int k)) (n : Nat) (v : Value) (y : DataW H × List MemPlace) (h : DataW.trod enc P w base spare held n e [v] = some y) : ∃ x : Int, v = .int k x := by
  obtain ⟨x, hx, _⟩ := DataW.trod_int he h
  simp at hx
  exact ⟨x, hx⟩
theorem elem_bool {e : TypeId} (he : P.underlying e = some .bool) (n : Nat) (v : Value) (y : DataW H × List MemPlace) (h : DataW.trod enc P w base spare held n e [v] = some y) : ∃ x : Bool, v = .bool x := by
  obtain ⟨x, hx, _⟩ := DataW.trod_bool he h
  simp at hx
  exact ⟨x, hx⟩
theorem elem_float {e : TypeId} {k : FloatKind} (he : P.underlying e = some (.float k)) (n : Nat) (v : Value) (y : DataW H × List MemPlace) (h : DataW.trod enc P w base spare held n e [v] = some y) : ∃ x : Nat, v = .float k x := by
  cases n with
  | zero => simp [DataW.trod] at h
  | succ n =>
    unfold DataW.trod at h
    rw [he] at h
    cases v <;> simp at h
    case float k' b =>
      obtain ⟨⟨rfl, _⟩, _⟩ := h
      exact ⟨b, rfl⟩
theorem rd_of_cell {α : Type} [Inhabited α] (f : α → Value) {t e : TypeId} {v : Value} {fuel : Nat} {y : DataW H × List MemPlace} (ht : P.underlying t = some (.slice e)) (hc : P.cellsOf e = 1)
    (elem : ∀ (n : Nat) (v : Value) (y : DataW H × List MemPlace), DataW.trod enc P w base spare held n e [v] = some y → ∃ x : α, v = f x)
    (h : DataW.trod enc P w base spare held fuel t [v] = some y) : ∃ xs : List α, Rd f w v xs ∧ xs.length ≤ 9223372036854775807 := by
  rcases open_slice1 ht hc h with ⟨hcs, _⟩ | ⟨a, len', cap', m, n, V, D, Pl, hcs, _, hl, hm1, hm, _, hx⟩
  · simp at hcs
    subst hcs
    exact ⟨[], Rd.nil, by simp⟩
  · simp at hcs
    subst hcs
    have hlm : len' ≤ m := by rw [hm]; split <;> omega
    obtain ⟨X, hX⟩ := choose_lt (α := α) (n := len') (p := fun i x => V i = f x) (fun i hi => elem n _ _ (hx i (by omega)).2)
    refine ⟨(List.range len').map X, ⟨some a, cap', by simp, by simpa using hl, fun k x hk => ⟨a, rfl, ?_, ?_⟩⟩, by unfold maxLen at hm1; simp; omega⟩
    · have hkl : k < len' := by simpa using lt_of_get hk
      have := World.block_lt_of_cell? w _ (hx k (by omega)).1
      rwa [add_block] at this
    · have hkl : k < len' := by simpa using lt_of_get hk
      rw [List.getElem?_map, List.getElem?_range hkl] at hk
      simp only [Option.map_some, Option.some.injEq] at hk
      subst hk
      rw [(hx k (by omega)).1, hX k hkl]

end
end Go.Proofs.Ytjajlddnhmbekaa
