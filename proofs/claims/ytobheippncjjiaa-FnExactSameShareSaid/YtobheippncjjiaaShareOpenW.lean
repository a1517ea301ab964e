/-
  An argument that is a share, opened; its numbers are words of 32 bits.
-/
import Derived.Test.YtobheippncjjiaaOpen
import Derived.Test.YtobheippncjjiaaShare
import Derived.Lib.SmallJoins
namespace Go.Proofs.Ytobheippncjjiaa
open Go.RowKit Go.WideShapes Go.ChangeShapes Go.Deep Go.Joins

theorem Rd.map {α β : Type} {f : β → Value} (g : α → β) {w : World} {v : Value} {xs : List α} (h : Rd (fun a => f (g a)) w v xs) : Rd f w v (xs.map g) := by
  obtain ⟨A, cap, rfl, hc, hA⟩ := h
  refine ⟨A, cap, by simp, by simpa using hc, fun k x hx => ?_⟩
  rw [List.getElem?_map] at hx
  cases hy : xs[k]? with
  | none => rw [hy] at hx; cases hx
  | some y => rw [hy] at hx; cases hx; exact hA k y hy
section
variable {H : Type} {enc : TypeId × Value → H} {w : World} {base : Nat} {spare : Nat → Bool} {held : Bool}
theorem elem_floatW {P : Program} {e : TypeId} (he : P.underlying e = some (.float .f32)) (n : Nat) (v : Value) (y : DataW H × List MemPlace) (h : DataW.trod enc P w base spare held n e [v] = some y) : ∃ x : Fin 4294967296, v = fV x.val := by
  cases n with
  | zero => simp [DataW.trod] at h
  | succ n =>
    unfold DataW.trod at h
    rw [he] at h
    cases v <;> simp at h
    case float k' b =>
      obtain ⟨⟨rfl, hw⟩, _⟩ := h
      simp [Lit.wf] at hw
      exact ⟨⟨b, by first | exact hw | omega | (simpa using hw)⟩, rfl⟩
theorem rd_words {P : Program} {t : TypeId} {v : Value} {fuel : Nat} {y : DataW H × List MemPlace} {e : TypeId} (ht : P.underlying t = some (.slice e)) (hc : P.cellsOf e = 1) (he : P.underlying e = some (.float .f32))
    (h : DataW.trod enc P w base spare held fuel t [v] = some y) : ∃ xs : List Nat, Rd fV w v xs ∧ xs.length ≤ 9223372036854775807 ∧ ∀ x ∈ xs, x < 4294967296 := by
  obtain ⟨xs, hr, hl⟩ := rd_of_cell (fun (b : Fin 4294967296) => fV b.val) ht hc (elem_floatW he) h
  refine ⟨xs.map Fin.val, Rd.map (f := fV) Fin.val hr, by simpa using hl, fun x hx => ?_⟩
  obtain ⟨b, _, rfl⟩ := List.mem_map.1 hx
  exact b.isLt
set_option maxRecDepth 10000 in
theorem open_shareW {r : Reach} {b0 : Nat} {v : Value} {d : DataW H} {p : List MemPlace} (hv : Value.okWide Try.prog w r b0 30 v) (h : DataW.Trod enc Try.prog w base spare held 30 v d p) :
    ∃ (s0 : Value) (x0 : List Nat) (s1 : Value) (x1 : List Nat), v = shV s0 s1 ∧ Rd fV w s0 x0 ∧ x0.length ≤ 9223372036854775807 ∧ (∀ x ∈ x0, x < 4294967296) ∧ Rd fV w s1 x1 ∧ x1.length ≤ 9223372036854775807 ∧ (∀ x ∈ x1, x < 4294967296) := by
  obtain ⟨v0, v1, y0, y1, n, rfl, -, -, h0, h1⟩ := open_agg2 Try.underlying30 (by kernel_rfl) (by kernel_rfl) hv h
  obtain ⟨x0, hr0, hx0, hw0⟩ := rd_words Try.underlying22 (by kernel_rfl) Try.underlying39 h0
  obtain ⟨x1, hr1, hx1, hw1⟩ := rd_words Try.underlying22 (by kernel_rfl) Try.underlying39 h1
  exact ⟨v0, x0, v1, x1, rfl, hr0, hx0, hw0, hr1, hx1, hw1⟩
end
end Go.Proofs.Ytobheippncjjiaa
