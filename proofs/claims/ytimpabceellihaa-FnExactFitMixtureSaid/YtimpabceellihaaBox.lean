/-
  Structs in a block of their own.
-/
import Derived.Test.YtimpabceellihaaLw
namespace Go.Proofs.Ytimpabceellihaa
open Go.RowKit

/-- Block b holds these cells, and may be written. -/
structure BoxAt (w : World) (b : Nat) (vs : List Value) : Prop where
  lt : b < w.heap.size
  cell : ∀ i v, vs[i]? = some v → w.cell? ⟨b, i, none⟩ = some v
  free : ∀ i, w.frozen? ⟨b, i, none⟩ = false
section
variable {w w' : World} {b lo hi : Nat} {vs : List Value}
theorem BoxAt.new (w : World) (l : List Value) (t : TypeId) : BoxAt (w.alloc (.cells l.toArray t)) w.heap.size l :=
  ⟨by simp, fun i v h => by rw [World.cell?_alloc_new]; simpa using h, fun i => World.frozen?_alloc_new _ _ _ _⟩
theorem BoxAt.below (h : BoxAt w b vs) (hb : Below w.heap.size w w') : BoxAt w' b vs :=
  ⟨Nat.lt_of_lt_of_le h.lt hb.size, fun i v hv => (hb.cell (p := ⟨b, i, none⟩) h.lt).trans (h.cell i v hv), fun i => (hb.frozen (p := ⟨b, i, none⟩) h.lt).trans (h.free i)⟩
theorem BoxAt.touch (h : BoxAt w b vs) (t : Touch lo hi w w') (hd : b < lo ∨ hi ≤ b) : BoxAt w' b vs :=
  ⟨Nat.lt_of_lt_of_le h.lt t.size, fun i v hv => (World.cell?_of_block (w := w) (t.block b h.lt hd)).trans (h.cell i v hv), fun i => (World.frozen?_of_block (w := w) (t.block b h.lt hd)).trans (h.free i)⟩
theorem BoxAt.alloc (h : BoxAt w b vs) (o : Obj) : BoxAt (w.alloc o) b vs := h.below ((Below.refl _ _).alloc (Nat.le_refl _) o)
theorem Touch.setCell (w : World) (p : Addr) (u : Value) : Touch p.block (p.block + 1) w (w.setCell p u) :=
  ⟨rfl, rfl, rfl, by simp, fun k _ hk => Below.heap_setCell _ _ _ _ (by omega)⟩
theorem BoxAt.set (h : BoxAt w b vs) {i : Nat} {x : Value} (hx : vs[i]? = some x) (u : Value) : BoxAt (w.setCell ⟨b, i, none⟩ u) b (vs.set i u) := by
  refine ⟨by simpa using h.lt, fun j v hv => ?_, fun j => by rw [World.frozen?_setCell]; exact h.free j⟩
  rw [List.getElem?_set] at hv
  by_cases e : i = j
  · subst e
    rw [if_pos rfl] at hv
    have hi : i < vs.length := (List.getElem?_eq_some_iff.1 hx).1
    rw [if_pos hi] at hv
    cases hv
    exact World.cell?_setCell_same _ _ _ (h.cell i x hx)
  · rw [if_neg e] at hv
    rw [World.cell?_setCell_other _ _ _ _ (by intro h; apply e; injection h)]
    exact h.cell j v hv
theorem BoxAt.other (h : BoxAt w b vs) {p : Addr} (hp : p.block ≠ b) (u : Value) : BoxAt (w.setCell p u) b vs := h.touch (Touch.setCell w p u) (by omega)
theorem OwnR.other {α : Type} {f : α → Value} {E : TypeId} {v : Value} {xs : List α} (h : OwnR f E w lo hi v xs) {p : Addr} (hp : p.block < lo ∨ hi ≤ p.block) (u : Value) : OwnR f E (w.setCell p u) lo hi v xs := h.touch (Touch.setCell w p u) (by omega)
end
theorem below_alloc (w : World) (o : Obj) : Below w.heap.size w (w.alloc o) := (Below.refl _ _).alloc (Nat.le_refl _) o
theorem size_alloc (w : World) (o : Obj) : (w.alloc o).heap.size = w.heap.size + 1 := by simp
theorem below_same {w w' : World} (h : w' = w) : Below w.heap.size w w' := by subst h; exact Below.refl _ _
end Go.Proofs.Ytimpabceellihaa
