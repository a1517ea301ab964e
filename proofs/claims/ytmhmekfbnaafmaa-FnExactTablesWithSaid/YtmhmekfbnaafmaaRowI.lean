/-
  Rows of int64s, of the call's own, with spare cells.
-/
import Derived.Test.YtmhmekfbnaafmaaInts
import Derived.Test.YtmhmekfbnaafmaaJoin
import Derived.Test.YtmhmekfbnaafmaaBox
namespace Go.Proofs.Ytmhmekfbnaafmaa
open Go.RowKit
/-- An int64 as a cell. -/
abbrev jV (n : Int) : Value := .int .i64 n

/-- Block g holds a row of int64s, of the call's own. -/
def RowI (w : World) (g n c : Nat) (xs : List Int) : Prop := w.ownsRow 0 2 1 (.slice (some ⟨g, 0, none⟩) n c) n (xs.map jV)
section
variable {w w' : World} {g n c i j : Nat} {x y : Int} {xs : List Int}
theorem RowI.lt (h : RowI w g n c xs) : g < w.heap.size := (World.ownsRow.lt h g rfl).2
theorem RowI.len (h : RowI w g n c xs) : xs.length = n := by
  have := h.1
  simpa using this
theorem RowI.at (h : RowI w g n c xs) (hx : xs[i]? = some x) : w.cell? ⟨g, i, none⟩ = some (jV x) := by
  have := World.ownsRow.cellAt h i (by rw [Nat.mul_one, ← h.len]; exact lt_of_get hx)
  rw [List.getElem?_map, hx, Option.map_some] at this
  exact this
theorem RowI.free (h : RowI w g n c xs) (i : Nat) : w.frozen? ⟨g, i, none⟩ = false := World.ownsRow.frozenAt h i
theorem RowI.put (h : RowI w g n c xs) (i : Nat) (x : Int) : RowI (w.setCell ⟨g, i, none⟩ (jV x)) g n c (xs.set i x) := by
  unfold RowI
  rw [List.map_set]
  exact (World.ownsRow.stored (w := w) h i (jV x)).1
theorem RowI.drewN (h : RowI w g n c xs) (k : Nat) : RowI (w.drewN k) g n c xs := h
theorem RowI.drew (h : RowI w g n c xs) : RowI w.drew g n c xs := h
end
theorem row_of_own {w : World} {base g n c : Nat} {xs : List Int} (h : Own iV 2 w base (.slice (some ⟨g, 0, none⟩) n c) xs) : RowI w g n c xs := by
  have hn : n = xs.length := by
    rcases h.2 with ⟨e, _⟩ | ⟨_, _, _, e, _⟩
    · cases e
    · cases e; rfl
  subst hn
  exact own_base h (Nat.zero_le _)
theorem own_of_row {w : World} {base g n c : Nat} {xs : List Int} (h : RowI w g n c xs) (hb : base ≤ g) : Own iV 2 w base (.slice (some ⟨g, 0, none⟩) n c) xs := by
  have hl := h.len
  subst hl
  refine ⟨h.1, ?_⟩
  rcases h.2 with ⟨e, _⟩ | ⟨g', c', cur, e, _, r⟩
  · cases e
  · cases e
    exact .inr ⟨_, _, cur, rfl, hb, r⟩
theorem RowI.below {w w' : World} {g n c B : Nat} {xs : List Int} (h : RowI w g n c xs) (t : Below B w w') (hd : g < B) : RowI w' g n c xs := by
  have hb : w'.heap[g]? = w.heap[g]? := t.block g hd
  refine ⟨h.1, ?_⟩
  rcases h.2 with ⟨e, _⟩ | ⟨g', cap, cur, e, h1, h2, rest⟩
  · cases e
  · cases e
    exact .inr ⟨g, c, cur, rfl, h1, hb.trans h2, rest⟩
/-- .. where another block is written. -/
theorem RowI.other {w : World} {g n c : Nat} {xs : List Int} (h : RowI w g n c xs) {p : Addr} (hp : p.block ≠ g) (u : Value) : RowI (w.setCell p u) g n c xs := by
  have hb : (w.setCell p u).heap[g]? = w.heap[g]? := Below.heap_setCell _ _ _ _ (fun e => hp e.symm)
  refine ⟨h.1, ?_⟩
  rcases h.2 with ⟨e, _⟩ | ⟨g', cap, cur, e, h1, h2, rest⟩
  · cases e
  · cases e
    exact .inr ⟨g, c, cur, rfl, h1, hb.trans h2, rest⟩
theorem below_set {a w : World} {g i B : Nat} (u : Value) (h : Below B a w) (hg : B ≤ g) : Below B a (w.setCell ⟨g, i, none⟩ u) := h.setCell (p := ⟨g, i, none⟩) hg _
end Go.Proofs.Ytmhmekfbnaafmaa
