/-
  Two tables are the same: spec.l06Same, slices.Equal, spec.SameTable, impl.SameTable.
-/
import Derived.Test.YtmhmekfbnaafmaaTab
import Derived.Test.YtmhmekfbnaafmaaIdxFunc
namespace Go.Proofs.Ytmhmekfbnaafmaa
open Go.RowKit

/-- A table that lies in a block. -/
structure TabAt (w : World) (g : Nat) (r c : Int) (s : Value) : Prop where
  lt : g < w.heap.size
  rows : w.cell? ⟨g, 0, none⟩ = some (.int .i64 r)
  cols : w.cell? ⟨g, 1, none⟩ = some (.int .i64 c)
  counts : w.cell? ⟨g, 2, none⟩ = some s

def sameTab (r c : Int) (xs : List Int) (r' c' : Int) (ys : List Int) : Bool := decide (r = r' ∧ c = c' ∧ xs = ys)

theorem eq_of_takes {xs ys : List Int} {n : Nat} (h1 : n = xs.length) (h2 : n = ys.length) (h : xs.take n = ys.take n) : xs = ys := by
  rw [List.take_of_length_le (by omega), List.take_of_length_le (by omega)] at h
  exact h
theorem ne_of_get {xs ys : List Int} {k : Nat} {x y : Int} (hx : xs[k]? = some x) (hy : ys[k]? = some y) (hne : x ≠ y) : xs ≠ ys := by
  rintro rfl
  rw [hx] at hy
  exact hne (Option.some.inj hy)

theorem tabAt_new (w : World) (r c : Int) (s : Value) (t : TypeId) : TabAt (w.alloc (.cells #[.int .i64 r, .int .i64 c, s] t)) w.heap.size r c s :=
  ⟨by simp, by rw [World.cell?_alloc_new]; rfl, by rw [World.cell?_alloc_new]; rfl, by rw [World.cell?_alloc_new]; rfl⟩
theorem TabAt.below {w w' : World} {g : Nat} {r c : Int} {s : Value} (h : TabAt w g r c s) (hb : Below w.heap.size w w') : TabAt w' g r c s := by
  obtain ⟨hc, -⟩ := bcell hb
  exact ⟨Nat.lt_of_lt_of_le h.lt hb.size, by rw [hc _ _ h.lt]; exact h.rows, by rw [hc _ _ h.lt]; exact h.cols, by rw [hc _ _ h.lt]; exact h.counts⟩
/-- The pointer form in which a boxed table is handed on. -/
theorem TabAt.kept {w w' : World} {g : Nat} {r c : Int} {s : Value} {row : Option Nat} (h : TabAt w g r c s) (hg : w.grownBy w' row) (hne : row ≠ some g) : TabAt w' g r c s := by
  obtain ⟨h0, h1, h2, h3⟩ := h
  have hbk : w'.heap[g]? = w.heap[g]? := hg.block g h0 (fun e => hne e.symm)
  exact ⟨Nat.lt_of_lt_of_le h0 hg.size, (World.cell?_of_block (w := w) hbk).trans h1, (World.cell?_of_block (w := w) hbk).trans h2, (World.cell?_of_block (w := w) hbk).trans h3⟩
theorem below2 (w : World) (o o' : Obj) : Below w.heap.size w ((w.alloc o).alloc o') := ((Below.refl _ _).alloc (Nat.le_refl _) _).alloc (by simp) _
theorem below1 (w : World) (o : Obj) : Below w.heap.size w (w.alloc o) := (Below.refl _ _).alloc (Nat.le_refl _) _
theorem _root_.Go.RowKit.Below.drewN_ {w w' : World} {B : Nat} (h : Below B w w') (hB : B ≤ w'.heap.size) (n : Nat) : Below B w (w'.drewN n) := h.trans ((below_of_drew ⟨n, rfl⟩).mono hB)

end Go.Proofs.Ytmhmekfbnaafmaa
