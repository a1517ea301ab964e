/-
  Shares of hits: spec.HitsShare.
-/
import Derived.Test.YthafpbhjpmnddaaHits
import Derived.Test.YthafpbhjpmnddaaGrow
namespace Go.Proofs.Ythafpbhjpmnddaa
open Go.RowKit
attribute [local go_sem] run_fl_add run_fl_sub run_fl_mul run_fl_quo run_up_ run_store_float

theorem size_set (w : World) (p : Addr) (u : Value) : (w.setCell p u).heap.size = w.heap.size := by simp
theorem hitRow_one (c : Option Nat) (b : Nat) (h : absF .f32 b = oneN) : absL [b] = hitRow c 0 1 := by simp [absL, hitRow, h, hitA]
theorem hitRow_more (c : Option Nat) (k : Nat) : hitRow c k (k + 1) ++ [some 0] = hitRow c k (k + 2) := by
  have := hitA_over c (show k < k + 1 by omega)
  simp [hitRow, List.range_succ, this]

end Go.Proofs.Ythafpbhjpmnddaa
