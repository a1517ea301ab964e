/-
  Shares of rare hits: spec.RareShare.
-/
import Derived.Test.YthafpbhjpmnddaaRare
namespace Go.Proofs.Ythafpbhjpmnddaa
open Go.RowKit
attribute [local go_sem] run_fl_add run_fl_sub run_fl_mul run_fl_quo run_up_ run_store_float

theorem rareA_pos (r : Option Nat) {k : Nat} (h : 1 ≤ k) : rareA r k = opF .quo .f32 (opF .mul .f32 (rareA r (k - 1)) r) (absF .f32 (floatOfInt .f32 (k : Int))) := by
  cases k with
  | zero => omega
  | succ k => rfl
theorem cntL_zero : cntL 0 = [] := rfl
theorem rareRow_zero (r : Option Nat) : rareRow r 0 = [] := rfl
end Go.Proofs.Ythafpbhjpmnddaa
