/-
  The walk of laws.sameFloat: words that stand for the same are the same to it.
-/
import Derived.Test.YthafpbhjpmnddaaFloat
namespace Go.Proofs.Ythafpbhjpmnddaa
open Go.RowKit

/-- 'float64(x)' in this program's numbers. -/
theorem run_up_ (b : Nat) (W : World) : (convert 24 28 (.float .f32 b)).run Try.prog W = .ok (.float .f64 (upR b W)) (W.drewN (upN b)) := run_up _ _ (by kernel_rfl) Try.underlying28 b W
/-- The four operations as rules of the walk. -/
theorem run_fl_add {P : Program} (t : TypeId) (k : FloatKind) (x y : Nat) (w : World) : (binOp .add t (.float k x) (.float k y)).run P w = .ok (.float k (flR .add k x y w)) (w.drewN (flN .add k x y)) := run_fl .add rfl t k x y w
theorem run_fl_sub {P : Program} (t : TypeId) (k : FloatKind) (x y : Nat) (w : World) : (binOp .sub t (.float k x) (.float k y)).run P w = .ok (.float k (flR .sub k x y w)) (w.drewN (flN .sub k x y)) := run_fl .sub rfl t k x y w
theorem run_fl_mul {P : Program} (t : TypeId) (k : FloatKind) (x y : Nat) (w : World) : (binOp .mul t (.float k x) (.float k y)).run P w = .ok (.float k (flR .mul k x y w)) (w.drewN (flN .mul k x y)) := run_fl .mul rfl t k x y w
theorem run_fl_quo {P : Program} (t : TypeId) (k : FloatKind) (x y : Nat) (w : World) : (binOp .quo t (.float k x) (.float k y)).run P w = .ok (.float k (flR .quo k x y w)) (w.drewN (flN .quo k x y)) := run_fl .quo rfl t k x y w
end Go.Proofs.Ythafpbhjpmnddaa
