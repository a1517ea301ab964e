/-
  The walk of laws.sameFloat: words that stand for the same are the same to it.
-/
import Derived.Test.YtimpabceellihaaFloat
namespace Go.Proofs.Ytimpabceellihaa
open Go.RowKit

theorem sameFloat_any (a b : Nat) (h : absF .f64 a = absF .f64 b) (w : World) :
    Calls Try.prog 34 #[.float .f64 a, .float .f64 b] w fun e w' => e = .returned (.bool true) ∧ w = w' := by
  cases hx : (FloatKind.f64.decode a).isNaN
  · have ha := absF_of hx
    rw [ha] at h
    obtain ⟨rfl, _⟩ := absF_some h.symm
    clear h ha
    have ho := ord_refl hx
    obtain ⟨r, hr⟩ := one_over hx
    have hrun := fun W => run_float_arith (P := Try.prog) W .quo 42 .f64 4607182418800017408 b r hr
    clear hr hx
    cases hz : (FloatKind.f64.format.order b 0 == some .eq)
    · go_enter Try.func34, Try.ntmps34
      go_wp2
      all_goals go_ret
      all_goals exact ⟨rfl, rfl⟩
    · go_enter Try.func34, Try.ntmps34
      go_wp2
      all_goals go_ret
      all_goals exact ⟨rfl, rfl⟩
  · have hy : (FloatKind.f64.decode b).isNaN = true := by
      refine absF_none ?_
      rw [← h, absF_nan hx]
    have ha := ord_nan (y := a) hx
    have hb := ord_nan (y := b) hy
    clear h hx hy
    go_enter Try.func34, Try.ntmps34
    go_wp2
    all_goals go_ret
    all_goals exact ⟨rfl, rfl⟩
/-- 'float64(x)' in this program's numbers. -/
theorem run_up_ (b : Nat) (W : World) : (convert 39 42 (.float .f32 b)).run Try.prog W = .ok (.float .f64 (upR b W)) (W.drewN (upN b)) := run_up _ _ (by kernel_rfl) Try.underlying42 b W
/-- The four operations as rules of the walk. -/
theorem run_fl_add {P : Program} (t : TypeId) (k : FloatKind) (x y : Nat) (w : World) : (binOp .add t (.float k x) (.float k y)).run P w = .ok (.float k (flR .add k x y w)) (w.drewN (flN .add k x y)) := run_fl .add rfl t k x y w
theorem run_fl_sub {P : Program} (t : TypeId) (k : FloatKind) (x y : Nat) (w : World) : (binOp .sub t (.float k x) (.float k y)).run P w = .ok (.float k (flR .sub k x y w)) (w.drewN (flN .sub k x y)) := run_fl .sub rfl t k x y w
theorem run_fl_mul {P : Program} (t : TypeId) (k : FloatKind) (x y : Nat) (w : World) : (binOp .mul t (.float k x) (.float k y)).run P w = .ok (.float k (flR .mul k x y w)) (w.drewN (flN .mul k x y)) := run_fl .mul rfl t k x y w
theorem run_fl_quo {P : Program} (t : TypeId) (k : FloatKind) (x y : Nat) (w : World) : (binOp .quo t (.float k x) (.float k y)).run P w = .ok (.float k (flR .quo k x y w)) (w.drewN (flN .quo k x y)) := run_fl .quo rfl t k x y w
end Go.Proofs.Ytimpabceellihaa
