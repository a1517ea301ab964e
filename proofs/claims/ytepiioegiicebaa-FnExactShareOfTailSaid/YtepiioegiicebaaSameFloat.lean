/-
  The walk of laws.sameFloat: words that stand for the same are the same to it.
-/
import Derived.Test.YtepiioegiicebaaFloat
namespace Go.Proofs.Ytepiioegiicebaa
open Go.RowKit

theorem sameFloat_any (a b : Nat) (h : absF .f64 a = absF .f64 b) (w : World) :
    Calls Try.prog 17 #[.float .f64 a, .float .f64 b] w fun e w' => e = .returned (.bool true) ∧ w = w' := by
  cases hx : (FloatKind.f64.decode a).isNaN
  · have ha := absF_of hx
    rw [ha] at h
    obtain ⟨rfl, _⟩ := absF_some h.symm
    clear h ha
    have ho := ord_refl hx
    obtain ⟨r, hr⟩ := one_over hx
    have hrun := fun W => run_float_arith (P := Try.prog) W .quo 26 .f64 4607182418800017408 b r hr
    clear hr hx
    cases hz : (FloatKind.f64.format.order b 0 == some .eq)
    · go_enter Try.func17, Try.ntmps17
      go_wp2
      all_goals go_ret
      all_goals exact ⟨rfl, rfl⟩
    · go_enter Try.func17, Try.ntmps17
      go_wp2
      all_goals go_ret
      all_goals exact ⟨rfl, rfl⟩
  · have hy : (FloatKind.f64.decode b).isNaN = true := by
      refine absF_none ?_
      rw [← h, absF_nan hx]
    have ha := ord_nan (y := a) hx
    have hb := ord_nan (y := b) hy
    clear h hx hy
    go_enter Try.func17, Try.ntmps17
    go_wp2
    all_goals go_ret
    all_goals exact ⟨rfl, rfl⟩
end Go.Proofs.Ytepiioegiicebaa
