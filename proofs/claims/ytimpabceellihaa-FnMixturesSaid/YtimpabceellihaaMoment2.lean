/-
  The walks of impl.within and spec.l00In.
  Moments of shares: both MomentOf.
-/
import Derived.Test.YtimpabceellihaaBase
import Derived.Test.YtimpabceellihaaMean
namespace Go.Proofs.Ytimpabceellihaa
section
open Go.RowKit

theorem within_any (n lo hi : Int) (w : World) :
    Calls Try.prog 31 #[.int .i64 n, .int .i64 lo, .int .i64 hi] w fun e w' => e = .returned (.bool (inB n lo hi)) ∧ w = w' := by
  go_enter Try.func31, Try.ntmps31
  go_wp2
  all_goals go_ret
  all_goals exact ⟨ret_bool (by unfold inB; simp; omega), rfl⟩

theorem l00In_any (n lo hi : Int) (w : World) :
    Calls Try.prog 25 #[.int .i64 n, .int .i64 lo, .int .i64 hi] w fun e w' => e = .returned (.bool (inB n lo hi)) ∧ w = w' := by
  go_enter Try.func25, Try.ntmps25
  go_wp2
  all_goals go_ret
  all_goals exact ⟨ret_bool (by unfold inB; simp; omega), rfl⟩
end

section
open Go.RowKit
attribute [local go_sem] run_fl_add run_fl_sub run_fl_mul run_fl_quo run_up_

/-- s, j times multiplied by d. -/
def powTo (s d : Option Nat) : Nat → Option Nat | 0 => s | j + 1 => opF .mul .f32 (powTo s d j) d
def momTo (v c : List Nat) (m : Option Nat) (n k : Nat) : Option Nat := (List.range k).foldl (fun s i => opF .add .f32 s (powTo (absF .f32 (c.getD i 0)) (opF .sub .f32 (absF .f32 (v.getD i 0)) m) n)) (some 0)
theorem momTo_succ {v c : List Nat} (m : Option Nat) (n : Nat) {k x y : Nat} (hx : v[k]? = some x) (hy : c[k]? = some y) : momTo v c m n (k + 1) = opF .add .f32 (momTo v c m n k) (powTo (absF .f32 y) (opF .sub .f32 (absF .f32 x) m) n) := by
  simp [momTo, List.range_succ, hx, hy]
def momOk1 (v c : List Nat) (n : Int) : Bool := meanOk v c && inB n 0 8
def momR (v c : List Nat) (n : Int) : Option Nat := momTo v c (meanV v c) n.toNat v.length
def momOk (v c : List Nat) (n : Int) : Bool := momOk1 v c n && finA (momR v c n)
def momV (v c : List Nat) (n : Int) : Option Nat := if momOk v c n then momR v c n else some 0
def RetMomentOf (x0 x1 : List Nat) (n : Int) (w : World) (e : Ending) (w' : World) : Prop :=
  ∃ b, e = .returned (.tuple #[fV b, .bool (momOk x0 x1 n)]) ∧ absF .f32 b = momV x0 x1 n ∧ Below w.heap.size w w'
theorem mom_no {v c : List Nat} {n : Int} (h : momOk1 v c n = false) : momOk v c n = false ∧ momV v c n = some 0 := by
  have : momOk v c n = false := by unfold momOk; rw [h]; rfl
  exact ⟨this, by unfold momV; rw [this]; rfl⟩
theorem mom_yes {v c : List Nat} {n : Int} {b : Nat} (h : momOk1 v c n = true) (hb : absF .f32 b = momR v c n) : finB b = momOk v c n ∧ absF .f32 (numF b) = momV v c n := by
  have h2 : finB b = momOk v c n := by unfold momOk; rw [h, fin_abs, hb]; rfl
  refine ⟨h2, ?_⟩
  unfold momV numF
  rw [← h2]
  split
  · exact hb
  · exact abs_zero
theorem mean_share {v c : List Nat} (h : meanOk v c = true) : shareB v c = true := by
  unfold meanOk at h
  simp only [Bool.and_eq_true] at h
  exact h.1

end
end Go.Proofs.Ytimpabceellihaa
