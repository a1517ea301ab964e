/-
  Walks by ratios: both RatioWalk.
-/
import Derived.Test.YtimpabceellihaaMixD
import Derived.Test.YtimpabceellihaaLogE
namespace Go.Proofs.Ytimpabceellihaa
open Go.RowKit
attribute [local go_sem] run_fl_add run_fl_sub run_fl_mul run_fl_quo run_up_

def logO : Option Nat → Option Nat | none => none | some b => log32 b
theorem logO_of {x : Nat} {o : Option Nat} (h : absF .f32 x = o) : log32 x = logO o := by
  subst h
  cases hn : (FloatKind.f32.decode x).isNaN
  · rw [absF_of hn]; rfl
  · rw [log32_nan (absF_nan hn), absF_nan hn]; rfl
theorem infOk_lt {x : Nat} (h : x < 4294967296) : InfOk x := by
  intro e
  unfold FloatKind.decode Ieee.Format.read at e
  have hs : FloatKind.f32.format.signWeight = 2147483648 := rfl
  have hb : FloatKind.f32.format.binade = 8388608 := rfl
  have hi : FloatKind.f32.format.infRung = 2139095040 := rfl
  simp only [hs, hb, hi] at e
  split at e
  · cases e
  · split at e
    · cases e
    · split at e
      · rename_i h3
        injection e with e
        have : ¬ (x / 2147483648 % 2 = 1) := by
          intro h'
          rw [h'] at e
          cases e
        omega
      · cases e
theorem infOk_quo (x y : Nat) (w : World) : InfOk (flR .quo .f32 x y w) := by
  unfold flR
  cases h : floatBits .quo .f32 x y with
  | some r => exact infOk_lt (show r < 2 ^ 32 from Ieee.Format.div_lt _ (show FloatKind.f32.format.div x y = some r from h))
  | none =>
    intro e
    exfalso
    have hn := nan_bits32 (w.tape w.drawn (.nanBits .f32 x y))
    have e' : FloatKind.f32.decode ((w.tape w.drawn (.nanBits .f32 x y) % 2) * 2 ^ 31 + 0x7f800000 + 1 + (w.tape w.drawn (.nanBits .f32 x y) / 2) % (2 ^ 23 - 1)) = .infinity false := e
    rw [e'] at hn
    cases hn
def openB1 (p : Nat) : Bool := (FloatKind.f32.format.order p 0 == some .gt) && (FloatKind.f32.format.order p 1065353216 == some .lt)
/-- What a bit adds. -/
def ratU (lo hi : Option Nat) : Option Nat := logO (opF .quo .f32 hi lo)
def ratD (lo hi : Option Nat) : Option Nat := logO (opF .quo .f32 (opF .sub .f32 oneN hi) (opF .sub .f32 oneN lo))
def ratStep (lo hi : Option Nat) (s : Option Nat) (b : Bool) : Option Nat := opF .add .f32 s (if b then ratU lo hi else ratD lo hi)
def ratTo (lo hi : Option Nat) (xs : List Bool) (k : Nat) : Option Nat := (xs.take k).foldl (ratStep lo hi) (some 0)
def ratL (lo hi : Option Nat) (xs : List Bool) (k : Nat) : List (Option Nat) := (List.range k).map fun i => ratTo lo hi xs (i + 1)
theorem ratTo_succ (lo hi : Option Nat) {xs : List Bool} {k : Nat} {x : Bool} (h : xs[k]? = some x) : ratTo lo hi xs (k + 1) = ratStep lo hi (ratTo lo hi xs k) x := by simp [ratTo, take_snoc h]
theorem ratL_succ (lo hi : Option Nat) (xs : List Bool) (k : Nat) : ratL lo hi xs (k + 1) = ratL lo hi xs k ++ [ratTo lo hi xs (k + 1)] := by simp [ratL, List.range_succ]
theorem ratL_len (lo hi : Option Nat) (xs : List Bool) (k : Nat) : (ratL lo hi xs k).length = k := by simp [ratL]
def ratOk1 (xs : List Bool) (lo hi : Nat) : Bool := decide (1 ≤ xs.length ∧ xs.length ≤ 256) && openB1 lo && openB1 hi
def ratR (xs : List Bool) (lo hi : Nat) : List (Option Nat) := ratL (absF .f32 lo) (absF .f32 hi) xs xs.length
def ratOk (xs : List Bool) (lo hi : Nat) : Bool := ratOk1 xs lo hi && (ratR xs lo hi).all finA
def RetRatioWalk (xs : List Bool) (lo hi : Nat) (w : World) (e : Ending) (w' : World) : Prop :=
  ∃ v y, e = .returned (.tuple #[v, .bool (ratOk xs lo hi)]) ∧ Own fV 39 w' w.heap.size v y ∧ y.length ≤ 1099511627776 ∧ absL y = (if ratOk xs lo hi = true then ratR xs lo hi else []) ∧ Below w.heap.size w w'
theorem ratOk_f1 {xs : List Bool} {lo hi : Nat} (h : ratOk1 xs lo hi = false) : ratOk xs lo hi = false := by unfold ratOk; rw [h]; rfl
theorem ratOk_t {xs : List Bool} {lo hi : Nat} (h : ratOk1 xs lo hi = true) : ratOk xs lo hi = (ratR xs lo hi).all finA := by unfold ratOk; rw [h]; rfl
theorem ratU_abs {lo hi : Nat} {W : World} {u : Nat} (h : absF .f32 u = log32 (flR .quo .f32 hi lo W)) : absF .f32 u = ratU (absF .f32 lo) (absF .f32 hi) := by
  rw [h, logO_of (abs_flR .quo rfl _ _ _ _)]
  rfl
theorem ratD_abs {lo hi : Nat} {W1 W2 W3 : World} {u : Nat} (h : absF .f32 u = log32 (flR .quo .f32 (flR .sub .f32 1065353216 hi W1) (flR .sub .f32 1065353216 lo W2) W3)) : absF .f32 u = ratD (absF .f32 lo) (absF .f32 hi) := by
  rw [h, logO_of (abs_flR .quo rfl _ _ _ _), abs_flR .sub rfl, abs_flR .sub rfl, abs_one]
  rfl
end Go.Proofs.Ytimpabceellihaa
