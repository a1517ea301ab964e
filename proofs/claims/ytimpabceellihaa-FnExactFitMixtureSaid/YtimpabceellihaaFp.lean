/-
  Tests on a float32, by name, and the walks of the small functions that make them.
-/
import Derived.Test.YtimpabceellihaaIdxFuncF
namespace Go.Proofs.Ytimpabceellihaa
open Go.RowKit

abbrev ord32 (x y : Nat) : Option Ordering := FloatKind.f32.format.order x y
/-- x is finite. -/
def finB (x : Nat) : Bool := match FloatKind.f32.decode x with | .number .. => true | _ => false
def partB (x : Nat) : Bool := (ord32 x 0 == some .gt || ord32 x 0 == some .eq) && (ord32 x 1065353216 == some .lt || ord32 x 1065353216 == some .eq)
def leastB (x : Nat) : Bool := finB x && (ord32 x 0 == some .gt || ord32 x 0 == some .eq)
def aboveB (x : Nat) : Bool := finB x && (ord32 x 0 == some .gt)
/-- x, but 1 if it is greater. -/
def oneF (x : Nat) : Nat := if ord32 x 1065353216 == some .gt then 1065353216 else x

section
open Ieee
theorem decode_zero (s : Bool) (p : Int) : ∃ t e, FloatKind.f32.decode (FloatKind.f32.encode (.number s 0 p)) = .number t 0 e := by
  have : FloatKind.f32.encode (.number s 0 p) = single.word s 0 := by
    show single.nearest s 0 p = _
    simp [Format.nearest]
  rw [this]
  cases s
  · exact ⟨_, _, rfl⟩
  · exact ⟨_, _, rfl⟩
theorem order_zero {x : Nat} {t : Bool} {e : Int} (h : FloatKind.f32.decode x = .number t 0 e) : ord32 x 0 = some .eq := by
  unfold ord32 Format.order
  have h' : FloatKind.f32.format.read x = .number t 0 e := h
  have h0 : FloatKind.f32.format.read 0 = .number false 0 (-149) := rfl
  rw [h', h0]
  simp [Datum.order, signed]
theorem finite_eq (x : Nat) (W : World) : (ord32 (flR .sub .f32 x x W) 0 == some .eq) = finB x := by
  unfold flR finB
  have hs : floatBits .sub .f32 x x = ((FloatKind.f32.decode x).sum (FloatKind.f32.decode x).opposite).map FloatKind.f32.encode := rfl
  rw [hs]
  cases hx : FloatKind.f32.decode x with
  | nan s t =>
    simp only [Datum.sum, Option.map_none, Option.getD_none]
    have : ∀ t', ord32 ((t' % 2) * 2 ^ 31 + 0x7f800000 + 1 + (t' / 2) % (2 ^ 23 - 1)) 0 = none := fun t' => ord_nan (k := .f32) (nan_bits32 t')
    have h := this (W.tape W.drawn (.nanBits .f32 x x))
    show (ord32 (Question.cut (.nanBits .f32 x x) _) 0 == _) = _
    simp only [Question.cut]
    rw [h]; rfl
  | infinity s =>
    simp only [Datum.opposite, Datum.sum]
    have hne : ¬ (s = !s) := by cases s <;> decide
    rw [if_neg hne]
    simp only [Option.map_none, Option.getD_none]
    have : ∀ t', ord32 ((t' % 2) * 2 ^ 31 + 0x7f800000 + 1 + (t' / 2) % (2 ^ 23 - 1)) 0 = none := fun t' => ord_nan (k := .f32) (nan_bits32 t')
    have h := this (W.tape W.drawn (.nanBits .f32 x x))
    show (ord32 (Question.cut (.nanBits .f32 x x) _) 0 == _) = _
    simp only [Question.cut]
    rw [h]; rfl
  | number s m i =>
    simp only [Datum.opposite, Datum.sum, Int.min_self, Int.sub_self]
    have hz : signed s m (0 : Int).toNat + signed (!s) m (0 : Int).toNat = 0 := by cases s <;> simp [signed] <;> omega
    rw [hz]
    simp only [if_true, Option.map_some, Option.getD_some, Int.natAbs_zero]
    obtain ⟨t, e, he⟩ := decode_zero (s && !s) i
    rw [order_zero he]
    rfl
/-- A finite number compares with zero. -/
theorem finB_ord {x : Nat} (h : finB x = true) : (ord32 x 0 == some .lt) = !(ord32 x 0 == some .gt || ord32 x 0 == some .eq) := by
  unfold finB at h
  have h0 : FloatKind.f32.format.read 0 = .number false 0 (-149) := rfl
  unfold ord32 Format.order
  unfold FloatKind.decode at h
  cases hx : FloatKind.f32.format.read x with
  | nan s t => rw [hx] at h; cases h
  | infinity s => rw [hx] at h; cases h
  | number s m i =>
    rw [h0]
    simp only [Datum.order]
    generalize compare (α := Int) _ _ = o
    cases o <;> rfl
end

theorem isFinite_any (x : Nat) (w : World) : Calls Try.prog 36 #[fV x] w fun e w' => e = .returned (.bool (finB x)) ∧ ∃ n, w.drewN n = w' := by
  have hf := finite_eq x
  have hs := fun W => run_fl_sub (P := Try.prog) 39 .f32 x x W
  go_enter Try.func36, Try.ntmps36
  go_wp2
  go_ret
  exact ⟨rfl, _, rfl⟩
theorem l01Finite_any (x : Nat) (w : World) : Calls Try.prog 48 #[fV x] w fun e w' => e = .returned (.bool (finB x)) ∧ ∃ n, w.drewN n = w' := by
  have hf := finite_eq x
  have hs := fun W => run_fl_sub (P := Try.prog) 39 .f32 x x W
  go_enter Try.func48, Try.ntmps48
  go_wp2
  go_ret
  exact ⟨rfl, _, rfl⟩
theorem areFinite1_any (x : Nat) (w : World) : Calls Try.prog 57 #[fV x] w fun e w' => e = .returned (.bool (!finB x)) ∧ ∃ n, w.drewN n = w' := by
  go_enter Try.func57, Try.ntmps57
  go_wp2_with (go_at_call 36; refine (isFinite_any _ _).mono ?_; rintro e w' ⟨rfl, n, rfl⟩)
  go_ret
  exact ⟨rfl, _, rfl⟩
end Go.Proofs.Ytimpabceellihaa
