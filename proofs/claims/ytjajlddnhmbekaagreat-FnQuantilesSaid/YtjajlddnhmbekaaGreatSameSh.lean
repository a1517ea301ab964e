/-
  The same numbers, lists and shares: spec.l01Bits, l01Same, l01SameAll, impl.SameNumber, sameNumbers, slices.EqualFunc, both SameShare.
-/
import Derived.Test.YtjajlddnhmbekaaGreatFloat
import Derived.Test.YtjajlddnhmbekaaGreatShareIs2
namespace Go.Proofs.YtjajlddnhmbekaaGreat
open Go.RowKit
attribute [local go_sem] run_up_

/-- The words stand for the same. -/
def sameB (x y : Nat) : Bool := decide (absF .f32 x = absF .f32 y)
def sameLB (xs ys : List Nat) : Bool := decide (absL xs = absL ys)
theorem sameLB_len {xs ys : List Nat} (h : xs.length ≠ ys.length) : sameLB xs ys = false := by
  unfold sameLB
  exact decide_eq_false fun e => h (absL_len e)
theorem sameLB_false {xs ys : List Nat} {k x y : Nat} (hx : xs[k]? = some x) (hy : ys[k]? = some y) (h : sameB x y = false) : sameLB xs ys = false := by
  unfold sameLB
  unfold sameB at h
  exact decide_eq_false fun e => of_decide_eq_false h (absL_at e hx hy)
theorem sameLB_true {xs ys : List Nat} (hl : xs.length = ys.length) (h : ∀ (k x y : Nat), xs[k]? = some x → ys[k]? = some y → sameB x y = true) : sameLB xs ys = true := by
  unfold sameLB
  refine decide_eq_true ?_
  unfold absL
  apply List.ext_getElem?
  intro k
  rw [List.getElem?_map, List.getElem?_map]
  cases hx : xs[k]? with
  | none =>
    have : ys[k]? = none := by rw [List.getElem?_eq_none_iff] at hx ⊢; omega
    rw [this]
  | some x =>
    obtain ⟨y, hy⟩ := get_of_lt (xs := ys) (k := k) (by rw [← hl]; exact lt_of_get hx)
    have := h k x y hx hy
    unfold sameB at this
    rw [hy, Option.map_some, Option.map_some]; exact congrArg some (of_decide_eq_true this)

theorem run_bits32 (b : Nat) (w : World) : (callFunc 86 #[.float .f32 b]).run Tryz.prog w = .ok (.value (.int .u32 b)) w := by kernel_rfl
/-- The bits, one word for all NaNs. -/
def canonB (x : Nat) : Int := if (FloatKind.f32.decode x).isNaN then 2143289344 else x
theorem canon_same {x y : Nat} : (canonB x == canonB y) = sameB x y := by
  have nn : (FloatKind.f32.decode 2143289344).isNaN = true := by decide
  unfold canonB sameB
  rw [Bool.eq_iff_iff]
  simp only [beq_iff_eq, decide_eq_true_eq]
  cases hx : (FloatKind.f32.decode x).isNaN <;> cases hy : (FloatKind.f32.decode y).isNaN
  · rw [absF_of hx, absF_of hy]; simp only [Bool.false_eq_true, if_false, Option.some.injEq]; omega
  · rw [absF_of hx, absF_nan hy]
    simp only [Bool.false_eq_true, if_false, if_true, reduceCtorEq, iff_false]
    intro e
    have : x = 2143289344 := by omega
    subst this
    rw [nn] at hx; cases hx
  · rw [absF_nan hx, absF_of hy]
    simp only [Bool.false_eq_true, if_false, if_true, reduceCtorEq, iff_false]
    intro e
    have : y = 2143289344 := by omega
    subst this
    rw [nn] at hy; cases hy
  · rw [absF_nan hx, absF_nan hy]; simp

theorem l01Bits_any (x : Nat) (hx : x < 4294967296) (w : World) :
    Calls Tryz.prog 71 #[fV x] w fun e w' => e = .returned (.int .i64 (canonB x)) ∧ w = w' := by
  have hr := run_bits32 x
  unfold canonB
  cases hn : (FloatKind.f32.decode x).isNaN
  · have ho := ord_refl (k := .f32) hn
    have hcv : ∀ W : World, (convert 90 2 (.int .u32 (x : Int))).run Tryz.prog W = .ok (.int .i64 (x : Int)) W := fun W => by
      have h := run_convert_int (P := Tryz.prog) W 90 2 .u32 (x : Int) (by kernel_rfl) (by kernel_rfl)
      rw [show Tryz.prog.intKind 2 = .i64 from by kernel_rfl, IntWalk.i64_in _ (by omega)] at h
      exact h
    clear hx hn
    go_enter Tryz.func71, Tryz.ntmps71
    go_wp2
    go_ret
    exact ⟨ret_int (by simp; try omega), rfl⟩
  · have ho := ord_nan (k := .f32) (y := x) hn
    clear hx hn
    go_enter Tryz.func71, Tryz.ntmps71
    go_wp2
    go_ret
    exact ⟨ret_int (by simp), rfl⟩
theorem l01Same_any (x y : Nat) (hx : x < 4294967296) (hy : y < 4294967296) (w : World) :
    Calls Tryz.prog 49 #[fV x, fV y] w fun e w' => e = .returned (.bool (sameB x y)) ∧ w = w' := by
  have hs := Lib.hid (canon_same (x := x) (y := y))
  go_enter Tryz.func49, Tryz.ntmps49
  go_wp2_with fail
  refine (l01Bits_any x hx _).mono ?_
  rintro e w' ⟨rfl, rfl⟩
  go_wp2_with fail
  refine (l01Bits_any y hy _).mono ?_
  rintro e w' ⟨rfl, rfl⟩
  go_wp2
  go_ret
  exact ⟨ret_bool hs.out, rfl⟩

/-- A wide word's sign. -/
theorem up_sign {x : Nat} (hn : (FloatKind.f32.decode x).isNaN = false) : upBits x < 18446744073709551616 ∧ (decide (9223372036854775808 ≤ upBits x)) = negW x := by
  have hw : ∀ (s : Bool) (r : Nat), r ≤ Ieee.double.infRung → Ieee.double.word s r < 18446744073709551616 ∧ decide (9223372036854775808 ≤ Ieee.double.word s r) = s := by
    intro s r hr
    have hi : Ieee.double.infRung = 9218868437227405312 := rfl
    have hs : Ieee.double.signWeight = 9223372036854775808 := rfl
    rw [hi] at hr
    unfold Ieee.Format.word
    rw [hs]
    cases s
    · simp only [Bool.false_eq_true, if_false]
      exact ⟨by omega, decide_eq_false (by omega)⟩
    · simp only [if_true]
      exact ⟨by omega, decide_eq_true (by omega)⟩
  rw [← neg_read x]
  unfold upBits FloatKind.encode
  have e : FloatKind.f32.decode x = Ieee.single.read x := rfl
  rw [e] at hn ⊢
  cases hr : Ieee.single.read x with
  | nan s t => rw [hr] at hn; cases hn
  | infinity s => exact hw s _ (Nat.le_refl _)
  | number s m p =>
    show Ieee.double.nearest s m p < _ ∧ _
    by_cases hm : m = 0
    · have : Ieee.double.nearest s m p = Ieee.double.word s 0 := by unfold Ieee.Format.nearest; rw [if_pos hm]
      rw [show FloatKind.f64.format.write (.number s m p) = Ieee.double.nearest s m p from rfl, this]
      exact hw s 0 (Nat.zero_le _)
    · rw [show FloatKind.f64.format.write (.number s m p) = Ieee.double.nearest s m p from rfl, nearest_eq _ _ _ hm]
      exact hw s _ (Nat.min_le_right _ _)

theorem ord_self (x : Nat) : FloatKind.f32.format.order x x = if (FloatKind.f32.decode x).isNaN then none else some .eq := by
  cases h : (FloatKind.f32.decode x).isNaN
  · rw [ord_refl (k := .f32) h]; rfl
  · rw [ord_nan (k := .f32) h]; rfl
/-- Two shares that stand for the same. -/
def sameSh (a0 a1 b0 b1 : List Nat) : Bool := sameLB a0 b0 && sameLB a1 b1
end Go.Proofs.YtjajlddnhmbekaaGreat
