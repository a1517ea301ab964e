/-
  The number that a finite word stands for, and the order of words by it.
-/
import Derived.Test.YtimpabceellihaaF32s
import Derived.Test.YtimpabceellihaaVal2
namespace Go.Proofs.Ytimpabceellihaa
open Go.RowKit

theorem fin_num {x : Nat} (h : finB x = true) : ∃ s m p, FloatKind.f32.format.read x = .number s m p := by
  unfold finB at h
  cases e : FloatKind.f32.decode x with
  | nan s t => rw [e] at h; cases h
  | infinity s => rw [e] at h; cases h
  | number s m p => exact ⟨s, m, p, e⟩
def leX (x v : Nat) : Bool := FloatKind.f32.format.order v x == some .lt || FloatKind.f32.format.order v x == some .eq
def gtX (x v : Nat) : Bool := FloatKind.f32.format.order v x == some .gt
/-! A rising list. -/
def val (b : Nat) : Rat := vD (FloatKind.f32.format.read b)
theorem gt_val {a b : Nat} (ha : finB a = true) (hb : finB b = true) : FloatKind.f32.format.order a b = some .gt ↔ val b < val a := by
  obtain ⟨s, m, p, ea⟩ := fin_num ha
  obtain ⟨t, n, q, eb⟩ := fin_num hb
  unfold val Ieee.Format.order
  rw [ea, eb]
  exact (order_cmp _ _ _ _ _ _).2.1
theorem lt_val {a b : Nat} (ha : finB a = true) (hb : finB b = true) : FloatKind.f32.format.order a b = some .lt ↔ val a < val b := by
  obtain ⟨s, m, p, ea⟩ := fin_num ha
  obtain ⟨t, n, q, eb⟩ := fin_num hb
  unfold val Ieee.Format.order
  rw [ea, eb]
  exact (order_cmp _ _ _ _ _ _).1
theorem eq_val {a b : Nat} (ha : finB a = true) (hb : finB b = true) : FloatKind.f32.format.order a b = some .eq ↔ val a = val b := by
  obtain ⟨s, m, p, ea⟩ := fin_num ha
  obtain ⟨t, n, q, eb⟩ := fin_num hb
  unfold val Ieee.Format.order
  rw [ea, eb]
  exact (order_cmp _ _ _ _ _ _).2.2
theorem le_val {a b : Nat} (ha : finB a = true) (hb : finB b = true) : leX b a = true ↔ val a ≤ val b := by
  unfold leX
  rw [Bool.or_eq_true, beq_iff_eq, beq_iff_eq, lt_val ha hb, eq_val ha hb]
  constructor
  · rintro (h | h)
    · exact Rat.le_of_lt h
    · rw [h]; exact Rat.le_refl
  · intro h
    by_cases e : val a = val b
    · exact .inr e
    · left
      grind
theorem gtX_val {a b : Nat} (ha : finB a = true) (hb : finB b = true) : gtX b a = true ↔ val b < val a := by
  unfold gtX
  rw [beq_iff_eq, gt_val ha hb]
/-- A finite word is equal to itself. -/
theorem fin_self {x : Nat} (h : finB x = true) : FloatKind.f32.format.order x x = some .eq := (eq_val h h).2 rfl
/-- What cmp.Compare says of two finite words. -/
def cmpF (x y : Nat) : Int := if FloatKind.f32.format.order x y == some .lt then -1 else if FloatKind.f32.format.order x y == some .gt then 1 else 0
theorem cmpF_neg {x y : Nat} (hx : finB x = true) (hy : finB y = true) : cmpF x y < 0 ↔ val x < val y := by
  rw [← lt_val hx hy]
  unfold cmpF
  cases FloatKind.f32.format.order x y with
  | none => simp
  | some o => cases o <;> simp
end Go.Proofs.Ytimpabceellihaa
