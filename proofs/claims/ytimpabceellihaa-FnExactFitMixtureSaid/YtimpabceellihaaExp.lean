/-
  The exponential of what is not above 0: it stands between 0 and 1.
-/
import Derived.Test.YtimpabceellihaaValOp
namespace Go.Proofs.Ytimpabceellihaa
open Go.RowKit

/-- Horner's rounds, from the last. -/
def expP (t : Option Nat) : Nat → Option Nat
  | 0 => some 4607182418800017408
  | j + 1 => opF .add .f64 (some 4607182418800017408) (opF .quo .f64 (opF .mul .f64 t (expP t j)) (some (floatOfInt .f64 ((12 - j : Nat) : Int))))
def sqP (p : Option Nat) : Nat → Option Nat
  | 0 => p
  | j + 1 => opF .mul .f64 (sqP p j) (sqP p j)
def expB (y : Option Nat) : Option Nat := sqP (expP (opF .quo .f64 y (some 4643211215818981376)) 12) 8
def expA (y : Option Nat) : Option Nat :=
  if ordF .f64 y (some 4641240890982006784) == some .gt then some 9218868437227405312
  else if ordF .f64 y (some 13864612927836782592) == some .lt then some 0 else expB y
theorem bet_one : Bet .f64 (some 4607182418800017408) 1 1 := by
  have r : FloatKind.f64.format.read 4607182418800017408 = .number false 4503599627370496 (-52) := by decide
  have v : vD (.number false 4503599627370496 (-52)) = 1 := by
    simp only [vD, sg_f]
    rw [show 4503599627370496 = 2 ^ 52 from rfl, mg_pow, show (-52 : Int) + ((52 : Nat) : Int) = 0 by omega, p2_zero]
  exact bet_of r (by rw [v]; exact Rat.le_refl) (by rw [v]; exact Rat.le_refl)
theorem bet_256 : Bet .f64 (some 4643211215818981376) 256 256 := by
  have r : FloatKind.f64.format.read 4643211215818981376 = .number false 4503599627370496 (-44) := by decide
  have v : vD (.number false 4503599627370496 (-44)) = 256 := by
    simp only [vD, sg_f]
    rw [show 4503599627370496 = 2 ^ 52 from rfl, mg_pow, show (-44 : Int) + ((52 : Nat) : Int) = ((8 : Nat) : Int) by omega, p2_nat]
    rfl
  exact bet_of r (by rw [v]; exact Rat.le_refl) (by rw [v]; exact Rat.le_refl)
theorem repm1 : RepK .f64 (-1) := rep_neg rep1
theorem expP_bet {t : Option Nat} (ht : Bet .f64 t (-1) 0) : ∀ j, j ≤ 12 → Bet .f64 (expP t j) 0 1
  | 0, _ => bet_one.mono (by decide) (by decide)
  | j + 1, hj => by
    have ih := expP_bet ht j (by omega)
    have hm : Bet .f64 (opF .mul .f64 t (expP t j)) (-1) 0 := by
      refine bet_mul ht ih repm1 rep0 ?_
      intro u v u1 u2 v1 v2
      have h1 := Rat.mul_nonneg (a := -u) (b := v) (by grind) v1
      have h2 := Rat.mul_nonneg (a := 1 + u) (b := v) (by grind) v1
      constructor <;> grind
    have hk : Bet .f64 (some (floatOfInt .f64 ((12 - j : Nat) : Int))) 1 16 := by
      have := bet_nat (k := .f64) (n := 12 - j) (a := 0) (b := 4) (by omega) (by omega) (rep64 (by omega) (by omega)) (rep64 (by omega) (by omega))
      rw [p2_nat, p2_nat] at this
      exact this.mono (by decide) (by decide)
    have hq : Bet .f64 (opF .quo .f64 (opF .mul .f64 t (expP t j)) (some (floatOfInt .f64 ((12 - j : Nat) : Int)))) (-1) 0 := by
      refine bet_quo (E := 0) hm hk (by decide) (rep64 (by omega) (by omega)) ?_ (.inr (by rw [p2_zero])) (.inl ⟨Rat.le_refl, rfl⟩)
      intro u v u1 u2 v1 v2
      rw [p2_zero, Rat.one_mul]
      constructor <;> grind
    exact bet_add bet_one hq rep0 rep1 (by grind) (by grind)
theorem sqP_bet {p : Option Nat} (hp : Bet .f64 p 0 1) : ∀ j, Bet .f64 (sqP p j) 0 1
  | 0 => hp
  | j + 1 => by
    have ih := sqP_bet hp j
    refine bet_mul ih ih rep0 rep1 ?_
    intro u v u1 u2 v1 v2
    have h1 := Rat.mul_nonneg u1 v1
    have h2 := Rat.mul_nonneg (a := 1 - u) (b := v) (by grind) v1
    constructor <;> grind
theorem expB_bet {y : Option Nat} (h : Bet .f64 y (-256) 0) : Bet .f64 (expB y) 0 1 := by
  refine sqP_bet (expP_bet ?_ 12 (by omega)) 8
  refine bet_quo (E := 0) h bet_256 (by decide) (rep64 (by omega) (by omega)) ?_ (.inr (by rw [p2_zero])) (.inl ⟨Rat.le_refl, rfl⟩)
  intro u v u1 u2 v1 v2
  rw [p2_zero, Rat.one_mul]
  constructor <;> grind
/-- The exponential of what is not above 0. -/
theorem expA_bet {y : Option Nat} (h : NegS .f64 y) : Bet .f64 (expA y) 0 1 := by
  obtain ⟨b, rfl, h⟩ := h
  have r200 : FloatKind.f64.format.read 4641240890982006784 = .number false 7036874417766400 (-45) := by decide
  have rm200 : FloatKind.f64.format.read 13864612927836782592 = .number true 7036874417766400 (-45) := by decide
  have v200 : 0 ≤ vD (.number false 7036874417766400 (-45)) := mg_nn _ _
  have vm200 : -256 ≤ vD (.number true 7036874417766400 (-45)) := by
    have h1 : mg 7036874417766400 (-45) ≤ mg (2 ^ 53) (-45) := mg_le.2 (by decide)
    rw [mg_pow, show (-45 : Int) + ((53 : Nat) : Int) = ((8 : Nat) : Int) by omega, p2_nat] at h1
    simp only [vD, sg_t]
    have : ((2 ^ 8 : Nat) : Rat) = 256 := rfl
    grind
  unfold expA ordF Ieee.Format.order
  simp only [r200, rm200]
  rcases h with ⟨m, p, e⟩ | e
  · rw [e]
    obtain ⟨c1, c2, c3⟩ := order_cmp true m p false 7036874417766400 (-45)
    obtain ⟨d1, d2, d3⟩ := order_cmp true m p true 7036874417766400 (-45)
    have hv : vD (.number true m p) ≤ 0 := by
      simp only [vD, sg_t]
      have := mg_nn m p
      grind
    have n1 : ((Ieee.Datum.number true m p).order (.number false 7036874417766400 (-45)) == some .gt) = false := by
      rw [beq_eq_false_iff_ne]
      intro h
      have := c2.1 h
      grind
    rw [n1]
    simp only [Bool.false_eq_true, if_false]
    by_cases h : (Ieee.Datum.number true m p).order (.number true 7036874417766400 (-45)) = some .lt
    · rw [h]
      simp only [beq_self_eq_true, if_true]
      have r0 : FloatKind.f64.format.read 0 = .number false 0 (-1074) := by decide
      refine bet_of r0 ?_ ?_ <;> simp only [vD, mg_zero, sg_zero] <;> decide
    · rw [show ((Ieee.Datum.number true m p).order (.number true 7036874417766400 (-45)) == some .lt) = false from by rw [beq_eq_false_iff_ne]; exact h]
      simp only [Bool.false_eq_true, if_false]
      refine expB_bet (bet_of e ?_ hv)
      have hn : ¬ vD (.number true m p) < vD (.number true 7036874417766400 (-45)) := fun h' => h (d1.2 h')
      rw [Rat.not_lt] at hn
      exact Rat.le_trans vm200 hn
  · rw [e]
    have r0 : FloatKind.f64.format.read 0 = .number false 0 (-1074) := by decide
    refine bet_of r0 ?_ ?_ <;> simp only [vD, mg_zero, sg_zero] <;> decide
/-- .. narrowed: never out of range. -/
def exp32 (x : Option Nat) : Option Nat := dnF (expA (upF x))
theorem exp32_bet {x : Option Nat} (h : NegS .f32 x) : Bet .f32 (exp32 x) 0 1 ∧ ∀ w, absF .f64 w = expA (upF x) → dnOver w = false :=
  bet_dn (expA_bet (negS_up h)) rep0 rep1
end Go.Proofs.Ytimpabceellihaa
