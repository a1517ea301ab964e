/-
  Densities are above 0 where they are reckoned from numbers that are not too far apart.
-/
import Derived.Test.YtimpabceellihaaVx
import Derived.Test.YtimpabceellihaaFitP
namespace Go.Proofs.Ytimpabceellihaa
open Go.RowKit

theorem vl_ordX {k : FloatKind} {a b : Nat} {u v : Rat} (ha : Vl k (some a) u) (hb : Vl k (some b) v) : (k.format.order a b = some .lt ↔ u < v) ∧ (k.format.order a b = some .gt ↔ v < u) ∧ (k.format.order a b = some .eq ↔ u = v) := by
  obtain ⟨a', e, ha⟩ := ha
  cases e
  obtain ⟨b', e, hb⟩ := hb
  cases e
  obtain ⟨s, m, p, ea, a1, a2⟩ := ha.read
  obtain ⟨t, n, q, eb, b1, b2⟩ := hb.read
  have e1 : vD (.number s m p) = u := Rat.le_antisymm a2 a1
  have e2 : vD (.number t n q) = v := Rat.le_antisymm b2 b1
  unfold Ieee.Format.order
  rw [ea, eb, ← e1, ← e2]
  exact order_cmp _ _ _ _ _ _
/-! ### the exponential of what is from -72 to 0 -/
theorem expP_low {t : Option Nat} {τ : Rat} (ht : Vl .f64 t τ) (h1 : -(9 / 32) ≤ τ) (h2 : τ ≤ 0) : ∀ j, j ≤ 12 → ∃ q, Vl .f64 (expP t j) q ∧ 23 / 32 ≤ q ∧ q ≤ 1
  | 0, _ => ⟨1, one64, by grind, Rat.le_refl⟩
  | j + 1, hj => by
    obtain ⟨q, hq, q1, q2⟩ := expP_low ht h1 h2 j (by omega)
    have r9 : RepK .f64 (-(9 / 32)) := r64 (-9) 5 (by omega) (by omega) (by decide +kernel)
    have r23 : RepK .f64 (23 / 32) := r64 23 5 (by omega) (by omega) (by decide +kernel)
    have m1 := Rat.mul_nonneg (a := -τ) (b := q) (by grind) (by grind)
    have m2 := Rat.mul_nonneg (a := τ + 9 / 32) (b := q) (by grind) (by grind)
    obtain ⟨m, hm, m3, m4⟩ := vx_mul ht hq r9 rep0 (by grind) (by grind)
    have hk := vl_nat (k := .f64) (n := 12 - j) (by show 12 - j ≤ 9007199254740992; omega) (in64 (by omega) (by omega))
    have hk1 : (1 : Rat) ≤ ((12 - j : Nat) : Rat) := one_le_cast (by omega)
    obtain ⟨d, hd, d1, d2⟩ := vx_quo hm hk (by grind) r9 rep0 (by grind) (by grind)
    exact vx_add one64 hd r23 rep1 (by grind) (by grind)
theorem sq_low {p : Option Nat} {q c e : Rat} (hp : Vl .f64 p q) (c0 : 0 ≤ c) (h1 : c ≤ q) (h2 : q ≤ 1) (he : RepK .f64 e) (hce : e ≤ c * c) : ∃ r, Vl .f64 (opF .mul .f64 p p) r ∧ e ≤ r ∧ r ≤ 1 := by
  have a := Rat.mul_le_mul_of_nonneg_left h1 c0
  have b := Rat.mul_le_mul_of_nonneg_right h1 (show 0 ≤ q by grind)
  have c' := Rat.mul_le_mul_of_nonneg_right h2 (show 0 ≤ q by grind)
  exact vx_mul hp hp he rep1 (by grind) (by grind)
theorem expB_low {y : Option Nat} {v : Rat} (hy : Vl .f64 y v) (h1 : -72 ≤ v) (h2 : v ≤ 0) : ∃ r, Vl .f64 (expB y) r ∧ p2 (-122) ≤ r ∧ r ≤ 1 := by
  have h256 : Vl .f64 (some 4643211215818981376) 256 := bet_256
  obtain ⟨t, ht, t1, t2⟩ := vx_quo hy h256 (by decide) (lo := -(9 / 32)) (hi := 0) (r64 (-9) 5 (by omega) (by omega) (by decide +kernel)) rep0 (by grind) (by grind)
  obtain ⟨q0, v0, a0, b0⟩ := expP_low ht t1 t2 12 (by omega)
  obtain ⟨q1, v1, a1, b1⟩ := sq_low (e := 529 / 1024) v0 (by decide +kernel) a0 b0 (r64 529 10 (by omega) (by omega) (by decide +kernel)) (by decide +kernel)
  obtain ⟨q2, v2, a2, b2⟩ := sq_low (e := 279841 / 1048576) v1 (by decide +kernel) a1 b1 (r64 279841 20 (by omega) (by omega) (by decide +kernel)) (by decide +kernel)
  obtain ⟨q3, v3, a3, b3⟩ := sq_low (e := 78310985281 / 1099511627776) v2 (by decide +kernel) a2 b2 (r64 78310985281 40 (by omega) (by omega) (by decide +kernel)) (by decide +kernel)
  obtain ⟨q4, v4, a4, b4⟩ := sq_low (e := 83 / 16384) v3 (by decide +kernel) a3 b3 (r64 83 14 (by omega) (by omega) (by decide +kernel)) (by decide +kernel)
  obtain ⟨q5, v5, a5, b5⟩ := sq_low (e := 6889 / 268435456) v4 (by decide +kernel) a4 b4 (r64 6889 28 (by omega) (by omega) (by decide +kernel)) (by decide +kernel)
  obtain ⟨q6, v6, a6, b6⟩ := sq_low (e := 47458321 / 72057594037927936) v5 (by decide +kernel) a5 b5 (r64 47458321 56 (by omega) (by omega) (by decide +kernel)) (by decide +kernel)
  obtain ⟨q7, v7, a7, b7⟩ := sq_low (e := 1 / 2305843009213693952) v6 (by decide +kernel) a6 b6 (r64 1 61 (by omega) (by omega) (by decide +kernel)) (by decide +kernel)
  obtain ⟨q8, v8, a8, b8⟩ := sq_low (e := p2 (-122)) v7 (by decide +kernel) a7 b7 (rep64 (by omega) (by omega)) (by decide +kernel)
  exact ⟨q8, v8, a8, b8⟩
theorem exp32_low {x : Option Nat} {v : Rat} (hx : Vl .f32 x v) (h1 : -72 ≤ v) (h2 : v ≤ 0) : ∃ r, Vl .f32 (exp32 x) r ∧ p2 (-122) ≤ r ∧ r ≤ 1 := by
  have hy := vl_up hx
  obtain ⟨r, hr, r1, r2⟩ := expB_low hy h1 h2
  have e : expA (upF x) = expB (upF x) := by
    have h45 : p2 (-45) * 35184372088832 = 1 := p2m 45
    have c1 := vl_of (k := .f64) (b := 4641240890982006784) (s := false) (m := 7036874417766400) (p := -45) (by decide)
    have c2 := vl_of (k := .f64) (b := 13864612927836782592) (s := true) (m := 7036874417766400) (p := -45) (by decide)
    have e1 : vD (.number false 7036874417766400 (-45)) = 200 := by
      show (7036874417766400 : Rat) * p2 (-45) = 200
      grind
    have e2 : vD (.number true 7036874417766400 (-45)) = -200 := by
      show -((7036874417766400 : Rat) * p2 (-45)) = -200
      grind
    rw [e1] at c1
    rw [e2] at c2
    have hy' := hy
    obtain ⟨b, eb, -⟩ := hy
    rw [eb] at hy' ⊢
    have o1 := (vl_ordX hy' c1).2.1
    have o2 := (vl_ordX hy' c2).1
    unfold expA
    rw [if_neg, if_neg]
    · rw [beq_iff_eq]
      intro h
      have := o2.1 h
      grind
    · rw [beq_iff_eq]
      intro h
      have := o1.1 h
      grind
  unfold exp32
  rw [e]
  exact (bet_dn (hr.bet r1 r2) (rep32 (by omega) (by omega)) rep1).1.vl
end Go.Proofs.Ytimpabceellihaa
