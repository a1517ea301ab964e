/-
  What float words are worth, as rationals: no rounding passes a number that the format has.
-/
import Derived.Test.YtjajlddnhmbekaaFloat
namespace Go.Proofs.Ytjajlddnhmbekaa
open Ieee

/-! ### Powers of two -/
def p2 (p : Int) : Rat := (2 : Rat) ^ p
theorem p2_pos (p : Int) : 0 < p2 p := Rat.zpow_pos (by decide)
theorem p2_nn (p : Int) : 0 ≤ p2 p := Rat.le_of_lt (p2_pos p)
theorem p2_add (a b : Int) : p2 (a + b) = p2 a * p2 b := Rat.zpow_add (by decide) a b
theorem p2_nat (n : Nat) : p2 (n : Int) = ((2 ^ n : Nat) : Rat) := by
  unfold p2
  rw [Rat.zpow_natCast, Rat.natCast_pow]
  rfl
theorem p2_zero : p2 0 = 1 := Rat.zpow_zero _
theorem one_le_cast {n : Nat} (h : 1 ≤ n) : (1 : Rat) ≤ (n : Rat) := by
  have := Rat.natCast_le_natCast.2 h
  simpa using this
theorem p2_mono {a b : Int} (h : a ≤ b) : p2 a ≤ p2 b := by
  obtain ⟨n, rfl⟩ : ∃ n : Nat, b = a + n := ⟨(b - a).toNat, by omega⟩
  rw [p2_add, p2_nat]
  have := Rat.mul_le_mul_of_nonneg_left (one_le_cast (Nat.one_le_two_pow (n := n))) (p2_nn a)
  rwa [Rat.mul_one] at this

/-- m * 2 ^ p -/
def mg (m : Nat) (p : Int) : Rat := (m : Rat) * p2 p
theorem mg_nn (m : Nat) (p : Int) : 0 ≤ mg m p := Rat.mul_nonneg Rat.natCast_nonneg (p2_nn p)
theorem mg_zero (p : Int) : mg 0 p = 0 := Rat.zero_mul _
theorem mg_up (m n : Nat) (p : Int) : mg m (p + n) = mg (m * 2 ^ n) p := by
  unfold mg
  rw [p2_add, p2_nat, Rat.natCast_mul, Rat.mul_comm (p2 p), Rat.mul_assoc]
theorem mg_le {m n : Nat} {p : Int} : mg m p ≤ mg n p ↔ m ≤ n := by
  unfold mg
  constructor
  · intro h
    exact Rat.natCast_le_natCast.1 (Rat.le_of_mul_le_mul_right h (p2_pos p))
  · intro h
    exact Rat.mul_le_mul_of_nonneg_right (Rat.natCast_le_natCast.2 h) (p2_nn p)
theorem mg_lt {m n : Nat} {p : Int} : mg m p < mg n p ↔ m < n := by
  rw [← Rat.not_le, mg_le, Nat.not_le]
theorem mg_pos {m : Nat} (h : m ≠ 0) (p : Int) : 0 < mg m p := by
  have := (mg_lt (p := p)).2 (Nat.pos_of_ne_zero h)
  rwa [mg_zero] at this
theorem mg_place {p q : Int} (m : Nat) (h : p ≤ q) : mg m p ≤ mg m q := Rat.mul_le_mul_of_nonneg_left (p2_mono h) Rat.natCast_nonneg
theorem mg_one (p : Int) : mg 1 p = p2 p := Rat.one_mul _
theorem mg_pow (n : Nat) (p : Int) : mg (2 ^ n) p = p2 (p + n) := by
  have := mg_up 1 n p
  rw [Nat.one_mul, mg_one] at this
  exact this.symm
theorem mg_mul (m n : Nat) (i j : Int) : mg m i * mg n j = mg (m * n) (i + j) := by
  unfold mg
  rw [p2_add, Rat.natCast_mul, Rat.mul_assoc, Rat.mul_assoc, ← Rat.mul_assoc (p2 i), Rat.mul_comm (p2 i), Rat.mul_assoc]

def sg (s : Bool) (q : Rat) : Rat := if s then -q else q
/-- What a number is worth. -/
def vD : Datum → Rat | .number s m p => sg s (mg m p) | _ => 0
theorem sg_f (q : Rat) : sg false q = q := rfl
theorem sg_t (q : Rat) : sg true q = -q := rfl
theorem sg_mul (s t : Bool) (q r : Rat) : sg s q * sg t r = sg (s ^^ t) (q * r) := by
  cases s <;> cases t <;> simp [sg, Rat.neg_mul, Rat.mul_neg, Rat.neg_neg]
theorem sg_zero (s : Bool) : sg s 0 = 0 := by cases s <;> rfl

/-! ### Rungs -/
section
variable (f : Format)
def rM (R : Nat) : Nat := if R < f.binade then R else f.binade + R % f.binade
def rJ (R : Nat) : Nat := if R < f.binade then 0 else R / f.binade - 1
/-- What a rung is worth, in units of the format's least place. -/
def rU (R : Nat) : Nat := rM f R * 2 ^ rJ f R
/-- .. and itself. -/
def rV (R : Nat) : Rat := mg (rU f R) f.leastPlace
theorem binade_pos : 0 < f.binade := Nat.two_pow_pos _
theorem rM_lt (R : Nat) : rM f R < 2 * f.binade := by
  unfold rM
  have := Nat.mod_lt R (binade_pos f)
  split <;> omega
theorem rR_eq (R : Nat) : R = rJ f R * f.binade + rM f R := by
  unfold rJ rM
  split
  · simp
  · rename_i h
    have h1 : 1 ≤ R / f.binade := (Nat.one_le_div_iff (binade_pos f)).2 (by omega)
    have h2 := Nat.div_add_mod R f.binade
    obtain ⟨k, hk⟩ : ∃ k, R / f.binade = k + 1 := ⟨R / f.binade - 1, by omega⟩
    rw [hk, Nat.mul_succ, Nat.mul_comm] at h2
    rw [hk, Nat.add_sub_cancel]
    omega
theorem rM_ge {R : Nat} (h : rJ f R ≠ 0) : f.binade ≤ rM f R := by
  unfold rJ at h
  unfold rM
  split at h
  · exact absurd rfl h
  · rename_i hh
    rw [if_neg hh]
    omega
theorem rV_eq (R : Nat) : rV f R = mg (rM f R) (f.leastPlace + rJ f R) := by
  unfold rV rU
  rw [mg_up]
theorem rU_step (R : Nat) : rU f R < rU f (R + 1) := by
  have hb := binade_pos f
  have e1 := rR_eq f R
  have e2 := rR_eq f (R + 1)
  have l1 := rM_lt f R
  have l2 := rM_lt f (R + 1)
  unfold rU
  rcases Nat.lt_trichotomy (rJ f R) (rJ f (R + 1)) with h | h | h
  · have g2 := rM_ge f (R := R + 1) (by omega)
    obtain ⟨d, hd⟩ : ∃ d, rJ f (R + 1) = rJ f R + 1 + d := ⟨rJ f (R + 1) - rJ f R - 1, by omega⟩
    rw [hd, Nat.pow_add, Nat.pow_add]
    have h1 : 1 ≤ 2 ^ d := Nat.one_le_two_pow
    have hp : 0 < 2 ^ rJ f R := Nat.two_pow_pos _
    calc rM f R * 2 ^ rJ f R < 2 * f.binade * 2 ^ rJ f R := Nat.mul_lt_mul_of_pos_right l1 hp
      _ = f.binade * (2 ^ rJ f R * 2 ^ 1) := by rw [Nat.pow_one, Nat.mul_comm 2, Nat.mul_assoc, Nat.mul_comm 2]
      _ ≤ f.binade * (2 ^ rJ f R * 2 ^ 1 * 2 ^ d) := Nat.mul_le_mul_left _ (Nat.le_mul_of_pos_right _ h1)
      _ ≤ _ := Nat.mul_le_mul_right _ g2
  · rw [← h] at e2 ⊢
    exact Nat.mul_lt_mul_of_pos_right (by omega) (Nat.two_pow_pos _)
  · exfalso
    have g1 := rM_ge f (R := R) (by omega)
    obtain ⟨d, hd⟩ : ∃ d, rJ f R = rJ f (R + 1) + 1 + d := ⟨rJ f R - rJ f (R + 1) - 1, by omega⟩
    rw [hd, Nat.add_mul, Nat.add_mul, Nat.one_mul] at e1
    omega
theorem rU_lt {R S : Nat} (h : R < S) : rU f R < rU f S := by
  obtain ⟨d, rfl⟩ : ∃ d, S = R + 1 + d := ⟨S - R - 1, by omega⟩
  clear h
  induction d with
  | zero => exact rU_step f R
  | succ d ih => exact Nat.lt_trans ih (rU_step f _)
theorem rU_le {R S : Nat} (h : R ≤ S) : rU f R ≤ rU f S := by
  rcases Nat.lt_or_eq_of_le h with h | rfl
  · exact Nat.le_of_lt (rU_lt f h)
  · exact Nat.le_refl _
theorem rV_le {R S : Nat} (h : R ≤ S) : rV f R ≤ rV f S := mg_le.2 (rU_le f h)
theorem rV_nn (R : Nat) : 0 ≤ rV f R := mg_nn _ _
theorem rU_zero : rU f 0 = 0 := by
  unfold rU rM
  rw [if_pos (binade_pos f), Nat.zero_mul]
theorem rV_zero : rV f 0 = 0 := by unfold rV; rw [rU_zero, mg_zero]

/-! ### Rounding -/
theorem cut_hi {m : Nat} {p last : Int} {K : Nat} (_hm : m ≠ 0) (h : mg m p ≤ mg K last) : Toward.even.cut false (m <<< (p - last).toNat) (last - p).toNat ≤ K := by
  by_cases hp : last ≤ p
  · have hd : (last - p).toNat = 0 := by omega
    rw [hd]
    obtain ⟨n, rfl⟩ : ∃ n : Nat, p = last + n := ⟨(p - last).toNat, by omega⟩
    rw [mg_up, mg_le] at h
    have e : ((last + n - last).toNat) = n := by omega
    rw [e, Nat.shiftLeft_eq]
    unfold Toward.cut
    simp [Nat.mod_one]
    exact h
  · have hz : (p - last).toNat = 0 := by omega
    rw [hz, Nat.shiftLeft_zero]
    obtain ⟨d, rfl⟩ : ∃ n : Nat, last = p + n := ⟨(last - p).toNat, by omega⟩
    have e : ((p + d - p).toNat) = d := by omega
    rw [mg_up, mg_le] at h
    rw [e]
    unfold Toward.cut
    dsimp only
    have hlt : m < 2 ^ (m.log2 + 1) := Nat.lt_log2_self
    by_cases hd : d ≤ m.log2 + 2
    · rw [Nat.min_eq_left hd, Nat.shiftLeft_eq, Nat.one_mul]
      have hpos : 0 < 2 ^ d := Nat.two_pow_pos _
      have hdm := Nat.div_add_mod m (2 ^ d)
      have hlo : m / 2 ^ d ≤ K := Nat.div_le_of_le_mul (by rw [Nat.mul_comm]; exact h)
      have hc : ∀ x : Bool, x.toNat ≤ 1 := by decide
      rcases Nat.lt_or_eq_of_le hlo with hl | hl
      · have := hc (decide (2 ^ d < 2 * (m % 2 ^ d)) || (2 ^ d == 2 * (m % 2 ^ d) && m / 2 ^ d % 2 == 1))
        omega
      · have hr : m % 2 ^ d = 0 := by
          rw [hl, Nat.mul_comm] at hdm
          omega
        rw [hr, hl]
        have : (2 ^ d == 2 * 0) = false := by rw [beq_eq_false_iff_ne]; omega
        simp [this]
    · rw [Nat.min_eq_right (by omega), Nat.shiftLeft_eq, Nat.one_mul]
      have e2 : 2 ^ (m.log2 + 2) = 2 * 2 ^ (m.log2 + 1) := by rw [Nat.pow_succ 2 (m.log2 + 1), Nat.mul_comm]
      have h0 : m / 2 ^ (m.log2 + 2) = 0 := Nat.div_eq_of_lt (by omega)
      have h1 : m % 2 ^ (m.log2 + 2) = m := Nat.mod_eq_of_lt (by omega)
      rw [h0, h1]
      have a : ¬ (2 ^ (m.log2 + 2) < 2 * m) := by omega
      have b : (2 ^ (m.log2 + 2) == 2 * m) = false := by
        rw [beq_eq_false_iff_ne]
        omega
      simp [a, b]
theorem cut_lo {m : Nat} {p last : Int} {K : Nat} (h : mg K last ≤ mg m p) : K ≤ Toward.even.cut false (m <<< (p - last).toNat) (last - p).toNat := by
  by_cases hp : last ≤ p
  · have hd : (last - p).toNat = 0 := by omega
    rw [hd]
    obtain ⟨n, rfl⟩ : ∃ n : Nat, p = last + n := ⟨(p - last).toNat, by omega⟩
    rw [mg_up, mg_le] at h
    have e : ((last + n - last).toNat) = n := by omega
    rw [e, Nat.shiftLeft_eq]
    unfold Toward.cut
    simp [Nat.mod_one]
    exact h
  · have hz : (p - last).toNat = 0 := by omega
    rw [hz, Nat.shiftLeft_zero]
    obtain ⟨d, rfl⟩ : ∃ n : Nat, last = p + n := ⟨(last - p).toNat, by omega⟩
    have e : ((p + d - p).toNat) = d := by omega
    rw [mg_up, mg_le] at h
    rw [e]
    unfold Toward.cut
    dsimp only
    have hpos : 0 < 2 ^ min d (m.log2 + 2) := Nat.two_pow_pos _
    refine Nat.le_trans ?_ (Nat.le_add_right _ _)
    rw [Nat.shiftLeft_eq, Nat.one_mul, Nat.le_div_iff_mul_le hpos]
    exact Nat.le_trans (Nat.mul_le_mul_left _ (Nat.pow_le_pow_right (by decide) (Nat.min_le_left _ _))) h

theorem mg_top {m : Nat} (p : Int) : mg m p < p2 (p + m.log2 + 1) := by
  have := (mg_lt (p := p)).2 (Nat.lt_log2_self (n := m))
  rw [mg_pow] at this
  rwa [show p + m.log2 + 1 = p + ((m.log2 + 1 : Nat) : Int) by omega]
theorem mg_bot {m : Nat} (hm : m ≠ 0) (p : Int) : p2 (p + m.log2) ≤ mg m p := by
  have := (mg_le (p := p)).2 (Nat.log2_self_le hm)
  rwa [mg_pow] at this
theorem binade_mg (p : Int) : mg f.binade p = p2 (p + f.fractionBits) := mg_pow _ _
theorem binade2_mg (p : Int) : mg (2 * f.binade) p = p2 (p + f.fractionBits + 1) := by
  have : 2 * f.binade = 2 ^ (f.fractionBits + 1) := by unfold Format.binade; rw [Nat.pow_succ]; omega
  rw [this, mg_pow]
  congr 1
  omega
theorem rung_hi {m : Nat} {p : Int} {R : Nat} (hm : m ≠ 0) (h : mg m p ≤ rV f R) : rungOf f m p ≤ R := by
  unfold rungOf
  dsimp only
  generalize hl : max (p + (m.log2 : Int) - f.fractionBits) f.leastPlace = last
  obtain ⟨L, hL⟩ : ∃ L : Nat, last = f.leastPlace + L := ⟨(last - f.leastPlace).toNat, by omega⟩
  rw [show (last - f.leastPlace).toNat = L by omega]
  have e := rR_eq f R
  rw [rV_eq] at h
  have hk2 : Toward.even.cut false (m <<< (p - last).toNat) (last - p).toNat ≤ 2 * f.binade := by
    refine cut_hi hm (Rat.le_of_lt ?_)
    rw [binade2_mg]
    refine Std.lt_of_lt_of_le (mg_top p) (p2_mono (by omega))
  rcases Nat.lt_trichotomy (rJ f R) L with hj | hj | hj
  · exfalso
    have h1 : p2 (p + m.log2) ≤ mg m p := mg_bot hm p
    have h2 : mg (rM f R) (f.leastPlace + rJ f R) < p2 (f.leastPlace + rJ f R + f.fractionBits + 1) := by
      rw [← binade2_mg]
      exact mg_lt.2 (rM_lt f R)
    have h3 : p2 (f.leastPlace + rJ f R + f.fractionBits + 1) ≤ p2 (p + m.log2) := p2_mono (by omega)
    exact absurd (Std.lt_of_lt_of_le (Std.lt_of_le_of_lt (Rat.le_trans h1 h) h2) h3) Rat.lt_irrefl
  · rw [show f.leastPlace + (rJ f R : Int) = last by omega] at h
    have := cut_hi hm h
    rw [← hj]
    omega
  · have g := rM_ge f (R := R) (by omega)
    obtain ⟨d, hd⟩ : ∃ d, rJ f R = L + 1 + d := ⟨rJ f R - L - 1, by omega⟩
    rw [hd, Nat.add_mul, Nat.add_mul, Nat.one_mul] at e
    omega
theorem rung_lo {m : Nat} {p : Int} {R : Nat} (hm : m ≠ 0) (h : rV f R ≤ mg m p) : R ≤ rungOf f m p := by
  unfold rungOf
  dsimp only
  generalize hl : max (p + (m.log2 : Int) - f.fractionBits) f.leastPlace = last
  obtain ⟨L, hL⟩ : ∃ L : Nat, last = f.leastPlace + L := ⟨(last - f.leastPlace).toNat, by omega⟩
  rw [show (last - f.leastPlace).toNat = L by omega]
  have e := rR_eq f R
  have hlt := rM_lt f R
  rw [rV_eq] at h
  rcases Nat.lt_trichotomy (rJ f R) L with hj | hj | hj
  · have hk : f.binade ≤ Toward.even.cut false (m <<< (p - last).toNat) (last - p).toNat := by
      refine cut_lo ?_
      rw [binade_mg]
      exact Rat.le_trans (p2_mono (by omega)) (mg_bot hm p)
    obtain ⟨d, hd⟩ : ∃ d, L = rJ f R + 1 + d := ⟨L - rJ f R - 1, by omega⟩
    rw [hd, Nat.add_mul, Nat.add_mul, Nat.one_mul]
    omega
  · rw [show f.leastPlace + (rJ f R : Int) = last by omega] at h
    have := cut_lo h
    rw [← hj]
    omega
  · exfalso
    have g := rM_ge f (R := R) (by omega)
    have h1 : p2 (f.leastPlace + rJ f R + f.fractionBits) ≤ mg (rM f R) (f.leastPlace + rJ f R) := by
      rw [← binade_mg]
      exact mg_le.2 g
    have h2 := mg_top (m := m) p
    have h3 : p2 (p + m.log2 + 1) ≤ p2 (f.leastPlace + rJ f R + f.fractionBits) := p2_mono (by omega)
    exact absurd (Std.lt_of_le_of_lt (Rat.le_trans h1 h) (Std.lt_of_lt_of_le h2 h3)) Rat.lt_irrefl

/-! ### Words that stand between two that the format has -/
/-- The word is a number, between lo and hi. -/
def WBet (b : Nat) (lo hi : Rat) : Prop := ∃ s R, f.read b = .number s (rM f R) (f.leastPlace + rJ f R) ∧ R < f.infRung ∧ lo ≤ sg s (rV f R) ∧ sg s (rV f R) ≤ hi
/-- q is a number of the format's. -/
def Rep (q : Rat) : Prop := ∃ s R, R < f.infRung ∧ q = sg s (rV f R)
theorem read_rung (s : Bool) {R : Nat} (h : R < f.infRung) : f.read (f.word s R) = .number s (rM f R) (f.leastPlace + rJ f R) := by
  rw [read_word f s (Nat.lt_trans h f.infRung_lt)]
  unfold rM rJ
  split
  · simp
  · first | rfl | rw [if_pos h]
theorem read_val (s : Bool) {R : Nat} (h : R < f.infRung) : vD (f.read (f.word s R)) = sg s (rV f R) := by
  rw [read_rung f s h, rV_eq]
  rfl
end
theorem rep_zero {f : Format} (h : 0 < f.infRung) : Rep f 0 := ⟨false, 0, h, by rw [rV_zero]; rfl⟩
theorem rep_neg {f : Format} {q : Rat} (h : Rep f q) : Rep f (-q) := by
  obtain ⟨s, R, h1, rfl⟩ := h
  exact ⟨!s, R, h1, by cases s <;> simp [sg, Rat.neg_neg]⟩
/-- A rounding does not pass a number of the format's. -/
theorem near_bet {f : Format} {s : Bool} {m : Nat} {p : Int} {lo hi : Rat} (h0 : 0 < f.infRung) (hlo : Rep f lo) (hhi : Rep f hi) (h1 : lo ≤ vD (.number s m p)) (h2 : vD (.number s m p) ≤ hi) : WBet f (f.nearest s m p) lo hi := by
  by_cases hm : m = 0
  · subst hm
    refine ⟨s, 0, by unfold Format.nearest; rw [if_pos rfl]; exact read_rung f s h0, h0, ?_, ?_⟩
    · rw [rV_zero, sg_zero]
      simp only [vD, mg_zero, sg_zero] at h1
      exact h1
    · rw [rV_zero, sg_zero]
      simp only [vD, mg_zero, sg_zero] at h2
      exact h2
  have hx := mg_pos hm p
  have hn := nearest_eq f s p hm
  obtain ⟨sl, Rl, hl, rfl⟩ := hlo
  obtain ⟨sh, Rh, hh, rfl⟩ := hhi
  have hlv := rV_nn f Rl
  have hhv := rV_nn f Rh
  simp only [vD] at h1 h2
  cases s
  · simp only [sg_f] at h1 h2
    cases sh
    · rw [sg_f] at h2
      have hr := rung_hi f hm h2
      have hlt : rungOf f m p < f.infRung := Nat.lt_of_le_of_lt hr hh
      refine ⟨false, rungOf f m p, by rw [hn, Nat.min_eq_left (Nat.le_of_lt hlt)]; exact read_rung f _ hlt, hlt, ?_, rV_le f hr⟩
      rw [sg_f]
      cases sl
      · rw [sg_f] at h1 ⊢
        exact rV_le f (rung_lo f hm h1)
      · rw [sg_t]
        have := rV_nn f (rungOf f m p)
        grind
    · exfalso
      rw [sg_t] at h2
      grind
  · simp only [sg_t] at h1 h2
    cases sl
    · exfalso
      rw [sg_f] at h1
      grind
    · rw [sg_t] at h1
      have hr := rung_hi f (p := p) hm (R := Rl) (by grind)
      have hlt : rungOf f m p < f.infRung := Nat.lt_of_le_of_lt hr hl
      have hle := rV_le f hr
      refine ⟨true, rungOf f m p, by rw [hn, Nat.min_eq_left (Nat.le_of_lt hlt)]; exact read_rung f _ hlt, hlt, ?_, ?_⟩
      · rw [sg_t, sg_t]
        grind
      · rw [sg_t]
        cases sh
        · rw [sg_f]
          have := rV_nn f (rungOf f m p)
          grind
        · rw [sg_t] at h2 ⊢
          have := rV_le f (rung_lo f (p := p) hm (R := Rh) (by grind))
          grind

/-! ### Worth of sums, products, quotients -/
theorem signed_val (s : Bool) (m u : Nat) (b : Int) : ((signed s m u : Int) : Rat) * p2 b = sg s (mg m (b + u)) := by
  rw [mg_up]
  unfold signed sg mg
  rw [Nat.shiftLeft_eq]
  cases s
  · simp only [Bool.false_eq_true, if_false]
    rw [Rat.intCast_natCast]
  · simp only [if_true]
    rw [Rat.intCast_neg, Rat.intCast_natCast, Rat.neg_mul]
theorem total_val (z : Int) (c : Bool) (b : Int) : sg (if z = 0 then c else decide (z < 0)) (mg z.natAbs b) = (z : Rat) * p2 b := by
  rcases Int.lt_trichotomy z 0 with h | h | h
  · rw [if_neg (by omega), decide_eq_true h, sg_t]
    obtain ⟨n, rfl⟩ : ∃ n : Nat, z = -(n : Int) := ⟨z.natAbs, by omega⟩
    rw [Int.natAbs_neg, Int.natAbs_natCast, Rat.intCast_neg, Rat.intCast_natCast, Rat.neg_mul]
    rfl
  · subst h
    rw [if_pos rfl]
    simp [mg_zero, sg_zero, Rat.zero_mul]
  · rw [if_neg (by omega), decide_eq_false (by omega), sg_f]
    obtain ⟨n, rfl⟩ : ∃ n : Nat, z = (n : Int) := ⟨z.natAbs, by omega⟩
    rw [Int.natAbs_natCast, Rat.intCast_natCast]
    rfl
theorem sum_val (s : Bool) (m : Nat) (i : Int) (t : Bool) (n : Nat) (j : Int) : ∃ r l p, (Datum.number s m i).sum (.number t n j) = some (.number r l p) ∧ vD (.number r l p) = vD (.number s m i) + vD (.number t n j) := by
  refine ⟨_, _, _, rfl, ?_⟩
  simp only [vD]
  rw [total_val, Rat.intCast_add, Rat.add_mul, signed_val, signed_val]
  congr 3 <;> omega
theorem product_val (s : Bool) (m : Nat) (i : Int) (t : Bool) (n : Nat) (j : Int) : ∃ r l p, (Datum.number s m i).product (.number t n j) = some (.number r l p) ∧ vD (.number r l p) = vD (.number s m i) * vD (.number t n j) := by
  refine ⟨_, _, _, rfl, ?_⟩
  simp only [vD]
  rw [sg_mul, mg_mul]
theorem quotient_val (dg : Nat) (hd : 1 ≤ dg) (s : Bool) (m : Nat) (i : Int) (t : Bool) (n : Nat) (j : Int) (hn : n ≠ 0) :
    ∃ l p, (Datum.number s m i).quotient dg (.number t n j) = some (.number (s ^^ t) l p) ∧ (m = 0 → l = 0) ∧ ∀ E : Int, mg m i ≤ p2 E * mg n j → mg l p ≤ p2 E := by
  refine ⟨_, _, by simp only [Datum.quotient]; rw [if_neg hn], ?_, ?_⟩
  · rintro rfl
    simp
  · intro E hE
    by_cases hm : m = 0
    · subst hm
      simp only [Nat.zero_shiftLeft, Nat.zero_div, Nat.zero_mod, Nat.mul_zero]
      rw [show ((0 != 0 : Bool)).toNat = 0 from rfl, mg_zero]
      exact p2_nn E
    generalize hmore : dg + n.log2 - m.log2 = more
    rw [Nat.shiftLeft_eq]
    have hbig : n < m * 2 ^ more := by
      have h1 : n < 2 ^ (n.log2 + 1) := Nat.lt_log2_self
      have h2 : 2 ^ m.log2 ≤ m := Nat.log2_self_le hm
      calc n < 2 ^ (n.log2 + 1) := h1
        _ ≤ 2 ^ (m.log2 + more) := Nat.pow_le_pow_right (by decide) (by omega)
        _ = 2 ^ m.log2 * 2 ^ more := Nat.pow_add _ _ _
        _ ≤ m * 2 ^ more := Nat.mul_le_mul_right _ h2
    generalize hD : m * 2 ^ more = D at *
    have hE' : mg D (i - more) ≤ mg n (j + E) := by
      have e1 : mg D (i - more) = mg m i := by
        rw [← hD, ← mg_up]
        congr 1
        omega
      have e2 : mg n (j + E) = p2 E * mg n j := by
        unfold mg
        rw [p2_add, ← Rat.mul_assoc, Rat.mul_comm]
      rw [e1, e2]
      exact hE
    have hpos : 0 < n := Nat.pos_of_ne_zero hn
    have hdm := Nat.div_add_mod D n
    by_cases hg : i - more ≤ j + E
    · obtain ⟨g, hgg⟩ : ∃ g : Nat, j + E = (i - more) + g := ⟨(j + E - (i - more)).toNat, by omega⟩
      rw [hgg, mg_up, mg_le] at hE'
      have hl : 2 * (D / n) + (D % n != 0).toNat ≤ 2 ^ (g + 1) := by
        rw [Nat.pow_succ]
        have hq : D / n ≤ 2 ^ g := Nat.div_le_of_le_mul hE'
        have hc : ∀ x : Bool, x.toNat ≤ 1 := by decide
        have := hc (D % n != 0)
        rcases Nat.lt_or_eq_of_le hq with hq | hq
        · omega
        · have hr : D % n = 0 := by
            rw [hq] at hdm
            omega
          rw [hr, hq]
          simp
          omega
      have := (mg_le (p := i - j - more - 1)).2 hl
      rw [mg_pow] at this
      rwa [show i - j - more - 1 + ((g + 1 : Nat) : Int) = E by omega] at this
    · exfalso
      have := Rat.le_trans (mg_place D (show j + E ≤ i - more by omega)) hE'
      rw [mg_le] at this
      omega
end Go.Proofs.Ytjajlddnhmbekaa
