/-
  What float words are worth, as rationals: no rounding passes a number that the format has.
  Float operations on what stands between two numbers of the format's.
-/
import Derived.Test.YtimpabceellihaaFloat
namespace Go.Proofs.Ytimpabceellihaa
section
open Ieee

/-! ### Powers of two -/
def p2 (p : Int) : Rat := (2 : Rat) ^ p
theorem p2_pos (p : Int) : 0 < p2 p := Rat.zpow_pos (by decide)
theorem p2_nn (p : Int) : 0 ≤ p2 p := Rat.le_of_lt (p2_pos p)
theorem p2_add (a b : Int) : p2 (a + b) = p2 a * p2 b := Rat.zpow_add (by decide) a b
theorem p2_nat (n : Nat) : p2 (n : Int) = ((2 ^ n : Nat) : Rat) := by
  unfold p2
  rw [Rat.zpow_natCast, Rat.natCast_pow]
  rfl
theorem p2_zero : p2 0 = 1 := Rat.zpow_zero _
theorem one_le_cast {n : Nat} (h : 1 ≤ n) : (1 : Rat) ≤ (n : Rat) := by
  have := Rat.natCast_le_natCast.2 h
  simpa using this
theorem p2_mono {a b : Int} (h : a ≤ b) : p2 a ≤ p2 b := by
  obtain ⟨n, rfl⟩ : ∃ n : Nat, b = a + n := ⟨(b - a).toNat, by omega⟩
  rw [p2_add, p2_nat]
  have := Rat.mul_le_mul_of_nonneg_left (one_le_cast (Nat.one_le_two_pow (n := n))) (p2_nn a)
  rwa [Rat.mul_one] at this

/-- m * 2 ^ p -/
def mg (m : Nat) (p : Int) : Rat := (m : Rat) * p2 p
theorem mg_nn (m : Nat) (p : Int) : 0 ≤ mg m p := Rat.mul_nonneg Rat.natCast_nonneg (p2_nn p)
theorem mg_zero (p : Int) : mg 0 p = 0 := Rat.zero_mul _
theorem mg_up (m n : Nat) (p : Int) : mg m (p + n) = mg (m * 2 ^ n) p := by
  unfold mg
  rw [p2_add, p2_nat, Rat.natCast_mul, Rat.mul_comm (p2 p), Rat.mul_assoc]
theorem mg_le {m n : Nat} {p : Int} : mg m p ≤ mg n p ↔ m ≤ n := by
  unfold mg
  constructor
  · intro h
    exact Rat.natCast_le_natCast.1 (Rat.le_of_mul_le_mul_right h (p2_pos p))
  · intro h
    exact Rat.mul_le_mul_of_nonneg_right (Rat.natCast_le_natCast.2 h) (p2_nn p)
theorem mg_lt {m n : Nat} {p : Int} : mg m p < mg n p ↔ m < n := by
  rw [← Rat.not_le, mg_le, Nat.not_le]
theorem mg_pos {m : Nat} (h : m ≠ 0) (p : Int) : 0 < mg m p := by
  have := (mg_lt (p := p)).2 (Nat.pos_of_ne_zero h)
  rwa [mg_zero] at this
theorem mg_place {p q : Int} (m : Nat) (h : p ≤ q) : mg m p ≤ mg m q := Rat.mul_le_mul_of_nonneg_left (p2_mono h) Rat.natCast_nonneg
theorem mg_one (p : Int) : mg 1 p = p2 p := Rat.one_mul _
theorem mg_pow (n : Nat) (p : Int) : mg (2 ^ n) p = p2 (p + n) := by
  have := mg_up 1 n p
  rw [Nat.one_mul, mg_one] at this
  exact this.symm
theorem mg_mul (m n : Nat) (i j : Int) : mg m i * mg n j = mg (m * n) (i + j) := by
  unfold mg
  rw [p2_add, Rat.natCast_mul, Rat.mul_assoc, Rat.mul_assoc, ← Rat.mul_assoc (p2 i), Rat.mul_comm (p2 i), Rat.mul_assoc]

def sg (s : Bool) (q : Rat) : Rat := if s then -q else q
/-- What a number is worth. -/
def vD : Datum → Rat | .number s m p => sg s (mg m p) | _ => 0
theorem sg_f (q : Rat) : sg false q = q := rfl
theorem sg_t (q : Rat) : sg true q = -q := rfl
theorem sg_mul (s t : Bool) (q r : Rat) : sg s q * sg t r = sg (s ^^ t) (q * r) := by
  cases s <;> cases t <;> simp [sg, Rat.neg_mul, Rat.mul_neg, Rat.neg_neg]
theorem sg_zero (s : Bool) : sg s 0 = 0 := by cases s <;> rfl

/-! ### Rungs -/
section
variable (f : Format)
def rM (R : Nat) : Nat := if R < f.binade then R else f.binade + R % f.binade
def rJ (R : Nat) : Nat := if R < f.binade then 0 else R / f.binade - 1
/-- What a rung is worth, in units of the format's least place. -/
def rU (R : Nat) : Nat := rM f R * 2 ^ rJ f R
/-- .. and itself. -/
def rV (R : Nat) : Rat := mg (rU f R) f.leastPlace
theorem binade_pos : 0 < f.binade := Nat.two_pow_pos _
theorem rM_lt (R : Nat) : rM f R < 2 * f.binade := by
  unfold rM
  have := Nat.mod_lt R (binade_pos f)
  split <;> omega
theorem rR_eq (R : Nat) : R = rJ f R * f.binade + rM f R := by
  unfold rJ rM
  split
  · simp
  · rename_i h
    have h1 : 1 ≤ R / f.binade := (Nat.one_le_div_iff (binade_pos f)).2 (by omega)
    have h2 := Nat.div_add_mod R f.binade
    obtain ⟨k, hk⟩ : ∃ k, R / f.binade = k + 1 := ⟨R / f.binade - 1, by omega⟩
    rw [hk, Nat.mul_succ, Nat.mul_comm] at h2
    rw [hk, Nat.add_sub_cancel]
    omega
theorem rM_ge {R : Nat} (h : rJ f R ≠ 0) : f.binade ≤ rM f R := by
  unfold rJ at h
  unfold rM
  split at h
  · exact absurd rfl h
  · rename_i hh
    rw [if_neg hh]
    omega
theorem rV_eq (R : Nat) : rV f R = mg (rM f R) (f.leastPlace + rJ f R) := by
  unfold rV rU
  rw [mg_up]
theorem rU_step (R : Nat) : rU f R < rU f (R + 1) := by
  have hb := binade_pos f
  have e1 := rR_eq f R
  have e2 := rR_eq f (R + 1)
  have l1 := rM_lt f R
  have l2 := rM_lt f (R + 1)
  unfold rU
  rcases Nat.lt_trichotomy (rJ f R) (rJ f (R + 1)) with h | h | h
  · have g2 := rM_ge f (R := R + 1) (by omega)
    obtain ⟨d, hd⟩ : ∃ d, rJ f (R + 1) = rJ f R + 1 + d := ⟨rJ f (R + 1) - rJ f R - 1, by omega⟩
    rw [hd, Nat.pow_add, Nat.pow_add]
    have h1 : 1 ≤ 2 ^ d := Nat.one_le_two_pow
    have hp : 0 < 2 ^ rJ f R := Nat.two_pow_pos _
    calc rM f R * 2 ^ rJ f R < 2 * f.binade * 2 ^ rJ f R := Nat.mul_lt_mul_of_pos_right l1 hp
      _ = f.binade * (2 ^ rJ f R * 2 ^ 1) := by rw [Nat.pow_one, Nat.mul_comm 2, Nat.mul_assoc, Nat.mul_comm 2]
      _ ≤ f.binade * (2 ^ rJ f R * 2 ^ 1 * 2 ^ d) := Nat.mul_le_mul_left _ (Nat.le_mul_of_pos_right _ h1)
      _ ≤ _ := Nat.mul_le_mul_right _ g2
  · rw [← h] at e2 ⊢
    exact Nat.mul_lt_mul_of_pos_right (by omega) (Nat.two_pow_pos _)
  · exfalso
    have g1 := rM_ge f (R := R) (by omega)
    obtain ⟨d, hd⟩ : ∃ d, rJ f R = rJ f (R + 1) + 1 + d := ⟨rJ f R - rJ f (R + 1) - 1, by omega⟩
    rw [hd, Nat.add_mul, Nat.add_mul, Nat.one_mul] at e1
    omega
theorem rU_lt {R S : Nat} (h : R < S) : rU f R < rU f S := by
  obtain ⟨d, rfl⟩ : ∃ d, S = R + 1 + d := ⟨S - R - 1, by omega⟩
  clear h
  induction d with
  | zero => exact rU_step f R
  | succ d ih => exact Nat.lt_trans ih (rU_step f _)
theorem rU_le {R S : Nat} (h : R ≤ S) : rU f R ≤ rU f S := by
  rcases Nat.lt_or_eq_of_le h with h | rfl
  · exact Nat.le_of_lt (rU_lt f h)
  · exact Nat.le_refl _
theorem rV_le {R S : Nat} (h : R ≤ S) : rV f R ≤ rV f S := mg_le.2 (rU_le f h)
theorem rV_nn (R : Nat) : 0 ≤ rV f R := mg_nn _ _
theorem rU_zero : rU f 0 = 0 := by
  unfold rU rM
  rw [if_pos (binade_pos f), Nat.zero_mul]
theorem rV_zero : rV f 0 = 0 := by unfold rV; rw [rU_zero, mg_zero]

/-! ### Rounding -/
theorem cut_hi {m : Nat} {p last : Int} {K : Nat} (_hm : m ≠ 0) (h : mg m p ≤ mg K last) : Toward.even.cut false (m <<< (p - last).toNat) (last - p).toNat ≤ K := by
  by_cases hp : last ≤ p
  · have hd : (last - p).toNat = 0 := by omega
    rw [hd]
    obtain ⟨n, rfl⟩ : ∃ n : Nat, p = last + n := ⟨(p - last).toNat, by omega⟩
    rw [mg_up, mg_le] at h
    have e : ((last + n - last).toNat) = n := by omega
    rw [e, Nat.shiftLeft_eq]
    unfold Toward.cut
    simp [Nat.mod_one]
    exact h
  · have hz : (p - last).toNat = 0 := by omega
    rw [hz, Nat.shiftLeft_zero]
    obtain ⟨d, rfl⟩ : ∃ n : Nat, last = p + n := ⟨(last - p).toNat, by omega⟩
    have e : ((p + d - p).toNat) = d := by omega
    rw [mg_up, mg_le] at h
    rw [e]
    unfold Toward.cut
    dsimp only
    have hlt : m < 2 ^ (m.log2 + 1) := Nat.lt_log2_self
    by_cases hd : d ≤ m.log2 + 2
    · rw [Nat.min_eq_left hd, Nat.shiftLeft_eq, Nat.one_mul]
      have hpos : 0 < 2 ^ d := Nat.two_pow_pos _
      have hdm := Nat.div_add_mod m (2 ^ d)
      have hlo : m / 2 ^ d ≤ K := Nat.div_le_of_le_mul (by rw [Nat.mul_comm]; exact h)
      have hc : ∀ x : Bool, x.toNat ≤ 1 := by decide
      rcases Nat.lt_or_eq_of_le hlo with hl | hl
      · have := hc (decide (2 ^ d < 2 * (m % 2 ^ d)) || (2 ^ d == 2 * (m % 2 ^ d) && m / 2 ^ d % 2 == 1))
        omega
      · have hr : m % 2 ^ d = 0 := by
          rw [hl, Nat.mul_comm] at hdm
          omega
        rw [hr, hl]
        have : (2 ^ d == 2 * 0) = false := by rw [beq_eq_false_iff_ne]; omega
        simp [this]
    · rw [Nat.min_eq_right (by omega), Nat.shiftLeft_eq, Nat.one_mul]
      have e2 : 2 ^ (m.log2 + 2) = 2 * 2 ^ (m.log2 + 1) := by rw [Nat.pow_succ 2 (m.log2 + 1), Nat.mul_comm]
      have h0 : m / 2 ^ (m.log2 + 2) = 0 := Nat.div_eq_of_lt (by omega)
      have h1 : m % 2 ^ (m.log2 + 2) = m := Nat.mod_eq_of_lt (by omega)
      rw [h0, h1]
      have a : ¬ (2 ^ (m.log2 + 2) < 2 * m) := by omega
      have b : (2 ^ (m.log2 + 2) == 2 * m) = false := by
        rw [beq_eq_false_iff_ne]
        omega
      simp [a, b]
theorem cut_lo {m : Nat} {p last : Int} {K : Nat} (h : mg K last ≤ mg m p) : K ≤ Toward.even.cut false (m <<< (p - last).toNat) (last - p).toNat := by
  by_cases hp : last ≤ p
  · have hd : (last - p).toNat = 0 := by omega
    rw [hd]
    obtain ⟨n, rfl⟩ : ∃ n : Nat, p = last + n := ⟨(p - last).toNat, by omega⟩
    rw [mg_up, mg_le] at h
    have e : ((last + n - last).toNat) = n := by omega
    rw [e, Nat.shiftLeft_eq]
    unfold Toward.cut
    simp [Nat.mod_one]
    exact h
  · have hz : (p - last).toNat = 0 := by omega
    rw [hz, Nat.shiftLeft_zero]
    obtain ⟨d, rfl⟩ : ∃ n : Nat, last = p + n := ⟨(last - p).toNat, by omega⟩
    have e : ((p + d - p).toNat) = d := by omega
    rw [mg_up, mg_le] at h
    rw [e]
    unfold Toward.cut
    dsimp only
    have hpos : 0 < 2 ^ min d (m.log2 + 2) := Nat.two_pow_pos _
    refine Nat.le_trans ?_ (Nat.le_add_right _ _)
    rw [Nat.shiftLeft_eq, Nat.one_mul, Nat.le_div_iff_mul_le hpos]
    exact Nat.le_trans (Nat.mul_le_mul_left _ (Nat.pow_le_pow_right (by decide) (Nat.min_le_left _ _))) h

theorem mg_top {m : Nat} (p : Int) : mg m p < p2 (p + m.log2 + 1) := by
  have := (mg_lt (p := p)).2 (Nat.lt_log2_self (n := m))
  rw [mg_pow] at this
  rwa [show p + m.log2 + 1 = p + ((m.log2 + 1 : Nat) : Int) by omega]
theorem mg_bot {m : Nat} (hm : m ≠ 0) (p : Int) : p2 (p + m.log2) ≤ mg m p := by
  have := (mg_le (p := p)).2 (Nat.log2_self_le hm)
  rwa [mg_pow] at this
theorem binade_mg (p : Int) : mg f.binade p = p2 (p + f.fractionBits) := mg_pow _ _
theorem binade2_mg (p : Int) : mg (2 * f.binade) p = p2 (p + f.fractionBits + 1) := by
  have : 2 * f.binade = 2 ^ (f.fractionBits + 1) := by unfold Format.binade; rw [Nat.pow_succ]; omega
  rw [this, mg_pow]
  congr 1
  omega
theorem rung_hi {m : Nat} {p : Int} {R : Nat} (hm : m ≠ 0) (h : mg m p ≤ rV f R) : rungOf f m p ≤ R := by
  unfold rungOf
  dsimp only
  generalize hl : max (p + (m.log2 : Int) - f.fractionBits) f.leastPlace = last
  obtain ⟨L, hL⟩ : ∃ L : Nat, last = f.leastPlace + L := ⟨(last - f.leastPlace).toNat, by omega⟩
  rw [show (last - f.leastPlace).toNat = L by omega]
  have e := rR_eq f R
  rw [rV_eq] at h
  have hk2 : Toward.even.cut false (m <<< (p - last).toNat) (last - p).toNat ≤ 2 * f.binade := by
    refine cut_hi hm (Rat.le_of_lt ?_)
    rw [binade2_mg]
    refine Std.lt_of_lt_of_le (mg_top p) (p2_mono (by omega))
  rcases Nat.lt_trichotomy (rJ f R) L with hj | hj | hj
  · exfalso
    have h1 : p2 (p + m.log2) ≤ mg m p := mg_bot hm p
    have h2 : mg (rM f R) (f.leastPlace + rJ f R) < p2 (f.leastPlace + rJ f R + f.fractionBits + 1) := by
      rw [← binade2_mg]
      exact mg_lt.2 (rM_lt f R)
    have h3 : p2 (f.leastPlace + rJ f R + f.fractionBits + 1) ≤ p2 (p + m.log2) := p2_mono (by omega)
    exact absurd (Std.lt_of_lt_of_le (Std.lt_of_le_of_lt (Rat.le_trans h1 h) h2) h3) Rat.lt_irrefl
  · rw [show f.leastPlace + (rJ f R : Int) = last by omega] at h
    have := cut_hi hm h
    rw [← hj]
    omega
  · have g := rM_ge f (R := R) (by omega)
    obtain ⟨d, hd⟩ : ∃ d, rJ f R = L + 1 + d := ⟨rJ f R - L - 1, by omega⟩
    rw [hd, Nat.add_mul, Nat.add_mul, Nat.one_mul] at e
    omega
theorem rung_lo {m : Nat} {p : Int} {R : Nat} (hm : m ≠ 0) (h : rV f R ≤ mg m p) : R ≤ rungOf f m p := by
  unfold rungOf
  dsimp only
  generalize hl : max (p + (m.log2 : Int) - f.fractionBits) f.leastPlace = last
  obtain ⟨L, hL⟩ : ∃ L : Nat, last = f.leastPlace + L := ⟨(last - f.leastPlace).toNat, by omega⟩
  rw [show (last - f.leastPlace).toNat = L by omega]
  have e := rR_eq f R
  have hlt := rM_lt f R
  rw [rV_eq] at h
  rcases Nat.lt_trichotomy (rJ f R) L with hj | hj | hj
  · have hk : f.binade ≤ Toward.even.cut false (m <<< (p - last).toNat) (last - p).toNat := by
      refine cut_lo ?_
      rw [binade_mg]
      exact Rat.le_trans (p2_mono (by omega)) (mg_bot hm p)
    obtain ⟨d, hd⟩ : ∃ d, L = rJ f R + 1 + d := ⟨L - rJ f R - 1, by omega⟩
    rw [hd, Nat.add_mul, Nat.add_mul, Nat.one_mul]
    omega
  · rw [show f.leastPlace + (rJ f R : Int) = last by omega] at h
    have := cut_lo h
    rw [← hj]
    omega
  · exfalso
    have g := rM_ge f (R := R) (by omega)
    have h1 : p2 (f.leastPlace + rJ f R + f.fractionBits) ≤ mg (rM f R) (f.leastPlace + rJ f R) := by
      rw [← binade_mg]
      exact mg_le.2 g
    have h2 := mg_top (m := m) p
    have h3 : p2 (p + m.log2 + 1) ≤ p2 (f.leastPlace + rJ f R + f.fractionBits) := p2_mono (by omega)
    exact absurd (Std.lt_of_le_of_lt (Rat.le_trans h1 h) (Std.lt_of_lt_of_le h2 h3)) Rat.lt_irrefl

/-! ### Words that stand between two that the format has -/
/-- The word is a number, between lo and hi. -/
def WBet (b : Nat) (lo hi : Rat) : Prop := ∃ s R, f.read b = .number s (rM f R) (f.leastPlace + rJ f R) ∧ R < f.infRung ∧ lo ≤ sg s (rV f R) ∧ sg s (rV f R) ≤ hi
/-- q is a number of the format's. -/
def Rep (q : Rat) : Prop := ∃ s R, R < f.infRung ∧ q = sg s (rV f R)
theorem read_rung (s : Bool) {R : Nat} (h : R < f.infRung) : f.read (f.word s R) = .number s (rM f R) (f.leastPlace + rJ f R) := by
  rw [read_word f s (Nat.lt_trans h f.infRung_lt)]
  unfold rM rJ
  split
  · simp
  · first | rfl | rw [if_pos h]
theorem read_val (s : Bool) {R : Nat} (h : R < f.infRung) : vD (f.read (f.word s R)) = sg s (rV f R) := by
  rw [read_rung f s h, rV_eq]
  rfl
end
theorem rep_zero {f : Format} (h : 0 < f.infRung) : Rep f 0 := ⟨false, 0, h, by rw [rV_zero]; rfl⟩
theorem rep_neg {f : Format} {q : Rat} (h : Rep f q) : Rep f (-q) := by
  obtain ⟨s, R, h1, rfl⟩ := h
  exact ⟨!s, R, h1, by cases s <;> simp [sg, Rat.neg_neg]⟩
/-- A rounding does not pass a number of the format's. -/
theorem near_bet {f : Format} {s : Bool} {m : Nat} {p : Int} {lo hi : Rat} (h0 : 0 < f.infRung) (hlo : Rep f lo) (hhi : Rep f hi) (h1 : lo ≤ vD (.number s m p)) (h2 : vD (.number s m p) ≤ hi) : WBet f (f.nearest s m p) lo hi := by
  by_cases hm : m = 0
  · subst hm
    refine ⟨s, 0, by unfold Format.nearest; rw [if_pos rfl]; exact read_rung f s h0, h0, ?_, ?_⟩
    · rw [rV_zero, sg_zero]
      simp only [vD, mg_zero, sg_zero] at h1
      exact h1
    · rw [rV_zero, sg_zero]
      simp only [vD, mg_zero, sg_zero] at h2
      exact h2
  have hx := mg_pos hm p
  have hn := nearest_eq f s p hm
  obtain ⟨sl, Rl, hl, rfl⟩ := hlo
  obtain ⟨sh, Rh, hh, rfl⟩ := hhi
  have hlv := rV_nn f Rl
  have hhv := rV_nn f Rh
  simp only [vD] at h1 h2
  cases s
  · simp only [sg_f] at h1 h2
    cases sh
    · rw [sg_f] at h2
      have hr := rung_hi f hm h2
      have hlt : rungOf f m p < f.infRung := Nat.lt_of_le_of_lt hr hh
      refine ⟨false, rungOf f m p, by rw [hn, Nat.min_eq_left (Nat.le_of_lt hlt)]; exact read_rung f _ hlt, hlt, ?_, rV_le f hr⟩
      rw [sg_f]
      cases sl
      · rw [sg_f] at h1 ⊢
        exact rV_le f (rung_lo f hm h1)
      · rw [sg_t]
        have := rV_nn f (rungOf f m p)
        grind
    · exfalso
      rw [sg_t] at h2
      grind
  · simp only [sg_t] at h1 h2
    cases sl
    · exfalso
      rw [sg_f] at h1
      grind
    · rw [sg_t] at h1
      have hr := rung_hi f (p := p) hm (R := Rl) (by grind)
      have hlt : rungOf f m p < f.infRung := Nat.lt_of_le_of_lt hr hl
      have hle := rV_le f hr
      refine ⟨true, rungOf f m p, by rw [hn, Nat.min_eq_left (Nat.le_of_lt hlt)]; exact read_rung f _ hlt, hlt, ?_, ?_⟩
      · rw [sg_t, sg_t]
        grind
      · rw [sg_t]
        cases sh
        · rw [sg_f]
          have := rV_nn f (rungOf f m p)
          grind
        · rw [sg_t] at h2 ⊢
          have := rV_le f (rung_lo f (p := p) hm (R := Rh) (by grind))
          grind

/-! ### Worth of sums, products, quotients -/
theorem signed_val (s : Bool) (m u : Nat) (b : Int) : ((signed s m u : Int) : Rat) * p2 b = sg s (mg m (b + u)) := by
  rw [mg_up]
  unfold signed sg mg
  rw [Nat.shiftLeft_eq]
  cases s
  · simp only [Bool.false_eq_true, if_false]
    rw [Rat.intCast_natCast]
  · simp only [if_true]
    rw [Rat.intCast_neg, Rat.intCast_natCast, Rat.neg_mul]
theorem total_val (z : Int) (c : Bool) (b : Int) : sg (if z = 0 then c else decide (z < 0)) (mg z.natAbs b) = (z : Rat) * p2 b := by
  rcases Int.lt_trichotomy z 0 with h | h | h
  · rw [if_neg (by omega), decide_eq_true h, sg_t]
    obtain ⟨n, rfl⟩ : ∃ n : Nat, z = -(n : Int) := ⟨z.natAbs, by omega⟩
    rw [Int.natAbs_neg, Int.natAbs_natCast, Rat.intCast_neg, Rat.intCast_natCast, Rat.neg_mul]
    rfl
  · subst h
    rw [if_pos rfl]
    simp [mg_zero, sg_zero, Rat.zero_mul]
  · rw [if_neg (by omega), decide_eq_false (by omega), sg_f]
    obtain ⟨n, rfl⟩ : ∃ n : Nat, z = (n : Int) := ⟨z.natAbs, by omega⟩
    rw [Int.natAbs_natCast, Rat.intCast_natCast]
    rfl
theorem sum_val (s : Bool) (m : Nat) (i : Int) (t : Bool) (n : Nat) (j : Int) : ∃ r l p, (Datum.number s m i).sum (.number t n j) = some (.number r l p) ∧ vD (.number r l p) = vD (.number s m i) + vD (.number t n j) := by
  refine ⟨_, _, _, rfl, ?_⟩
  simp only [vD]
  rw [total_val, Rat.intCast_add, Rat.add_mul, signed_val, signed_val]
  congr 3 <;> omega
theorem product_val (s : Bool) (m : Nat) (i : Int) (t : Bool) (n : Nat) (j : Int) : ∃ r l p, (Datum.number s m i).product (.number t n j) = some (.number r l p) ∧ vD (.number r l p) = vD (.number s m i) * vD (.number t n j) := by
  refine ⟨_, _, _, rfl, ?_⟩
  simp only [vD]
  rw [sg_mul, mg_mul]
theorem quotient_val (dg : Nat) (hd : 1 ≤ dg) (s : Bool) (m : Nat) (i : Int) (t : Bool) (n : Nat) (j : Int) (hn : n ≠ 0) :
    ∃ l p, (Datum.number s m i).quotient dg (.number t n j) = some (.number (s ^^ t) l p) ∧ (m = 0 → l = 0) ∧ ∀ E : Int, mg m i ≤ p2 E * mg n j → mg l p ≤ p2 E := by
  refine ⟨_, _, by simp only [Datum.quotient]; rw [if_neg hn], ?_, ?_⟩
  · rintro rfl
    simp
  · intro E hE
    by_cases hm : m = 0
    · subst hm
      simp only [Nat.zero_shiftLeft, Nat.zero_div, Nat.zero_mod, Nat.mul_zero]
      rw [show ((0 != 0 : Bool)).toNat = 0 from rfl, mg_zero]
      exact p2_nn E
    generalize hmore : dg + n.log2 - m.log2 = more
    rw [Nat.shiftLeft_eq]
    have hbig : n < m * 2 ^ more := by
      have h1 : n < 2 ^ (n.log2 + 1) := Nat.lt_log2_self
      have h2 : 2 ^ m.log2 ≤ m := Nat.log2_self_le hm
      calc n < 2 ^ (n.log2 + 1) := h1
        _ ≤ 2 ^ (m.log2 + more) := Nat.pow_le_pow_right (by decide) (by omega)
        _ = 2 ^ m.log2 * 2 ^ more := Nat.pow_add _ _ _
        _ ≤ m * 2 ^ more := Nat.mul_le_mul_right _ h2
    generalize hD : m * 2 ^ more = D at *
    have hE' : mg D (i - more) ≤ mg n (j + E) := by
      have e1 : mg D (i - more) = mg m i := by
        rw [← hD, ← mg_up]
        congr 1
        omega
      have e2 : mg n (j + E) = p2 E * mg n j := by
        unfold mg
        rw [p2_add, ← Rat.mul_assoc, Rat.mul_comm]
      rw [e1, e2]
      exact hE
    have hpos : 0 < n := Nat.pos_of_ne_zero hn
    have hdm := Nat.div_add_mod D n
    by_cases hg : i - more ≤ j + E
    · obtain ⟨g, hgg⟩ : ∃ g : Nat, j + E = (i - more) + g := ⟨(j + E - (i - more)).toNat, by omega⟩
      rw [hgg, mg_up, mg_le] at hE'
      have hl : 2 * (D / n) + (D % n != 0).toNat ≤ 2 ^ (g + 1) := by
        rw [Nat.pow_succ]
        have hq : D / n ≤ 2 ^ g := Nat.div_le_of_le_mul hE'
        have hc : ∀ x : Bool, x.toNat ≤ 1 := by decide
        have := hc (D % n != 0)
        rcases Nat.lt_or_eq_of_le hq with hq | hq
        · omega
        · have hr : D % n = 0 := by
            rw [hq] at hdm
            omega
          rw [hr, hq]
          simp
          omega
      have := (mg_le (p := i - j - more - 1)).2 hl
      rw [mg_pow] at this
      rwa [show i - j - more - 1 + ((g + 1 : Nat) : Int) = E by omega] at this
    · exfalso
      have := Rat.le_trans (mg_place D (show j + E ≤ i - more by omega)) hE'
      rw [mg_le] at this
      omega
end

section
open Go.RowKit

/-- The word is a number from lo to hi. -/
def Bet (k : FloatKind) (o : Option Nat) (lo hi : Rat) : Prop := ∃ b, o = some b ∧ WBet k.format b lo hi
abbrev RepK (k : FloatKind) (q : Rat) : Prop := Rep k.format q
section
open Ieee
theorem inf_pos (k : FloatKind) : 0 < k.format.infRung := by cases k <;> decide
theorem WBet.read {f : Format} {b : Nat} {lo hi : Rat} (h : WBet f b lo hi) : ∃ s m p, f.read b = .number s m p ∧ lo ≤ vD (.number s m p) ∧ vD (.number s m p) ≤ hi := by
  obtain ⟨s, R, e, hR, h1, h2⟩ := h
  rw [rV_eq] at h1 h2
  exact ⟨_, _, _, e, h1, h2⟩
theorem WBet.mono {f : Format} {b : Nat} {lo hi lo' hi' : Rat} (h : WBet f b lo hi) (h1 : lo' ≤ lo) (h2 : hi ≤ hi') : WBet f b lo' hi' := by
  obtain ⟨s, R, e, hR, a, c⟩ := h
  exact ⟨s, R, e, hR, Rat.le_trans h1 a, Rat.le_trans c h2⟩
end
variable {k : FloatKind} {x y : Option Nat} {a b c d lo hi : Rat}
theorem Bet.mono (h : Bet k x a b) (h1 : lo ≤ a) (h2 : b ≤ hi) : Bet k x lo hi := by
  obtain ⟨w, rfl, hw⟩ := h
  exact ⟨w, rfl, hw.mono h1 h2⟩
theorem enc_bet {s : Bool} {m : Nat} {p : Int} (hlo : RepK k lo) (hhi : RepK k hi) (h1 : lo ≤ vD (.number s m p)) (h2 : vD (.number s m p) ≤ hi) : WBet k.format (k.encode (.number s m p)) lo hi :=
  near_bet (inf_pos k) hlo hhi h1 h2
theorem bet_add (hx : Bet k x a b) (hy : Bet k y c d) (hlo : RepK k lo) (hhi : RepK k hi) (h1 : lo ≤ a + c) (h2 : b + d ≤ hi) : Bet k (opF .add k x y) lo hi := by
  obtain ⟨u, rfl, hu⟩ := hx
  obtain ⟨v, rfl, hv⟩ := hy
  obtain ⟨s, m, i, eu, u1, u2⟩ := hu.read
  obtain ⟨t, n, j, ev, v1, v2⟩ := hv.read
  obtain ⟨r, l, p, es, hs⟩ := sum_val s m i t n j
  refine ⟨k.encode (.number r l p), ?_, enc_bet hlo hhi (by rw [hs]; grind) (by rw [hs]; grind)⟩
  show ((k.format.read u).sum (k.format.read v)).map k.format.write = _
  rw [eu, ev, es]; rfl
theorem opp_val (s : Bool) (m : Nat) (p : Int) : vD (.number (!s) m p) = - vD (.number s m p) := by cases s <;> simp [vD, sg, Rat.neg_neg]
theorem bet_sub (hx : Bet k x a b) (hy : Bet k y c d) (hlo : RepK k lo) (hhi : RepK k hi) (h1 : lo ≤ a - d) (h2 : b - c ≤ hi) : Bet k (opF .sub k x y) lo hi := by
  obtain ⟨u, rfl, hu⟩ := hx
  obtain ⟨v, rfl, hv⟩ := hy
  obtain ⟨s, m, i, eu, u1, u2⟩ := hu.read
  obtain ⟨t, n, j, ev, v1, v2⟩ := hv.read
  obtain ⟨r, l, p, es, hs⟩ := sum_val s m i (!t) n j
  rw [opp_val] at hs
  refine ⟨k.encode (.number r l p), ?_, enc_bet hlo hhi (by rw [hs]; grind) (by rw [hs]; grind)⟩
  show ((k.format.read u).sum (k.format.read v).opposite).map k.format.write = _
  rw [eu, ev]
  show ((Ieee.Datum.number s m i).sum (.number (!t) n j)).map k.format.write = _
  rw [es]; rfl
theorem bet_mul (hx : Bet k x a b) (hy : Bet k y c d) (hlo : RepK k lo) (hhi : RepK k hi) (h : ∀ u v, a ≤ u → u ≤ b → c ≤ v → v ≤ d → lo ≤ u * v ∧ u * v ≤ hi) : Bet k (opF .mul k x y) lo hi := by
  obtain ⟨u, rfl, hu⟩ := hx
  obtain ⟨v, rfl, hv⟩ := hy
  obtain ⟨s, m, i, eu, u1, u2⟩ := hu.read
  obtain ⟨t, n, j, ev, v1, v2⟩ := hv.read
  obtain ⟨r, l, p, es, hs⟩ := product_val s m i t n j
  have := h _ _ u1 u2 v1 v2
  refine ⟨k.encode (.number r l p), ?_, enc_bet hlo hhi (by rw [hs]; exact this.1) (by rw [hs]; exact this.2)⟩
  show ((k.format.read u).product (k.format.read v)).map k.format.write = _
  rw [eu, ev, es]; rfl
/-- A quotient whose divisor is above 0, by a power of two. -/
theorem bet_quo {E : Int} (hx : Bet k x a b) (hy : Bet k y c d) (hc : 0 < c) (hE : RepK k (p2 E)) (h : ∀ u v, a ≤ u → u ≤ b → c ≤ v → v ≤ d → u ≤ p2 E * v ∧ -u ≤ p2 E * v) (hlo : (0 ≤ a ∧ lo = 0) ∨ lo = - p2 E) (hhi : (b ≤ 0 ∧ hi = 0) ∨ hi = p2 E) : Bet k (opF .quo k x y) lo hi := by
  obtain ⟨u, rfl, hu⟩ := hx
  obtain ⟨v, rfl, hv⟩ := hy
  obtain ⟨s, m, i, eu, u1, u2⟩ := hu.read
  obtain ⟨t, n, j, ev, v1, v2⟩ := hv.read
  have hvp : 0 < vD (.number t n j) := Std.lt_of_lt_of_le hc v1
  have ht : t = false := by
    cases t
    · rfl
    · exfalso
      simp only [vD, sg_t] at hvp
      have := mg_nn n j
      grind
  subst ht
  have hn : n ≠ 0 := by
    rintro rfl
    simp only [vD, mg_zero, sg_zero] at hvp
    exact absurd hvp Rat.lt_irrefl
  obtain ⟨l, p, es, h0, hq⟩ := quotient_val (k.format.fractionBits + 2) (by omega) s m i false n j hn
  rw [Bool.xor_false] at es
  have hb := h _ _ u1 u2 v1 v2
  have hm := mg_nn m i
  have hl := mg_nn l p
  have hle : mg l p ≤ p2 E := by
    refine hq E ?_
    simp only [vD, sg_f] at hb
    cases s
    · simp only [sg_f] at hb
      exact hb.1
    · simp only [sg_t, Rat.neg_neg] at hb
      exact hb.2
  have hz : m = 0 → mg l p = 0 := fun h => by rw [h0 h, mg_zero]
  have hmz : ¬ m = 0 → 0 < mg m i := fun h => mg_pos h i
  have r0 : RepK k 0 := rep_zero (inf_pos k)
  have rm : RepK k (- p2 E) := rep_neg hE
  have hpp := p2_pos E
  have hlo' : RepK k lo := by rcases hlo with ⟨_, rfl⟩ | rfl <;> assumption
  have hhi' : RepK k hi := by rcases hhi with ⟨_, rfl⟩ | rfl <;> assumption
  refine ⟨k.encode (.number s l p), ?_, enc_bet hlo' hhi' ?_ ?_⟩
  · show ((k.format.read u).quotient (k.format.fractionBits + 2) (k.format.read v)).map k.format.write = _
    rw [eu, ev, es]; rfl
  · rcases hlo with ⟨ha, rfl⟩ | rfl
    · cases s
      · exact hl
      · have hu0 : 0 ≤ vD (.number true m i) := Rat.le_trans ha u1
        simp only [vD, sg_t] at hu0 ⊢
        by_cases h : m = 0
        · rw [hz h]; exact Rat.le_refl
        · have := hmz h
          grind
    · cases s
      · show _ ≤ mg l p
        grind
      · show _ ≤ - mg l p
        grind
  · rcases hhi with ⟨ha, rfl⟩ | rfl
    · cases s
      · have hu0 : vD (.number false m i) ≤ 0 := Rat.le_trans u2 ha
        simp only [vD, sg_f] at hu0 ⊢
        by_cases h : m = 0
        · rw [hz h]; exact Rat.le_refl
        · have := hmz h
          grind
      · show - mg l p ≤ 0
        grind
    · cases s
      · exact hle
      · show - mg l p ≤ _
        grind
/-- 'float64(x)'. -/
theorem bet_up (hx : Bet .f32 x a b) (hlo : RepK .f64 a) (hhi : RepK .f64 b) : Bet .f64 (upF x) a b := by
  obtain ⟨u, rfl, hu⟩ := hx
  obtain ⟨s, m, i, eu, u1, u2⟩ := hu.read
  refine ⟨_, rfl, ?_⟩
  have : FloatKind.f32.decode u = .number s m i := eu
  unfold upBits
  rw [this]
  exact enc_bet hlo hhi u1 u2
/-- 'float32(x)' of what stands between two float32s: in range. -/
theorem bet_dn (hx : Bet .f64 x a b) (hlo : RepK .f32 a) (hhi : RepK .f32 b) : Bet .f32 (dnF x) a b ∧ ∀ w, absF .f64 w = x → dnOver w = false := by
  obtain ⟨u, rfl, hu⟩ := hx
  obtain ⟨s, m, i, eu, u1, u2⟩ := hu.read
  have e : FloatKind.f64.decode u = .number s m i := eu
  have hb : WBet FloatKind.f32.format (dnBits u) a b := by
    unfold dnBits
    rw [e]
    exact enc_bet hlo hhi u1 u2
  refine ⟨⟨_, rfl, hb⟩, fun w hw => ?_⟩
  obtain ⟨rfl, _⟩ := absF_some hw
  unfold dnOver
  rw [e]
  obtain ⟨t, n, j, et, _⟩ := hb.read
  show (FloatKind.f32.format.read (dnBits w)).isInfinity = false
  rw [et]; rfl
theorem Bet.abs {w : Nat} (h : Bet k x a b) (hw : absF k w = x) : x = some w ∧ (k.decode w).isNaN = false := by
  obtain ⟨u, rfl, hu⟩ := h
  obtain ⟨rfl, hn⟩ := absF_some hw
  exact ⟨rfl, hn⟩
/-- 2 ^ E is a number of the format's. -/
theorem rep_p2 {f : Ieee.Format} {E : Int} (h1 : f.leastPlace ≤ E - f.fractionBits) (h2 : (E - f.fractionBits - f.leastPlace).toNat + 1 < 2 ^ f.exponentBits - 1) : Rep f (p2 E) := by
  obtain ⟨j, hj⟩ : ∃ j : Nat, E = f.leastPlace + j + f.fractionBits := ⟨(E - f.fractionBits - f.leastPlace).toNat, by omega⟩
  have hb := binade_pos f
  refine ⟨false, (j + 1) * f.binade, ?_, ?_⟩
  · unfold Ieee.Format.infRung
    exact Nat.mul_lt_mul_of_pos_right (by omega) hb
  · have hM : rM f ((j + 1) * f.binade) = f.binade := by
      unfold rM
      rw [Nat.mul_mod_left, if_neg (by rw [Nat.add_mul]; omega)]
      rfl
    have hJ : rJ f ((j + 1) * f.binade) = j := by
      unfold rJ
      rw [Nat.mul_div_cancel _ hb, if_neg (by rw [Nat.add_mul]; omega)]
      rfl
    rw [sg_f, rV_eq, hM, hJ, binade_mg, hj]
theorem rep32 {E : Int} (h1 : -126 ≤ E) (h2 : E ≤ 126) : RepK .f32 (p2 E) := by
  refine rep_p2 ?_ ?_
  · show (-149 : Int) ≤ E - (23 : Nat); omega
  · show (E - (23 : Nat) - (-149)).toNat + 1 < 255; omega
theorem rep64 {E : Int} (h1 : -1022 ≤ E) (h2 : E ≤ 1022) : RepK .f64 (p2 E) := by
  refine rep_p2 ?_ ?_
  · show (-1074 : Int) ≤ E - (52 : Nat); omega
  · show (E - (52 : Nat) - (-1074)).toNat + 1 < 2047; omega
theorem rep0 : RepK k 0 := rep_zero (inf_pos k)
theorem rep1 : RepK k 1 := by
  rw [← p2_zero]
  cases k
  · exact rep32 (by omega) (by omega)
  · exact rep64 (by omega) (by omega)

/-! ### Orders -/
section
open Ieee
theorem scaled (s : Bool) (m : Nat) {i base : Int} (h : base ≤ i) : ((signed s m (i - base).toNat : Int) : Rat) * p2 base = vD (.number s m i) := by
  rw [signed_val]
  simp only [vD]
  congr 2
  omega
theorem order_cmp (s : Bool) (m : Nat) (i : Int) (t : Bool) (n : Nat) (j : Int) :
    ((Datum.number s m i).order (.number t n j) = some .lt ↔ vD (.number s m i) < vD (.number t n j)) ∧ ((Datum.number s m i).order (.number t n j) = some .gt ↔ vD (.number t n j) < vD (.number s m i)) ∧ ((Datum.number s m i).order (.number t n j) = some .eq ↔ vD (.number s m i) = vD (.number t n j)) := by
  rw [← scaled s m (Int.min_le_left i j), ← scaled t n (Int.min_le_right i j)]
  simp only [Datum.order, Option.some.injEq]
  have hp := p2_pos (min i j)
  refine ⟨?_, ?_, ?_⟩
  · rw [Int.compare_eq_lt, Rat.mul_lt_mul_right hp, Rat.intCast_lt_intCast]
  · rw [Int.compare_eq_gt, Rat.mul_lt_mul_right hp, Rat.intCast_lt_intCast]
  · rw [Int.compare_eq_eq]
    constructor
    · intro h; rw [h]
    · intro h
      have h1 := Rat.le_of_mul_le_mul_right (by rw [h]; exact Rat.le_refl : ((signed s m (i - min i j).toNat : Int) : Rat) * p2 (min i j) ≤ ((signed t n (j - min i j).toNat : Int) : Rat) * p2 (min i j)) hp
      have h2 := Rat.le_of_mul_le_mul_right (by rw [h]; exact Rat.le_refl : ((signed t n (j - min i j).toNat : Int) : Rat) * p2 (min i j) ≤ ((signed s m (i - min i j).toNat : Int) : Rat) * p2 (min i j)) hp
      exact Rat.intCast_inj.1 (Rat.le_antisymm h1 h2)
theorem binade_le (k : FloatKind) : k.format.binade ≤ k.format.infRung := by cases k <;> decide
/-- What reads as a number stands where it stands. -/
theorem rung_of {k : FloatKind} {b : Nat} {s : Bool} {m : Nat} {p : Int} (h : k.format.read b = .number s m p) : ∃ R, R < k.format.infRung ∧ m = rM k.format R ∧ p = k.format.leastPlace + rJ k.format R := by
  have hle := binade_le k
  unfold Format.read at h
  dsimp only at h
  refine ⟨b % k.format.signWeight, ?_⟩
  split at h
  · rename_i hh
    injection h with _ h1 h2
    subst h1 h2
    refine ⟨by omega, ?_, ?_⟩
    · unfold rM; rw [if_pos hh]
    · unfold rJ; rw [if_pos hh]; simp
  · rename_i hh
    split at h
    · rename_i hi
      injection h with _ h1 h2
      subst h1 h2
      refine ⟨hi, ?_, ?_⟩
      · unfold rM; rw [if_neg hh]
      · unfold rJ; rw [if_neg hh]
    · split at h <;> cases h
theorem bet_of {k : FloatKind} {b : Nat} {s : Bool} {m : Nat} {p : Int} {lo hi : Rat} (h : k.format.read b = .number s m p) (h1 : lo ≤ vD (.number s m p)) (h2 : vD (.number s m p) ≤ hi) : Bet k (some b) lo hi := by
  obtain ⟨R, hR, rfl, rfl⟩ := rung_of h
  refine ⟨b, rfl, s, R, h, hR, ?_, ?_⟩
  · rw [rV_eq]; exact h1
  · rw [rV_eq]; exact h2
/-- The worth of what reads as a number is one of the format's. -/
theorem rep_of {k : FloatKind} {b : Nat} {s : Bool} {m : Nat} {p : Int} (h : k.format.read b = .number s m p) : RepK k (vD (.number s m p)) := by
  obtain ⟨R, hR, rfl, rfl⟩ := rung_of h
  exact ⟨s, R, hR, by rw [rV_eq]; rfl⟩
end
/-- A natural number, rounded, between two powers of two. -/
theorem bet_nat {k : FloatKind} {n a b : Nat} (ha : 2 ^ a ≤ n) (hb : n ≤ 2 ^ b) (hA : RepK k (p2 a)) (hB : RepK k (p2 b)) : Bet k (some (floatOfInt k (n : Int))) (p2 a) (p2 b) := by
  have e : floatOfInt k (n : Int) = k.encode (.number (decide ((n : Int) < 0)) (n : Int).natAbs 0) := rfl
  refine ⟨_, rfl, ?_⟩
  rw [e, decide_eq_false (by omega), Int.natAbs_natCast]
  have hv : vD (.number false n 0) = (n : Rat) := by
    simp only [vD, sg_f, mg, p2_zero, Rat.mul_one]
  refine enc_bet hA hB ?_ ?_
  · rw [hv, p2_nat]; exact Rat.natCast_le_natCast.2 ha
  · rw [hv, p2_nat]; exact Rat.natCast_le_natCast.2 hb

/-! ### What is not above 0 -/
/-- A number with its sign set, or the infinity below. -/
def NegS (k : FloatKind) (o : Option Nat) : Prop := ∃ b, o = some b ∧ ((∃ m p, k.format.read b = .number true m p) ∨ k.format.read b = .infinity true)
theorem negS_enc (k : FloatKind) {d : Ieee.Datum} (h : (∃ m p, d = .number true m p) ∨ d = .infinity true) : NegS k (some (k.encode d)) := by
  refine ⟨_, rfl, ?_⟩
  have hinf := k.format.infRung_lt
  have key : ∀ r, r ≤ k.format.infRung → (∃ m p, k.format.read (k.format.word true r) = .number true m p) ∨ k.format.read (k.format.word true r) = .infinity true := by
    intro r hr
    rcases Nat.lt_or_eq_of_le hr with h | rfl
    · exact .inl ⟨_, _, read_rung _ _ h⟩
    · right
      rw [read_word _ _ hinf, if_neg (by have := binade_le k; omega), if_neg (by omega), if_pos rfl]
  rcases h with ⟨m, p, rfl⟩ | rfl
  · show (∃ m' p', k.format.read (k.format.nearest true m p) = .number true m' p') ∨ k.format.read (k.format.nearest true m p) = .infinity true
    unfold Ieee.Format.nearest
    dsimp only
    split
    · exact key _ (Nat.zero_le _)
    · exact key _ (Nat.min_le_right _ _)
  · exact key _ (Nat.le_refl _)
theorem negS_up {x : Option Nat} (h : NegS .f32 x) : NegS .f64 (upF x) := by
  obtain ⟨b, rfl, h⟩ := h
  exact negS_enc .f64 h

/-! ### A number times a power of two -/
theorem rep_mg {f : Ieee.Format} {n : Nat} {p : Int} (hn : n ≠ 0) (h1 : n.log2 ≤ f.fractionBits) (h2 : f.leastPlace ≤ p - (f.fractionBits - n.log2 : Nat)) (h3 : (p - (f.fractionBits - n.log2 : Nat) - f.leastPlace).toNat + 2 < 2 ^ f.exponentBits - 1) : Rep f (mg n p) := by
  obtain ⟨s, hs⟩ : ∃ s, s = f.fractionBits - n.log2 := ⟨_, rfl⟩
  rw [← hs] at h2 h3
  obtain ⟨j, hj⟩ : ∃ j : Nat, p - (s : Int) = f.leastPlace + j := ⟨(p - s - f.leastPlace).toNat, by omega⟩
  have hb := binade_pos f
  have e : mg n p = mg (n * 2 ^ s) (f.leastPlace + j) := by
    rw [← mg_up, ← hj]
    congr 1
    omega
  have hlo : f.binade ≤ n * 2 ^ s := by
    have := Nat.log2_self_le hn
    calc f.binade = 2 ^ (n.log2 + s) := by unfold Ieee.Format.binade; congr 1; omega
      _ = 2 ^ n.log2 * 2 ^ s := Nat.pow_add _ _ _
      _ ≤ _ := Nat.mul_le_mul_right _ this
  have hhi : n * 2 ^ s < 2 * f.binade := by
    have := Nat.lt_log2_self (n := n)
    calc n * 2 ^ s < 2 ^ (n.log2 + 1) * 2 ^ s := Nat.mul_lt_mul_of_pos_right this (Nat.two_pow_pos _)
      _ = 2 ^ (n.log2 + 1 + s) := (Nat.pow_add _ _ _).symm
      _ = 2 ^ (f.fractionBits + 1) := by congr 1; omega
      _ = 2 * f.binade := by unfold Ieee.Format.binade; rw [Nat.pow_succ]; omega
  obtain ⟨r, hr⟩ : ∃ r, n * 2 ^ s = f.binade + r := ⟨n * 2 ^ s - f.binade, by omega⟩
  have hrl : r < f.binade := by omega
  refine ⟨false, (j + 1) * f.binade + r, ?_, ?_⟩
  · unfold Ieee.Format.infRung
    calc (j + 1) * f.binade + r < (j + 1) * f.binade + f.binade := by omega
      _ = (j + 2) * f.binade := by rw [← Nat.succ_mul]
      _ ≤ _ := Nat.mul_le_mul_right _ (by omega)
  · have hge : ¬ ((j + 1) * f.binade + r < f.binade) := by
      rw [Nat.add_mul, Nat.one_mul]
      omega
    have hM : rM f ((j + 1) * f.binade + r) = f.binade + r := by
      unfold rM
      rw [if_neg hge, Nat.mul_comm, Nat.mul_add_mod, Nat.mod_eq_of_lt hrl]
    have hJ : rJ f ((j + 1) * f.binade + r) = j := by
      unfold rJ
      rw [if_neg hge, Nat.add_comm, Nat.add_mul_div_right _ _ hb, Nat.div_eq_of_lt hrl]
      omega
    rw [sg_f, rV_eq, hM, hJ, e, hr]
/-- What is rounded is the worth: a power of two may be moved from the place. -/
theorem cut_shift (n d j : Nat) (hn : n ≠ 0) : Ieee.Toward.even.cut false (n * 2 ^ j) (d + j) = Ieee.Toward.even.cut false n d := by
  unfold Ieee.Toward.cut
  dsimp only
  have hl : (n * 2 ^ j).log2 = n.log2 + j := by
    rw [Nat.log2_eq_iff (Nat.mul_ne_zero hn (by have := Nat.two_pow_pos j; omega))]
    constructor
    · rw [Nat.pow_add]
      exact Nat.mul_le_mul_right _ (Nat.log2_self_le hn)
    · have h : n * 2 ^ j < 2 ^ (n.log2 + 1) * 2 ^ j := Nat.mul_lt_mul_of_pos_right Nat.lt_log2_self (Nat.two_pow_pos _)
      rw [← Nat.pow_add] at h
      rwa [show n.log2 + j + 1 = n.log2 + 1 + j by omega]
  rw [hl, show min (d + j) (n.log2 + j + 2) = min d (n.log2 + 2) + j by omega]
  simp only [Nat.shiftLeft_eq, Nat.one_mul]
  rw [Nat.pow_add]
  generalize 2 ^ min d (n.log2 + 2) = g
  have hp : 0 < 2 ^ j := Nat.two_pow_pos _
  rw [Nat.mul_div_mul_right _ _ hp, Nat.mul_mod_mul_right]
  generalize n % g = r
  generalize 2 ^ j = t at *
  have e1 : (g * t < 2 * (r * t)) ↔ (g < 2 * r) := by
    rw [← Nat.mul_assoc]
    exact Nat.mul_lt_mul_right hp
  have e2 : (g * t = 2 * (r * t)) ↔ (g = 2 * r) := by
    rw [← Nat.mul_assoc]
    exact Nat.mul_left_inj (by omega)
  rw [decide_eq_decide.2 e1, show (g * t == 2 * (r * t)) = (g == 2 * r) from by rw [Bool.eq_iff_iff, beq_iff_eq, beq_iff_eq]; exact e2]
theorem nearest_shift (f : Ieee.Format) (s : Bool) (m j : Nat) (p : Int) : f.nearest s (m * 2 ^ j) p = f.nearest s m (p + j) := by
  by_cases hm : m = 0
  · subst hm
    rw [Nat.zero_mul]
    unfold Ieee.Format.nearest
    rw [if_pos rfl, if_pos rfl]
  have hp : 0 < 2 ^ j := Nat.two_pow_pos _
  rw [nearest_eq f s p (Nat.mul_ne_zero hm (by omega)), nearest_eq f s _ hm]
  congr 2
  have hl : (m * 2 ^ j).log2 = m.log2 + j := by
    rw [Nat.log2_eq_iff (Nat.mul_ne_zero hm (by omega))]
    constructor
    · rw [Nat.pow_add]
      exact Nat.mul_le_mul_right _ (Nat.log2_self_le hm)
    · have h : m * 2 ^ j < 2 ^ (m.log2 + 1) * 2 ^ j := Nat.mul_lt_mul_of_pos_right Nat.lt_log2_self hp
      rw [← Nat.pow_add] at h
      rwa [show m.log2 + j + 1 = m.log2 + 1 + j by omega]
  unfold rungOf
  dsimp only
  rw [hl, show p + ((m.log2 + j : Nat) : Int) - f.fractionBits = p + j + m.log2 - f.fractionBits by omega]
  generalize max (p + j + (m.log2 : Int) - f.fractionBits) f.leastPlace = last
  congr 1
  by_cases h : last ≤ p + j
  · rw [show (last - (p + j)).toNat = 0 by omega]
    by_cases h2 : last ≤ p
    · rw [show (last - p).toNat = 0 by omega, Nat.shiftLeft_eq, Nat.shiftLeft_eq, Nat.mul_assoc, ← Nat.pow_add, show j + (p - last).toNat = (p + j - last).toNat by omega]
    · rw [show (p - last).toNat = 0 by omega, Nat.shiftLeft_zero, Nat.shiftLeft_eq]
      obtain ⟨d, hd⟩ : ∃ d, (last - p).toNat = d := ⟨_, rfl⟩
      have he : m * 2 ^ j = m * 2 ^ (p + j - last).toNat * 2 ^ d := by rw [Nat.mul_assoc, ← Nat.pow_add]; congr 2; omega
      have := cut_shift (m * 2 ^ (p + j - last).toNat) 0 d (Nat.mul_ne_zero hm (by have := Nat.two_pow_pos (p + j - last).toNat; omega))
      rw [Nat.zero_add, ← he] at this
      rw [hd, this]
  · rw [show (p - last).toNat = 0 by omega, show (p + j - last).toNat = 0 by omega, Nat.shiftLeft_zero, Nat.shiftLeft_zero, show (last - p).toNat = (last - (p + j)).toNat + j by omega]
    exact cut_shift m _ j hm
/-- The half of a number: by 2, or times a half. -/
theorem half_eq (x : Option Nat) : opF .quo .f32 x (some 1073741824) = opF .mul .f32 (some 1056964608) x := by
  cases x with
  | none => rfl
  | some b =>
    have r2 : FloatKind.f32.format.read 1073741824 = .number false 8388608 (-22) := by decide
    have rh : FloatKind.f32.format.read 1056964608 = .number false 8388608 (-24) := by decide
    show ((FloatKind.f32.format.read b).quotient (FloatKind.f32.format.fractionBits + 2) (FloatKind.f32.format.read 1073741824)).map FloatKind.f32.format.write = ((FloatKind.f32.format.read 1056964608).product (FloatKind.f32.format.read b)).map FloatKind.f32.format.write
    rw [r2, rh]
    cases e : FloatKind.f32.format.read b with
    | nan s t => rfl
    | infinity s => simp [Ieee.Datum.quotient, Ieee.Datum.product]
    | number s m i =>
      have hm : m < 2 ^ 24 := (read_bound b e).1
      have hf : FloatKind.f32.format.fractionBits = 23 := rfl
      simp only [Ieee.Datum.quotient, Ieee.Datum.product, hf]
      rw [if_neg (by omega)]
      simp only [Option.map_some, Bool.xor_false, Bool.false_xor]
      have hl : m.log2 ≤ 23 := by
        by_cases h0 : m = 0
        · subst h0; decide
        · have := (Nat.log2_lt h0).2 hm
          omega
      have hn : Nat.log2 8388608 = 23 := by decide
      rw [hn]
      obtain ⟨k, hk⟩ : ∃ k, 23 + 2 + 23 - m.log2 = k + 23 := ⟨25 - m.log2, by omega⟩
      rw [hk, Nat.shiftLeft_eq, Nat.pow_add, ← Nat.mul_assoc, show 2 ^ 23 = 8388608 from rfl, Nat.mul_div_cancel _ (by omega), Nat.mul_mod_left]
      simp only [bne_self_eq_false, Bool.toNat_false, Nat.add_zero]
      show some (FloatKind.f32.format.nearest s (2 * (m * 2 ^ k)) _) = some (FloatKind.f32.format.nearest s (8388608 * m) _)
      rw [show 2 * (m * 2 ^ k) = m * 2 ^ (k + 1) by rw [Nat.pow_succ]; ac_rfl, nearest_shift, show 8388608 * m = m * 2 ^ 23 by rw [Nat.mul_comm], nearest_shift]
      congr 2
      omega
section
open Ieee
/-- What is rounded keeps its sign. -/
theorem near_sign (k : FloatKind) (s : Bool) (m : Nat) (p : Int) : ∃ r, k.format.nearest s m p = k.format.word s r ∧ r ≤ k.format.infRung ∧ ((r < k.format.infRung ∧ k.format.read (k.format.nearest s m p) = .number s (rM k.format r) (k.format.leastPlace + rJ k.format r)) ∨ k.format.read (k.format.nearest s m p) = .infinity s) := by
  have hinf := k.format.infRung_lt
  have key : ∃ r, k.format.nearest s m p = k.format.word s r ∧ r ≤ k.format.infRung := by
    unfold Ieee.Format.nearest
    dsimp only
    split
    · exact ⟨0, rfl, Nat.zero_le _⟩
    · exact ⟨_, rfl, Nat.min_le_right _ _⟩
  obtain ⟨r, e, hr⟩ := key
  refine ⟨r, e, hr, ?_⟩
  rw [e]
  rcases Nat.lt_or_eq_of_le hr with h | rfl
  · exact .inl ⟨h, read_rung _ _ h⟩
  · right
    rw [read_word _ _ hinf, if_neg (by have := binade_le k; omega), if_neg (by omega), if_pos rfl]
/-- A float32 as a float64: the same worth. -/
theorem rep_up {x : Nat} {s : Bool} {m : Nat} {p : Int} (h : FloatKind.f32.format.read x = .number s m p) : RepK .f64 (vD (.number s m p)) := by
  obtain ⟨h1, h2, h3⟩ := read_bound x h
  have hp : RepK .f64 (mg m p) := by
    by_cases h0 : m = 0
    · subst h0; rw [mg_zero]; exact rep0
    · have hl : m.log2 < 24 := (Nat.log2_lt h0).2 h1
      refine rep_mg h0 ?_ ?_ ?_
      · show m.log2 ≤ 52; omega
      · show (-1074 : Int) ≤ p - ((52 - m.log2 : Nat) : Int); omega
      · show (p - ((52 - m.log2 : Nat) : Int) - (-1074)).toNat + 2 < 2047; omega
  cases s
  · exact hp
  · exact rep_neg hp
end
end
end Go.Proofs.Ytimpabceellihaa
