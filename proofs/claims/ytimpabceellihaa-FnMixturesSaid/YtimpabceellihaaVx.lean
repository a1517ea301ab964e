/-
  Operations whose results stand between numbers of the format; the square root; where the nearest number lies.
-/
import Derived.Test.YtimpabceellihaaGood
import Derived.Test.YtimpabceellihaaSqrt
namespace Go.Proofs.Ytimpabceellihaa
open Go.RowKit
section
variable {k : FloatKind} {x y o : Option Nat} {u v lo hi : Rat}
theorem vx_mul (hx : Vl k x u) (hy : Vl k y v) (hlo : RepK k lo) (hhi : RepK k hi) (h1 : lo ≤ u * v) (h2 : u * v ≤ hi) : ∃ r, Vl k (opF .mul k x y) r ∧ lo ≤ r ∧ r ≤ hi := by
  obtain ⟨r, hr, hn⟩ := vl_mul hx hy hlo hhi h1 h2
  exact ⟨r, hr, hn.1 _ hlo h1, hn.2 _ hhi h2⟩
theorem vx_add (hx : Vl k x u) (hy : Vl k y v) (hlo : RepK k lo) (hhi : RepK k hi) (h1 : lo ≤ u + v) (h2 : u + v ≤ hi) : ∃ r, Vl k (opF .add k x y) r ∧ lo ≤ r ∧ r ≤ hi := by
  obtain ⟨r, hr, hn⟩ := vl_add hx hy hlo hhi h1 h2
  exact ⟨r, hr, hn.1 _ hlo h1, hn.2 _ hhi h2⟩
theorem vx_quo (hx : Vl k x u) (hy : Vl k y v) (hv : 0 < v) (hlo : RepK k lo) (hhi : RepK k hi) (h1 : lo * v ≤ u) (h2 : u ≤ hi * v) : ∃ r, Vl k (opF .quo k x y) r ∧ lo ≤ r ∧ r ≤ hi := (bet_quoV hx hy hv hlo hhi h1 h2).vl
end
theorem rq64 (z : Int) (e : Int) (hz : z.natAbs ≤ 9007199254740992) (h1 : -1022 ≤ e) (h2 : e ≤ 900) : RepK .f64 ((z : Rat) * p2 e) := rep_grid (in64 h1 h2) hz
theorem rq32 (z : Int) (e : Int) (hz : z.natAbs ≤ 16777216) (h1 : -126 ≤ e) (h2 : e ≤ 100) : RepK .f32 ((z : Rat) * p2 e) := rep_grid (in32 h1 h2) hz
/-- A number of the format: a whole number over a power of two. -/
theorem r64 (z : Int) (n : Nat) {c : Rat} (hz : z.natAbs ≤ 9007199254740992) (hn : n ≤ 1000) (h : (z : Rat) = c * ((2 ^ n : Nat) : Rat)) : RepK .f64 c := by
  have := rq64 z (-(n : Int)) hz (by omega) (by omega)
  have e : (z : Rat) * p2 (-(n : Int)) = c := by
    have h2 := p2m n
    rw [h, Rat.mul_assoc, Rat.mul_comm ((2 ^ n : Nat) : Rat), h2, Rat.mul_one]
  rwa [e] at this
theorem r32 (z : Int) (n : Nat) {c : Rat} (hz : z.natAbs ≤ 16777216) (hn : n ≤ 120) (h : (z : Rat) = c * ((2 ^ n : Nat) : Rat)) : RepK .f32 c := by
  have := rq32 z (-(n : Int)) hz (by omega) (by omega)
  have e : (z : Rat) * p2 (-(n : Int)) = c := by
    have h2 := p2m n
    rw [h, Rat.mul_assoc, Rat.mul_comm ((2 ^ n : Nat) : Rat), h2, Rat.mul_one]
  rwa [e] at this
theorem one64 : Vl .f64 (some 4607182418800017408) 1 := by
  have := vl_of (k := .f64) (b := 4607182418800017408) (s := false) (m := 2 ^ 52) (p := -52) (by decide)
  simp only [vD, sg_f] at this
  rw [mg_pow] at this
  exact this

/-! ### the square root -/
open Ieee in
theorem rootFrom_is (n : Nat) : ∀ (todo root : Nat), root * root ≤ n → n < (root + 2 ^ todo) * (root + 2 ^ todo) → Datum.rootFrom n todo root * Datum.rootFrom n todo root ≤ n ∧ n < (Datum.rootFrom n todo root + 1) * (Datum.rootFrom n todo root + 1)
  | 0, root, h1, h2 => by
    unfold Datum.rootFrom
    exact ⟨h1, by simpa using h2⟩
  | todo + 1, root, h1, h2 => by
    unfold Datum.rootFrom
    dsimp only
    rw [Nat.shiftLeft_eq, Nat.one_mul]
    have e : 2 ^ (todo + 1) = 2 ^ todo + 2 ^ todo := by rw [Nat.pow_succ]; omega
    rw [e, ← Nat.add_assoc] at h2
    split
    · rename_i h
      exact rootFrom_is n todo (root + 2 ^ todo) h h2
    · rename_i h
      exact rootFrom_is n todo root h1 (by omega)
theorem sq_lt {a b : Nat} (h : a * a < b * b) : a < b := by
  by_cases hl : b ≤ a
  · have := Nat.mul_le_mul hl hl
    omega
  · omega
theorem sq_le {a b : Nat} (h : a * a < (b + 1) * (b + 1)) : a ≤ b := by have := sq_lt h; omega
open Ieee in
/-- What the root's datum stands for, compared with numbers of few digits. -/
theorem root_cmp (dg : Nat) (hd : 1 ≤ dg) (m : Nat) (hm : m ≠ 0) (i : Int) :
    ∃ l p, (Datum.number false m i).root dg = some (.number false l p) ∧ l ≠ 0 ∧
      ∀ (K : Nat) (L : Int), K < 2 ^ (dg - 1) → (mg K L * mg K L ≤ mg m i → mg K L ≤ mg l p) ∧ (mg m i ≤ mg K L * mg K L → mg l p ≤ mg K L) := by
  unfold Datum.root
  dsimp only
  rw [if_neg hm]
  simp only [Bool.false_eq_true, if_false]
  generalize hk : (2 * dg - m.log2) + ((i - ((2 * dg - m.log2 : Nat) : Int)) % 2).toNat = k
  have hl : (m <<< k).log2 = m.log2 + k := log2_shl hm k
  have hne : m <<< k ≠ 0 := by rw [Nat.shiftLeft_eq]; exact Nat.mul_ne_zero hm (Nat.ne_of_gt (Nat.two_pow_pos k))
  obtain ⟨e, he⟩ : ∃ e : Int, i - k = 2 * e := ⟨(i - k) / 2, by omega⟩
  have hev : mg m i = mg (m <<< k) (2 * e) := by
    rw [← he, Nat.shiftLeft_eq, ← mg_up]
    congr 1
    omega
  have hbig : 2 * dg ≤ m.log2 + k := by omega
  generalize hn : m <<< k = n at *
  have hlt : n < (0 + 2 ^ (n.log2 / 2 + 1)) * (0 + 2 ^ (n.log2 / 2 + 1)) := by
    rw [Nat.zero_add, ← Nat.pow_add]
    refine Nat.lt_of_lt_of_le Nat.lt_log2_self (Nat.pow_le_pow_right (by decide) (by omega))
  obtain ⟨w1, w2⟩ := rootFrom_is n (n.log2 / 2 + 1) 0 (by omega) hlt
  generalize Datum.rootFrom n (n.log2 / 2 + 1) 0 = w at *
  have hn2 : 2 ^ (2 * dg) ≤ n := Nat.le_trans (Nat.pow_le_pow_right (by decide) (by omega)) (Nat.log2_self_le hne)
  have hw : 2 ^ dg ≤ w := by
    refine sq_le (Nat.lt_of_le_of_lt ?_ w2)
    rw [← Nat.pow_add, show dg + dg = 2 * dg by omega]
    exact hn2
  have hw0 : 0 < w := Nat.lt_of_lt_of_le (Nat.two_pow_pos _) hw
  rw [show (i - (k : Int)) / 2 - 1 = e - 1 by omega]
  obtain ⟨c, hc⟩ : ∃ c, c = (w * w != n).toNat := ⟨_, rfl⟩
  have hc1 : c ≤ 1 := by rw [hc]; cases (w * w != n) <;> decide
  have hc0 : w * w = n → c = 0 := fun h => by rw [hc, bne_eq_false_iff_eq.2 h]; rfl
  rw [← hc]
  refine ⟨_, _, rfl, by omega, fun K L hK => ?_⟩
  rw [hev]
  by_cases hL : e ≤ L
  · obtain ⟨g, hg⟩ : ∃ g : Nat, L = e + g := ⟨(L - e).toNat, by omega⟩
    have e3 : mg K L = mg (2 * (K * 2 ^ g)) (e - 1) := by
      have h7 := mg_up (K * 2 ^ g) 1 (e - 1)
      have h8 : e - 1 + ((1 : Nat) : Int) = e := by omega
      rw [h8] at h7
      rw [hg, mg_up, Nat.mul_comm 2]
      exact h7
    have e4 : mg K L * mg K L = mg (K * 2 ^ g * (K * 2 ^ g)) (2 * e) := by
      rw [hg, mg_up, mg_mul]; congr 1; omega
    rw [e4, e3]
    generalize K * 2 ^ g = C at *
    rw [mg_le, mg_le, mg_le, mg_le]
    refine ⟨fun h => ?_, fun h => ?_⟩
    · have := sq_le (Nat.lt_of_le_of_lt h w2)
      omega
    · have h3 : w ≤ C := by
        by_cases hlt : C < w
        · have := Nat.mul_le_mul (Nat.succ_le_of_lt hlt) (Nat.succ_le_of_lt hlt)
          have h5 : C * C < (C + 1) * (C + 1) := by rw [Nat.add_mul, Nat.mul_add]; omega
          have h6 : (C + 1) * (C + 1) = C.succ * C.succ := rfl
          omega
        · omega
      rcases Nat.lt_or_eq_of_le h3 with h4 | h4
      · omega
      · have : c = 0 := hc0 (by rw [← h4] at h; omega)
        omega
  · have h1 : mg K L < mg (2 ^ (dg - 1)) (e - 1) := by
      refine Std.lt_of_le_of_lt (mg_place K (show L ≤ e - 1 by omega)) ?_
      rw [mg_lt]; exact hK
    have hpow : 2 ^ dg = 2 * 2 ^ (dg - 1) := by rw [show dg = (dg - 1) + 1 by omega, Nat.pow_succ]; simp; omega
    have h2 : mg (2 ^ (dg - 1)) (e - 1) ≤ mg (2 * w + c) (e - 1) := by rw [mg_le]; omega
    refine ⟨fun _ => Rat.le_of_lt (Std.lt_of_lt_of_le h1 h2), fun h => ?_⟩
    exfalso
    have h3 : mg (2 ^ (dg - 1)) (e - 1) * mg (2 ^ (dg - 1)) (e - 1) ≤ mg n (2 * e) := by
      rw [mg_mul]
      refine Rat.le_trans (mg_place _ (show e - 1 + (e - 1) ≤ 2 * e by omega)) ?_
      rw [mg_le]
      refine Nat.le_trans ?_ hn2
      rw [← Nat.pow_add]
      exact Nat.pow_le_pow_right (by decide) (by omega)
    have h5 := mg_nn K L
    have h6 : mg K L * mg K L < mg (2 ^ (dg - 1)) (e - 1) * mg (2 ^ (dg - 1)) (e - 1) := by
      generalize mg (2 ^ (dg - 1)) (e - 1) = Z at *
      generalize mg K L = Y at *
      have a := Rat.mul_le_mul_of_nonneg_left (Rat.le_of_lt h1) h5
      have b := (Rat.mul_lt_mul_right (show 0 < Z by grind)).2 h1
      grind
    grind
theorem rep_nn' {k : FloatKind} {c : Rat} (h : RepK k c) (h0 : 0 ≤ c) : ∃ (K : Nat) (L : Int), K < 2 ^ (k.format.fractionBits + 1) ∧ c = mg K L := rep_nn h h0
/-- The root in 64 bits stands between numbers whose squares part what it is taken of. -/
theorem rt64_bet {o : Option Nat} {u lo hi : Rat} (h : Vl .f64 o u) (hu : 0 < u) (hlo : RepK .f64 lo) (hhi : RepK .f64 hi) (l0 : 0 ≤ lo) (h0 : 0 ≤ hi) (h1 : lo * lo ≤ u) (h2 : u ≤ hi * hi) : Bet .f64 (rtA o) lo hi := by
  obtain ⟨b, rfl, hb⟩ := h
  obtain ⟨s, m, i, eu, u1, u2⟩ := hb.read
  have ev : vD (.number s m i) = u := Rat.le_antisymm u2 u1
  have hs : s = false := by
    cases s
    · rfl
    · exfalso
      have := mg_nn m i
      simp only [vD, sg_t] at ev
      grind
  subst hs
  simp only [vD, sg_f] at ev
  have hm : m ≠ 0 := by
    rintro rfl
    rw [mg_zero] at ev
    rw [← ev] at hu
    exact absurd hu Rat.lt_irrefl
  obtain ⟨l, p, es, l00, hq⟩ := root_cmp (FloatKind.f64.format.fractionBits + 2) (by omega) m hm i
  refine ⟨FloatKind.f64.encode (.number false l p), ?_, enc_bet hlo hhi ?_ ?_⟩
  · show FloatKind.f64.format.sqrt b = _
    show ((FloatKind.f64.format.read b).root (FloatKind.f64.format.fractionBits + 2)).map FloatKind.f64.format.write = _
    rw [eu, es]; rfl
  · obtain ⟨K, L, hK, rfl⟩ := rep_nn hlo l0
    simp only [vD, sg_f]
    exact (hq K L hK).1 (by rw [ev]; exact h1)
  · obtain ⟨K, L, hK, rfl⟩ := rep_nn hhi h0
    simp only [vD, sg_f]
    exact (hq K L hK).2 (by rw [ev]; exact h2)
theorem up_rep {c : Rat} (h : RepK .f32 c) : RepK .f64 c := by
  obtain ⟨s, R, hR, rfl⟩ := h
  have hw := read_rung FloatKind.f32.format s hR
  have := rep_up hw
  rwa [show vD (.number s (rM FloatKind.f32.format R) (FloatKind.f32.format.leastPlace + rJ FloatKind.f32.format R)) = sg s (rV FloatKind.f32.format R) from by rw [rV_eq]; rfl] at this
theorem rt32_bet {o : Option Nat} {u lo hi : Rat} (h : Vl .f32 o u) (hu : 0 < u) (hlo : RepK .f32 lo) (hhi : RepK .f32 hi) (l0 : 0 ≤ lo) (h0 : 0 ≤ hi) (h1 : lo * lo ≤ u) (h2 : u ≤ hi * hi) : Bet .f32 (rt32 o) lo hi := by
  have := rt64_bet (vl_up h) hu (up_rep hlo) (up_rep hhi) l0 h0 h1 h2
  exact (bet_dn this hlo hhi).1
theorem root_nat (N : Nat) : ∃ k, k * k ≤ N ∧ N < (k + 1) * (k + 1) := by
  induction N with
  | zero => exact ⟨0, by omega, by omega⟩
  | succ N ih =>
    obtain ⟨k, h1, h2⟩ := ih
    by_cases h : (k + 1) * (k + 1) ≤ N + 1
    · refine ⟨k + 1, h, ?_⟩
      have : (k + 1) * (k + 1) < (k + 1 + 1) * (k + 1 + 1) := by
        have := Nat.mul_lt_mul_of_lt_of_lt (show k + 1 < k + 1 + 1 by omega) (show k + 1 < k + 1 + 1 by omega)
        exact this
      omega
    · exact ⟨k, by omega, by omega⟩

/-! ### numbers of the format at any place -/
theorem rep_gen {K : Nat} {L : Int} (hK : K < 16777216) (h1 : -149 ≤ L) (h2 : L ≤ 100) : RepK .f32 (mg K L) := by
  have hb : FloatKind.f32.format.binade = 8388608 := by decide
  have hi : FloatKind.f32.format.infRung = 2139095040 := by decide
  have hl : FloatKind.f32.format.leastPlace = -149 := by decide
  by_cases h0 : K < 8388608
  · obtain ⟨d, hd⟩ : ∃ d : Nat, L = -149 + d := ⟨(L + 149).toNat, by omega⟩
    subst hd
    clear h1
    induction d generalizing K with
    | zero =>
      refine ⟨false, K, by rw [hi]; omega, ?_⟩
      rw [sg_f, rV_eq, hl]
      unfold rM rJ
      rw [hb, if_pos h0, if_pos h0]
    | succ d ih =>
      have e : mg K (-149 + ((d + 1 : Nat) : Int)) = mg (K * 2) (-149 + (d : Int)) := by
        have := mg_up K 1 (-149 + (d : Int))
        rw [show -149 + ((d + 1 : Nat) : Int) = -149 + (d : Int) + ((1 : Nat) : Int) by omega]
        exact this
      rw [e]
      by_cases hK2 : K * 2 < 8388608
      · exact ih (by omega) hK2 (by omega)
      · refine ⟨false, d * 8388608 + K * 2, by rw [hi]; omega, ?_⟩
        rw [sg_f, rV_eq, hl]
        unfold rM rJ
        rw [hb, if_neg (by omega), if_neg (by omega)]
        congr 1 <;> omega
  · obtain ⟨d, hd⟩ : ∃ d : Nat, L = -149 + d := ⟨(L + 149).toNat, by omega⟩
    subst hd
    refine ⟨false, d * 8388608 + K, by rw [hi]; omega, ?_⟩
    rw [sg_f, rV_eq, hl]
    unfold rM rJ
    rw [hb, if_neg (by omega), if_neg (by omega)]
    congr 1 <;> omega
/-- A number of the format is a whole number over 2 ^ 149. -/
theorem rep_whole {q : Rat} (h : RepK .f32 q) : ∃ z : Int, q = (z : Rat) * p2 (-149) := by
  obtain ⟨s, R, hR, rfl⟩ := h
  have hl : FloatKind.f32.format.leastPlace = -149 := by decide
  refine ⟨if s then -(rU FloatKind.f32.format R : Int) else (rU FloatKind.f32.format R : Int), ?_⟩
  unfold rV mg
  rw [hl]
  cases s
  · rw [sg_f, if_neg (by simp), Rat.intCast_natCast]
  · rw [sg_t, if_pos rfl, Rat.intCast_neg, Rat.intCast_natCast, Rat.neg_mul]
/-- What follows a rung. -/
theorem rV_next (R : Nat) : rV FloatKind.f32.format (R + 1) = rV FloatKind.f32.format R + p2 (-149 + (rJ FloatKind.f32.format R : Int)) := by
  have hb : FloatKind.f32.format.binade = 8388608 := by decide
  have hl : FloatKind.f32.format.leastPlace = -149 := by decide
  rw [rV_eq, rV_eq, hl]
  have e1 := rR_eq FloatKind.f32.format R
  rw [hb] at e1
  by_cases hsame : rJ FloatKind.f32.format (R + 1) = rJ FloatKind.f32.format R
  · have e2 := rR_eq FloatKind.f32.format (R + 1)
    rw [hb, hsame] at e2
    have : rM FloatKind.f32.format (R + 1) = rM FloatKind.f32.format R + 1 := by omega
    rw [hsame, this]
    unfold mg
    rw [show ((rM FloatKind.f32.format R + 1 : Nat) : Rat) = (rM FloatKind.f32.format R : Rat) + 1 from Rat.natCast_add _ _]
    grind
  · have hj : rJ FloatKind.f32.format (R + 1) = rJ FloatKind.f32.format R + 1 ∧ rM FloatKind.f32.format R = 16777215 ∧ rM FloatKind.f32.format (R + 1) = 8388608 := by
      have e2 := rR_eq FloatKind.f32.format (R + 1)
      have l1 := rM_lt FloatKind.f32.format R
      have l2 := rM_lt FloatKind.f32.format (R + 1)
      have g1 := rM_ge FloatKind.f32.format (R := R)
      have g2 := rM_ge FloatKind.f32.format (R := R + 1)
      rw [hb] at e2 l1 l2 g1 g2
      omega
    obtain ⟨h1, h2, h3⟩ := hj
    rw [h1, h2, h3]
    unfold mg
    rw [show -149 + ((rJ FloatKind.f32.format R + 1 : Nat) : Int) = -149 + (rJ FloatKind.f32.format R : Int) + 1 by omega, p2_add _ 1, p2_1]
    show (8388608 : Rat) * _ = (16777215 : Rat) * _ + _
    grind
theorem rJ_step {R : Nat} (h : rJ FloatKind.f32.format R ≠ 0) : p2 (-149 + (rJ FloatKind.f32.format R : Int)) * 8388608 ≤ rV FloatKind.f32.format R := by
  have hb : FloatKind.f32.format.binade = 8388608 := by decide
  have hl : FloatKind.f32.format.leastPlace = -149 := by decide
  have hm := rM_ge FloatKind.f32.format h
  rw [hb] at hm
  rw [rV_eq, hl]
  unfold mg
  have h1 : (8388608 : Rat) ≤ (rM FloatKind.f32.format R : Rat) := Rat.natCast_le_natCast.2 hm
  have := Rat.mul_le_mul_of_nonneg_right h1 (p2_nn (-149 + (rJ FloatKind.f32.format R : Int)))
  grind
/-- A sum not below 0 is rounded by less than a part of 2 ^ 23. -/
theorem rel_pos {v r : Rat} (hn : Rnd .f32 v r) (hr : RepK .f32 r) (hw : ∃ z : Int, v = (z : Rat) * p2 (-149)) (v0 : 0 ≤ v) (v1 : v ≤ p2 100) : v - v * p2 (-23) ≤ r ∧ r ≤ v + v * p2 (-23) := by
  have q23 := p2_23
  have r0 : 0 ≤ r := hn.1 0 rep0 v0
  have hvq := Rat.mul_nonneg v0 (p2_nn (-23))
  obtain ⟨s, R, hR, er⟩ := hr
  have er' : r = rV FloatKind.f32.format R := by
    cases s
    · exact er
    · rw [sg_t] at er
      have := rV_nn FloatKind.f32.format R
      grind
  clear er
  have hi : FloatKind.f32.format.infRung = 2139095040 := by decide
  -- a gap of the format's that holds v within
  have gap : ∀ Q : Nat, Q + 1 < FloatKind.f32.format.infRung + 1 → rV FloatKind.f32.format Q < v → v < rV FloatKind.f32.format (Q + 1) → p2 (-149 + (rJ FloatKind.f32.format Q : Int)) ≤ v * p2 (-23) := by
    intro Q _ h1 h2
    by_cases hj : rJ FloatKind.f32.format Q = 0
    · exfalso
      obtain ⟨z, hz⟩ := hw
      rw [rV_next, hj] at h2
      have hlq : rV FloatKind.f32.format Q = ((rU FloatKind.f32.format Q : Nat) : Rat) * p2 (-149) := rfl
      rw [show (-149 : Int) + ((0 : Nat) : Int) = -149 by omega] at h2
      rw [hlq] at h1 h2
      rw [hz] at h1 h2
      have hp := p2_pos (-149)
      have a := (Rat.mul_lt_mul_right hp).1 h1
      have h2' : (z : Rat) * p2 (-149) < (((rU FloatKind.f32.format Q : Nat) : Rat) + 1) * p2 (-149) := by rw [Rat.add_mul, Rat.one_mul]; exact h2
      have b := (Rat.mul_lt_mul_right hp).1 h2'
      rw [← Rat.intCast_natCast] at a b
      have a' := Rat.intCast_lt_intCast.1 a
      have b' : (z : Rat) < (((rU FloatKind.f32.format Q : Nat) : Int) + 1 : Int) := by rw [Rat.intCast_add]; exact b
      have b'' := Rat.intCast_lt_intCast.1 b'
      omega
    · have h3 := rJ_step hj
      have h4 := Rat.mul_le_mul_of_nonneg_right (Rat.le_trans h3 (Rat.le_of_lt h1)) (p2_nn (-23))
      rw [Rat.mul_assoc, Rat.mul_comm 8388608, q23, Rat.mul_one] at h4
      exact h4
  by_cases hrv : r = v
  · constructor <;> grind
  by_cases hlt : r < v
  · refine ⟨?_, by grind⟩
    -- the next rung is not below v
    have h2 : v < rV FloatKind.f32.format (R + 1) ∨ rV FloatKind.f32.format (R + 1) ≤ v := by
      by_cases h : v < rV FloatKind.f32.format (R + 1)
      · exact .inl h
      · right; grind
    rcases h2 with h2 | h2
    · have := gap R (by omega) (by rw [← er']; exact hlt) h2
      rw [rV_next] at h2
      grind
    · exfalso
      by_cases hR1 : R + 1 < FloatKind.f32.format.infRung
      · have := hn.1 _ ⟨false, R + 1, hR1, rfl⟩ h2
        have h3 := rV_lt (f := FloatKind.f32.format) (show R < R + 1 by omega)
        rw [← er'] at h3
        simp only [sg_f] at this
        grind
      · obtain ⟨t, R1, hR1, e1⟩ := rep32 (E := 101) (by omega) (by omega)
        have h5 : p2 100 < p2 101 := by
          have := p2_add 100 1
          rw [p2_1] at this
          have h6 := p2_pos 100
          rw [show (101 : Int) = 100 + 1 by omega, this]
          grind
        have h7 : rV FloatKind.f32.format R < rV FloatKind.f32.format R1 := by
          rw [← er']
          cases t
          · rw [sg_f] at e1
            rw [← e1]
            grind
          · rw [sg_t] at e1
            have := rV_nn FloatKind.f32.format R1
            have := p2_pos 101
            grind
        have := (rV_iff (f := FloatKind.f32.format)).1 h7
        omega
  · refine ⟨by grind, ?_⟩
    have hgt : v < r := by grind
    have hR0 : R ≠ 0 := by
      rintro rfl
      rw [rV_zero] at er'
      grind
    obtain ⟨Q, rfl⟩ : ∃ Q, R = Q + 1 := ⟨R - 1, by omega⟩
    have h1 : rV FloatKind.f32.format Q < v := by
      by_cases h : rV FloatKind.f32.format Q < v
      · exact h
      · exfalso
        have := hn.2 _ ⟨false, Q, by omega, rfl⟩ (show v ≤ sg false (rV FloatKind.f32.format Q) by rw [sg_f]; grind)
        have h3 := rV_lt (f := FloatKind.f32.format) (show Q < Q + 1 by omega)
        rw [← er'] at h3
        simp only [sg_f] at this
        grind
    have := gap Q (by omega) h1 (by rw [← er']; exact hgt)
    rw [rV_next] at er'
    grind
theorem Rnd.neg {k : FloatKind} {v r : Rat} (h : Rnd k v r) : Rnd k (-v) (-r) :=
  ⟨fun c hc hv => by have := h.2 (-c) (rep_neg hc) (by grind); grind, fun c hc hv => by have := h.1 (-c) (rep_neg hc) (by grind); grind⟩
def aR (v : Rat) : Rat := if v ≤ 0 then -v else v
theorem aR_nn (v : Rat) : 0 ≤ aR v := by unfold aR; split <;> grind
theorem rel_abs {v r : Rat} (hn : Rnd .f32 v r) (hr : RepK .f32 r) (hw : ∃ z : Int, v = (z : Rat) * p2 (-149)) (v1 : aR v ≤ p2 100) : aR r ≤ aR v + aR v * p2 (-23) := by
  unfold aR at *
  by_cases h : v ≤ 0
  · rw [if_pos h] at v1 ⊢
    obtain ⟨z, hz⟩ := hw
    have h1 := (rel_pos hn.neg (rep_neg hr) ⟨-z, by rw [hz, Rat.intCast_neg, Rat.neg_mul]⟩ (by grind) v1).2
    have h2 := hn.2 0 rep0 h
    rw [if_pos h2]
    exact h1
  · rw [if_neg h] at v1 ⊢
    have h1 := (rel_pos hn hr hw (by grind) v1).2
    have h2 := hn.1 0 rep0 (by grind)
    by_cases h3 : r ≤ 0
    · rw [if_pos h3]
      have := Rat.mul_nonneg (a := v) (b := p2 (-23)) (by grind) (p2_nn _)
      grind
    · rw [if_neg h3]; exact h1
theorem sum_whole {k : FloatKind} {u v : Rat} (hk : k = .f32) (hu : RepK k u) (hv : RepK k v) : ∃ z : Int, u + v = (z : Rat) * p2 (-149) := by
  subst hk
  obtain ⟨a, ea⟩ := rep_whole hu
  obtain ⟨b, eb⟩ := rep_whole hv
  exact ⟨a + b, by rw [ea, eb, Rat.intCast_add, Rat.add_mul]⟩

/-! ### the nearest number -/
open Ieee in
theorem cut_half {m : Nat} {p last : Int} {K : Nat} (_hm : m ≠ 0) (h : mg (2 * K + 1) (last - 1) < mg m p) : K + 1 ≤ Toward.even.cut false (m <<< (p - last).toNat) (last - p).toNat := by
  by_cases hp : last ≤ p
  · have hd : (last - p).toNat = 0 := by omega
    rw [hd]
    obtain ⟨n, rfl⟩ : ∃ n : Nat, p = last + n := ⟨(p - last).toNat, by omega⟩
    have e : ((last + n - last).toNat) = n := by omega
    rw [e, Nat.shiftLeft_eq]
    have h2 : mg m (last + n) = mg (2 * (m * 2 ^ n)) (last - 1) := by
      have h7 := mg_up (m * 2 ^ n) 1 (last - 1)
      have h8 : last - 1 + ((1 : Nat) : Int) = last := by omega
      rw [h8] at h7
      rw [mg_up, Nat.mul_comm 2]
      exact h7
    rw [h2, mg_lt] at h
    unfold Toward.cut
    simp [Nat.mod_one]
    omega
  · have hz : (p - last).toNat = 0 := by omega
    rw [hz, Nat.shiftLeft_zero]
    obtain ⟨d, hd⟩ : ∃ d : Nat, last = p + ((d + 1 : Nat) : Int) := ⟨(last - p - 1).toNat, by omega⟩
    subst hd
    have e : ((p + ((d + 1 : Nat) : Int) - p).toNat) = d + 1 := by omega
    rw [e]
    have h2 : mg (2 * K + 1) (p + ((d + 1 : Nat) : Int) - 1) = mg ((2 * K + 1) * 2 ^ d) p := by
      rw [← mg_up]
      congr 1
      omega
    rw [h2, mg_lt] at h
    have hlt : m < 2 ^ (m.log2 + 1) := Nat.lt_log2_self
    have hdl : d ≤ m.log2 := by
      by_cases hd2 : d ≤ m.log2
      · exact hd2
      · exfalso
        have h3 : 2 ^ (m.log2 + 1) ≤ 2 ^ d := Nat.pow_le_pow_right (by decide) (by omega)
        have h4 : 1 * 2 ^ d ≤ (2 * K + 1) * 2 ^ d := Nat.mul_le_mul_right _ (by omega)
        omega
    unfold Toward.cut
    dsimp only
    rw [Nat.min_eq_left (by omega), Nat.shiftLeft_eq, Nat.one_mul]
    have hpos : 0 < 2 ^ (d + 1) := Nat.two_pow_pos _
    have hdm := Nat.div_add_mod m (2 ^ (d + 1))
    have hpow : 2 ^ (d + 1) = 2 * 2 ^ d := by rw [Nat.pow_succ, Nat.mul_comm]
    have hK : K ≤ m / 2 ^ (d + 1) := by
      rw [Nat.le_div_iff_mul_le hpos, hpow]
      have : K * (2 * 2 ^ d) = 2 * K * 2 ^ d := by rw [Nat.mul_comm 2 K, Nat.mul_assoc]
      rw [this]
      rw [Nat.add_mul] at h
      omega
    rcases Nat.lt_or_eq_of_le hK with hl | hl
    · omega
    · rw [← hl] at hdm ⊢
      have h5 : 2 ^ (d + 1) < 2 * (m % 2 ^ (d + 1)) := by
        rw [Nat.add_mul, Nat.one_mul] at h
        have : 2 ^ (d + 1) * K = 2 * K * 2 ^ d := by rw [hpow, Nat.mul_comm, Nat.mul_comm 2 K, Nat.mul_assoc]
        omega
      rw [decide_eq_true h5]
      simp
/-- A sum from 1 to 2 is rounded to the nearest of the grid of 2 ^ -23. -/
theorem add_half {x y : Option Nat} {u v r : Rat} (hx : Vl .f32 x u) (hy : Vl .f32 y v) (hr : Vl .f32 (opF .add .f32 x y) r) (v1 : 1 ≤ u + v) (v2 : u + v < 2) {K : Nat} (hK0 : 8388608 ≤ K + 1) (h : ((2 * K + 1 : Nat) : Rat) * p2 (-24) < u + v) : ((K + 1 : Nat) : Rat) * p2 (-23) ≤ r := by
  obtain ⟨a, rfl, ha⟩ := hx
  obtain ⟨b, rfl, hb⟩ := hy
  obtain ⟨s, m, i, ea, a1, a2⟩ := ha.read
  obtain ⟨t, n, j, eb, b1, b2⟩ := hb.read
  have ea' : vD (.number s m i) = u := Rat.le_antisymm a2 a1
  have eb' : vD (.number t n j) = v := Rat.le_antisymm b2 b1
  obtain ⟨c, l, p, es, ev⟩ := sum_val s m i t n j
  rw [ea', eb'] at ev
  have hc : c = false := by
    cases c
    · rfl
    · exfalso
      have := mg_nn l p
      simp only [vD, sg_t] at ev
      grind
  subst hc
  simp only [vD, sg_f] at ev
  have hl : l ≠ 0 := by
    rintro rfl
    rw [mg_zero] at ev
    grind
  have eo : opF .add .f32 (some a) (some b) = some (FloatKind.f32.format.nearest false l p) := by
    show ((FloatKind.f32.format.read a).sum (FloatKind.f32.format.read b)).map FloatKind.f32.format.write = _
    rw [ea, eb, es]; rfl
  have hb2 : FloatKind.f32.format.binade = 8388608 := by decide
  have hi : FloatKind.f32.format.infRung = 2139095040 := by decide
  have hlp : FloatKind.f32.format.leastPlace = -149 := by decide
  have hfb : FloatKind.f32.format.fractionBits = 23 := by decide
  have hpl : p + (l.log2 : Int) = 0 := by
    have h1 := mg_bot hl p
    have h2 := mg_top (m := l) p
    rw [ev] at h1 h2
    have g1 : p2 (p + l.log2) < p2 1 := by rw [p2_1]; grind
    have g2 : p2 0 < p2 (p + l.log2 + 1) := by rw [p2_zero]; grind
    have k1 : p + (l.log2 : Int) < 1 := by
      by_cases hh : p + (l.log2 : Int) < 1
      · exact hh
      · have := p2_mono (show (1 : Int) ≤ p + l.log2 by omega)
        grind
    have k2 : 0 < p + (l.log2 : Int) + 1 := by
      by_cases hh : 0 < p + (l.log2 : Int) + 1
      · exact hh
      · have := p2_mono (show p + l.log2 + 1 ≤ (0 : Int) by omega)
        grind
    omega
  have hcut : K + 1 ≤ Ieee.Toward.even.cut false (l <<< (p - (-23)).toNat) (-23 - p).toNat := by
    refine cut_half (last := -23) hl ?_
    rw [ev]
    exact h
  have hrung : 126 * 8388608 + (K + 1) ≤ rungOf FloatKind.f32.format l p := by
    unfold rungOf
    dsimp only
    rw [hb2, hlp, hfb, show max (p + (l.log2 : Int) - ((23 : Nat) : Int)) (-149) = -23 by omega]
    rw [show ((-23 : Int) - -149).toNat = 126 by decide]
    omega
  have hup : rungOf FloatKind.f32.format l p ≤ 1073741824 := by
    refine rung_hi _ hl ?_
    rw [ev, rV_eq]
    unfold rM rJ
    rw [hb2, hlp, if_neg (by omega), if_neg (by omega)]
    show u + v ≤ mg 8388608 (-22)
    have q22 : p2 (-22) * 4194304 = 1 := p2m 22
    show u + v ≤ (8388608 : Rat) * p2 (-22)
    grind
  have hw : FloatKind.f32.format.nearest false l p = FloatKind.f32.format.word false (rungOf FloatKind.f32.format l p) := by
    rw [nearest_eq _ _ _ hl, Nat.min_eq_left (by rw [hi]; omega)]
  have hr2 := vl_of (k := .f32) (read_rung FloatKind.f32.format false (R := rungOf FloatKind.f32.format l p) (by rw [hi]; omega))
  rw [eo, hw] at hr
  have e2 := hr.uniq hr2
  rw [e2]
  show _ ≤ mg _ _
  rw [← rV_eq]
  have hK2 : K + 1 ≤ 16777216 := by
    have h1 : 126 * 8388608 + (K + 1) ≤ 1073741824 := Nat.le_trans hrung hup
    omega
  have hle := rV_le FloatKind.f32.format hrung
  refine Rat.le_trans ?_ hle
  rw [rV_eq]
  unfold rM rJ
  rw [hb2, hlp]
  by_cases hlast2 : K + 1 < 16777216
  · rw [if_neg (by omega), if_neg (by omega)]
    rw [show (126 * 8388608 + (K + 1)) / 8388608 - 1 = 126 by omega, show 8388608 + (126 * 8388608 + (K + 1)) % 8388608 = K + 1 by omega]
    exact Rat.le_refl
  · have hKe : K + 1 = 16777216 := by omega
    rw [hKe]
    rw [if_neg (by omega), if_neg (by omega)]
    have q23 := p2_23
    have q22 : p2 (-22) * 4194304 = 1 := p2m 22
    show (16777216 : Rat) * p2 (-23) ≤ (8388608 : Rat) * p2 (-22)
    grind
end Go.Proofs.Ytimpabceellihaa
