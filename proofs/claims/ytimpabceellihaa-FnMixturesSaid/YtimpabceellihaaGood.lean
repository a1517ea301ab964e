/-
  How far a rounded result lies from what was rounded: float operations on what words are worth.
  What gathering does to sums over values with chances: nearly nothing.
  Gathering chances that make one gives a valid share, nearly with the same weighed sums.
-/
import Derived.Test.YtimpabceellihaaVal2
import Derived.Test.YtimpabceellihaaGathP
namespace Go.Proofs.Ytimpabceellihaa
section
open Go.RowKit

/-- The word's worth is q. -/
def Vl (k : FloatKind) (o : Option Nat) (q : Rat) : Prop := Bet k o q q
/-- r is what v is rounded to, or lies as near: no number of the format's parts them. -/
def Rnd (k : FloatKind) (v r : Rat) : Prop := (∀ c, RepK k c → c ≤ v → c ≤ r) ∧ (∀ c, RepK k c → v ≤ c → r ≤ c)
section
variable {k : FloatKind} {x y o : Option Nat} {u v q r lo hi : Rat}
theorem Bet.vl (h : Bet k o lo hi) : ∃ q, Vl k o q ∧ lo ≤ q ∧ q ≤ hi := by
  obtain ⟨b, rfl, s, R, e, hR, h1, h2⟩ := h
  exact ⟨_, ⟨b, rfl, s, R, e, hR, Rat.le_refl, Rat.le_refl⟩, h1, h2⟩
theorem Vl.uniq (h : Vl k o q) (h' : Vl k o r) : q = r := by
  obtain ⟨b, rfl, s, R, e, hR, h1, h2⟩ := h
  obtain ⟨b', e', s', R', e2, hR', h1', h2'⟩ := h'
  cases e'
  rw [e] at e2
  injection e2 with e3 e4 e5
  subst e3
  have : rV k.format R = rV k.format R' := by rw [rV_eq, rV_eq, e4, e5]
  rw [this] at h1 h2
  grind
theorem Vl.le (h : Vl k o q) (h' : Bet k o lo hi) : lo ≤ q ∧ q ≤ hi := by
  obtain ⟨r, hr, h1, h2⟩ := h'.vl
  rw [h.uniq hr]
  exact ⟨h1, h2⟩
theorem Vl.rep (h : Vl k o q) : RepK k q := by
  obtain ⟨b, rfl, s, R, e, hR, h1, h2⟩ := h
  exact ⟨s, R, hR, by grind⟩
theorem Vl.bet (h : Vl k o q) (h1 : lo ≤ q) (h2 : q ≤ hi) : Bet k o lo hi := Bet.mono h h1 h2
theorem vl_of {b : Nat} {s : Bool} {m : Nat} {p : Int} (h : k.format.read b = .number s m p) : Vl k (some b) (vD (.number s m p)) := bet_of h Rat.le_refl Rat.le_refl

/-! ### operations -/
theorem rnd_of (hlo : RepK k lo) (hhi : RepK k hi) (hb : ∀ c d, RepK k c → RepK k d → c ≤ v → v ≤ d → Bet k o c d) (h1 : lo ≤ v) (h2 : v ≤ hi) : ∃ r, Vl k o r ∧ Rnd k v r := by
  obtain ⟨r, hr, _, _⟩ := (hb lo hi hlo hhi h1 h2).vl
  exact ⟨r, hr, fun c hc h => (hr.le (hb c hi hc hhi h h2)).1, fun c hc h => (hr.le (hb lo c hlo hc h1 h)).2⟩
theorem vl_add (hx : Vl k x u) (hy : Vl k y v) (hlo : RepK k lo) (hhi : RepK k hi) (h1 : lo ≤ u + v) (h2 : u + v ≤ hi) : ∃ r, Vl k (opF .add k x y) r ∧ Rnd k (u + v) r :=
  rnd_of hlo hhi (fun _ _ hc hd h1 h2 => bet_add hx hy hc hd h1 h2) h1 h2
theorem vl_sub (hx : Vl k x u) (hy : Vl k y v) (hlo : RepK k lo) (hhi : RepK k hi) (h1 : lo ≤ u - v) (h2 : u - v ≤ hi) : ∃ r, Vl k (opF .sub k x y) r ∧ Rnd k (u - v) r :=
  rnd_of hlo hhi (fun _ _ hc hd h1 h2 => bet_sub hx hy hc hd h1 h2) h1 h2
theorem vl_mul (hx : Vl k x u) (hy : Vl k y v) (hlo : RepK k lo) (hhi : RepK k hi) (h1 : lo ≤ u * v) (h2 : u * v ≤ hi) : ∃ r, Vl k (opF .mul k x y) r ∧ Rnd k (u * v) r :=
  rnd_of hlo hhi (fun _ _ hc hd h1 h2 => bet_mul hx hy hc hd (fun a b ha1 ha2 hb1 hb2 => by
    rw [show a = u by grind, show b = v by grind]; exact ⟨h1, h2⟩)) h1 h2

/-! ### the grid of a power of two -/
def gB (k : FloatKind) : Nat := k.format.fractionBits + 1
/-- The places where the grid lies in the format. -/
def inG (k : FloatKind) (e : Int) : Prop := k.format.leastPlace + k.format.fractionBits ≤ e ∧ (e - k.format.leastPlace).toNat + 3 < 2 ^ k.format.exponentBits - 1
theorem in32 {e : Int} (h1 : -126 ≤ e) (h2 : e ≤ 100) : inG .f32 e := by
  refine ⟨?_, ?_⟩
  · show (-149 : Int) + (23 : Nat) ≤ e; omega
  · show (e - (-149)).toNat + 3 < 255; omega
theorem in64 {e : Int} (h1 : -1022 ≤ e) (h2 : e ≤ 900) : inG .f64 e := by
  refine ⟨?_, ?_⟩
  · show (-1074 : Int) + (52 : Nat) ≤ e; omega
  · show (e - (-1074)).toNat + 3 < 2047; omega
theorem rep_gridN {e : Int} (he : inG k e) {n : Nat} (hn : n ≤ 2 ^ gB k) : RepK k (mg n e) := by
  by_cases h0 : n = 0
  · subst h0; rw [mg_zero]; exact rep0
  have h1 := he.1
  have h2 := he.2
  by_cases h : n = 2 ^ gB k
  · subst h
    rw [mg_pow]
    refine rep_p2 ?_ ?_
    · unfold gB; omega
    · unfold gB; omega
  · refine rep_mg h0 ?_ ?_ ?_
    · have h3 : n < 2 ^ (k.format.fractionBits + 1) := by unfold gB at hn h; omega
      have := (Nat.log2_lt h0).2 h3
      omega
    · omega
    · omega
theorem rep_grid {e : Int} (he : inG k e) {z : Int} (hz : z.natAbs ≤ 2 ^ gB k) : RepK k ((z : Rat) * p2 e) := by
  have h := rep_gridN he hz
  unfold mg at h
  by_cases hs : 0 ≤ z
  · have : (z : Rat) = ((z.natAbs : Nat) : Rat) := by
      rw [← Rat.intCast_natCast]; congr 1; omega
    rw [this]; exact h
  · have : (z : Rat) = -((z.natAbs : Nat) : Rat) := by
      rw [← Rat.intCast_natCast, ← Rat.intCast_neg]; congr 1; omega
    rw [this, Rat.neg_mul]; exact rep_neg h
theorem Rnd.exact (h : Rnd k v r) (hv : RepK k v) : r = v := Rat.le_antisymm (h.2 v hv Rat.le_refl) (h.1 v hv Rat.le_refl)
theorem p2_mul_inv (e : Int) : p2 e * p2 (-e) = 1 := by rw [← p2_add, show e + -e = 0 by omega, p2_zero]
/-- A rounded result lies within a step of the grid of what was rounded. -/
theorem Rnd.err {e : Int} (h : Rnd k v r) (he : inG k e) (h1 : -p2 (e + gB k) ≤ v) (h2 : v ≤ p2 (e + gB k)) : v - p2 e ≤ r ∧ r ≤ v + p2 e := by
  have hp := p2_pos e
  have hq := p2_pos (-e)
  have hpq := p2_mul_inv e
  obtain ⟨n, hn⟩ : ∃ n, n = (v * p2 (-e)).floor := ⟨_, rfl⟩
  have f1 := Rat.floor_le (v * p2 (-e))
  have f2 := Rat.lt_floor_add_one (v * p2 (-e))
  rw [← hn] at f1 f2
  have g1 : (n : Rat) * p2 e ≤ v := by
    have := Rat.mul_le_mul_of_nonneg_right f1 (p2_nn e)
    rw [Rat.mul_assoc, Rat.mul_comm (p2 (-e)), hpq, Rat.mul_one] at this
    exact this
  have g2 : v < ((n + 1 : Int) : Rat) * p2 e := by
    have := (Rat.mul_lt_mul_right hp).2 f2
    rw [Rat.mul_assoc, Rat.mul_comm (p2 (-e)), hpq, Rat.mul_one] at this
    exact this
  have hg : p2 (e + gB k) = ((2 ^ gB k : Nat) : Rat) * p2 e := by rw [p2_add, p2_nat, Rat.mul_comm]
  have hup : n ≤ (2 ^ gB k : Nat) := by
    have : (n : Rat) * p2 e ≤ ((2 ^ gB k : Nat) : Rat) * p2 e := Rat.le_trans g1 (by rw [← hg]; exact h2)
    have := Rat.le_of_mul_le_mul_right this hp
    rw [← Rat.intCast_natCast, Rat.intCast_le_intCast] at this
    exact this
  have hdn : -((2 ^ gB k : Nat) : Int) ≤ n := by
    have h3 : -((2 ^ gB k : Nat) : Rat) * p2 e < ((n + 1 : Int) : Rat) * p2 e := by
      refine Std.lt_of_le_of_lt ?_ g2
      rw [Rat.neg_mul, ← hg]; exact h1
    have h4 := (Rat.mul_lt_mul_right hp).1 h3
    rw [← Rat.intCast_natCast, ← Rat.intCast_neg, Rat.intCast_lt_intCast] at h4
    omega
  have c1 := h.1 _ (rep_grid he (z := n) (by omega)) g1
  rw [Rat.intCast_add, Rat.add_mul] at g2
  have e1 : ((1 : Int) : Rat) * p2 e = p2 e := Rat.one_mul _
  rw [e1] at g2
  refine ⟨by grind, ?_⟩
  by_cases ht : n + 1 ≤ (2 ^ gB k : Nat)
  · have c2 := h.2 _ (rep_grid he (z := n + 1) (by omega)) (by rw [Rat.intCast_add, Rat.add_mul, e1]; grind)
    rw [Rat.intCast_add, Rat.add_mul, e1] at c2
    grind
  · have : n = (2 ^ gB k : Nat) := by omega
    have c2 := h.2 _ (rep_grid he (z := n) (by omega)) (by rw [this, Rat.intCast_natCast, ← hg]; exact h2)
    grind
theorem gB32 : (gB .f32 : Int) = 24 := rfl
theorem gB64 : (gB .f64 : Int) = 53 := rfl

/-! ### quotients -/
open Ieee in
theorem quotient_cmp (dg : Nat) (hd : 1 ≤ dg) (s : Bool) (m : Nat) (i : Int) (t : Bool) (n : Nat) (j : Int) (hn : n ≠ 0) :
    ∃ l p, (Datum.number s m i).quotient dg (.number t n j) = some (.number (s ^^ t) l p) ∧ (m = 0 → l = 0) ∧
      ∀ (K : Nat) (L : Int), K < 2 ^ (dg - 1) → (mg K L * mg n j ≤ mg m i → mg K L ≤ mg l p) ∧ (mg m i ≤ mg K L * mg n j → mg l p ≤ mg K L) := by
  refine ⟨_, _, by simp only [Datum.quotient]; rw [if_neg hn], ?_, ?_⟩
  · rintro rfl
    simp
  · intro K L hK
    by_cases hm : m = 0
    · subst hm
      simp only [Nat.zero_shiftLeft, Nat.zero_div, Nat.zero_mod, Nat.mul_zero]
      rw [show ((0 != 0 : Bool)).toNat = 0 from rfl, mg_zero, mg_zero]
      refine ⟨fun h => ?_, fun _ => mg_nn _ _⟩
      have h1 := mg_pos hn j
      have h2 := mg_nn K L
      have : mg K L * mg n j ≤ 0 * mg n j := by rw [Rat.zero_mul]; exact h
      exact Rat.le_of_mul_le_mul_right this h1
    generalize hmore : dg + n.log2 - m.log2 = more
    rw [Nat.shiftLeft_eq]
    have hbig : 2 ^ (dg - 1) * n ≤ m * 2 ^ more := by
      have h1 : n < 2 ^ (n.log2 + 1) := Nat.lt_log2_self
      have h2 : 2 ^ m.log2 ≤ m := Nat.log2_self_le hm
      calc 2 ^ (dg - 1) * n ≤ 2 ^ (dg - 1) * 2 ^ (n.log2 + 1) := Nat.mul_le_mul_left _ (by omega)
        _ = 2 ^ (dg - 1 + (n.log2 + 1)) := (Nat.pow_add _ _ _).symm
        _ ≤ 2 ^ (m.log2 + more) := Nat.pow_le_pow_right (by decide) (by omega)
        _ = 2 ^ m.log2 * 2 ^ more := Nat.pow_add _ _ _
        _ ≤ m * 2 ^ more := Nat.mul_le_mul_right _ h2
    generalize hD : m * 2 ^ more = D at *
    have hpos : 0 < n := Nat.pos_of_ne_zero hn
    have hq : 2 ^ (dg - 1) ≤ D / n := (Nat.le_div_iff_mul_le hpos).2 hbig
    have e1 : mg m i = mg D (i - more) := by
      rw [← hD, ← mg_up]
      congr 1
      omega
    have hdm := Nat.div_add_mod D n
    obtain ⟨p, hp⟩ : ∃ p : Int, p = i - j - more - 1 := ⟨_, rfl⟩
    rw [← hp]
    have e2 : mg 1 (p + 1) * mg n j = mg n (i - more) := by
      rw [mg_mul, Nat.one_mul]; congr 1; omega
    have hpn := mg_pos hn j
    by_cases hL : p + 1 ≤ L
    · obtain ⟨g, hg⟩ : ∃ g : Nat, L = p + 1 + g := ⟨(L - (p + 1)).toNat, by omega⟩
      have e3 : mg K L = mg (2 * (K * 2 ^ g)) p := by
        have h7 := mg_up (K * 2 ^ g) 1 p
        rw [hg, mg_up, Nat.mul_comm 2]
        exact h7
      have e4 : mg K L * mg n j = mg (K * 2 ^ g * n) (i - more) := by
        rw [hg, mg_up, mg_mul]; congr 1; omega
      rw [e4, e1, mg_le, e3, mg_le]
      rw [mg_le]
      refine ⟨fun h => ?_, fun h => ?_⟩
      · have : K * 2 ^ g ≤ D / n := (Nat.le_div_iff_mul_le hpos).2 h
        omega
      · have hq2 : D / n ≤ K * 2 ^ g := Nat.div_le_of_le_mul (by rw [Nat.mul_comm]; exact h)
        clear hbig hq hK e1 e2 e3 e4 hD hmore
        have hc : ∀ x : Bool, x.toNat ≤ 1 := by decide
        have := hc (D % n != 0)
        rcases Nat.lt_or_eq_of_le hq2 with hq3 | hq3
        · refine mg_le.2 ?_
          omega
        · have hr : D % n = 0 := by
            rw [hq3, Nat.mul_comm] at hdm
            generalize K * 2 ^ g * n = Z at *
            omega
          rw [hr, hq3]
          refine mg_le.2 ?_
          simp
    · have h1 : mg K L < mg (2 ^ (dg - 1)) p := by
        refine Std.lt_of_le_of_lt (mg_place K (show L ≤ p by omega)) ?_
        rw [mg_lt]; exact hK
      have h2 : mg (2 ^ (dg - 1)) p ≤ mg (2 * (D / n) + (D % n != 0).toNat) p := by rw [mg_le]; omega
      refine ⟨fun _ => Rat.le_of_lt (Std.lt_of_lt_of_le h1 h2), fun h => ?_⟩
      exfalso
      have h3 : mg (2 ^ (dg - 1)) (p + 1) * mg n j ≤ mg m i := by
        rw [mg_mul, e1, show p + 1 + j = i - more by omega, mg_le]; exact hbig
      have h4 := Rat.le_of_mul_le_mul_right (Rat.le_trans h3 h) hpn
      have h5 := mg_place (2 ^ (dg - 1)) (show p ≤ p + 1 by omega)
      grind
theorem rep_nn {c : Rat} (h : RepK k c) (h0 : 0 ≤ c) : ∃ (K : Nat) (L : Int), K < 2 ^ (k.format.fractionBits + 1) ∧ c = mg K L := by
  obtain ⟨s, R, hR, rfl⟩ := h
  have hM := rM_lt k.format R
  unfold Ieee.Format.binade at hM
  rw [rV_eq] at h0 ⊢
  cases s
  · exact ⟨_, _, by rw [Nat.pow_succ]; omega, rfl⟩
  · have h1 := mg_nn (rM k.format R) (k.format.leastPlace + rJ k.format R)
    rw [sg_t] at h0 ⊢
    exact ⟨0, 0, Nat.two_pow_pos _, by rw [mg_zero]; grind⟩
theorem bet_quoV (hx : Vl k x u) (hy : Vl k y v) (hv : 0 < v) {c d : Rat} (hc : RepK k c) (hd : RepK k d) (h1 : c * v ≤ u) (h2 : u ≤ d * v) : Bet k (opF .quo k x y) c d := by
  obtain ⟨a, rfl, ha⟩ := hx
  obtain ⟨b, rfl, hb⟩ := hy
  obtain ⟨s, m, i, eu, u1, u2⟩ := ha.read
  obtain ⟨t, n, j, ev, v1, v2⟩ := hb.read
  have eu' : vD (.number s m i) = u := Rat.le_antisymm u2 u1
  have ev' : vD (.number t n j) = v := Rat.le_antisymm v2 v1
  have ht : t = false := by
    cases t
    · rfl
    · exfalso
      have := mg_nn n j
      simp only [vD, sg_t] at ev'
      grind
  subst ht
  simp only [vD, sg_f] at ev'
  have hn : n ≠ 0 := by
    rintro rfl
    rw [mg_zero] at ev'
    rw [← ev'] at hv
    exact absurd hv Rat.lt_irrefl
  obtain ⟨l, p, es, h0, hq⟩ := quotient_cmp (k.format.fractionBits + 2) (by omega) s m i false n j hn
  rw [Bool.xor_false] at es
  have hl := mg_nn l p
  have hm := mg_nn m i
  have z0 : m = 0 → mg l p = 0 := fun h => by rw [h0 h, mg_zero]
  -- whatever lies between 0 and the quotient, or above it
  have up : ∀ c, RepK k c → 0 ≤ c → (c * v ≤ mg m i → c ≤ mg l p) ∧ (mg m i ≤ c * v → mg l p ≤ c) := by
    intro c hc h0
    obtain ⟨K, L, hK, rfl⟩ := rep_nn hc h0
    rw [← ev']
    exact hq K L hK
  refine ⟨k.encode (.number s l p), ?_, enc_bet hc hd ?_ ?_⟩
  · show ((k.format.read a).quotient (k.format.fractionBits + 2) (k.format.read b)).map k.format.write = _
    rw [eu, ev, es]; rfl
  · cases s
    · simp only [vD, sg_f] at eu' ⊢
      by_cases hc0 : 0 ≤ c
      · exact (up c hc hc0).1 (by rw [eu']; exact h1)
      · grind
    · simp only [vD, sg_t] at eu' ⊢
      have hcv : mg m i ≤ -c * v := by rw [Rat.neg_mul]; grind
      by_cases hc0 : c ≤ 0
      · have := (up (-c) (rep_neg hc) (by grind)).2 hcv
        grind
      · exfalso
        have : 0 < c * v := Rat.mul_pos (by grind) hv
        grind
  · cases s
    · simp only [vD, sg_f] at eu' ⊢
      by_cases hd0 : 0 ≤ d
      · exact (up d hd hd0).2 (by rw [eu']; exact h2)
      · exfalso
        have : 0 < (-d) * v := Rat.mul_pos (by grind) hv
        rw [Rat.neg_mul] at this
        grind
    · simp only [vD, sg_t] at eu' ⊢
      have hdv : -d * v ≤ mg m i := by rw [Rat.neg_mul]; grind
      by_cases hd0 : d ≤ 0
      · have := (up (-d) (rep_neg hd) (by grind)).1 hdv
        grind
      · grind
theorem vl_quo (hx : Vl k x u) (hy : Vl k y v) (hv : 0 < v) (hlo : RepK k lo) (hhi : RepK k hi) (h1 : lo ≤ u / v) (h2 : u / v ≤ hi) : ∃ r, Vl k (opF .quo k x y) r ∧ Rnd k (u / v) r :=
  have hne : v ≠ 0 := fun h => by rw [h] at hv; exact absurd hv Rat.lt_irrefl
  have hm : u / v * v = u := Rat.div_mul_cancel hne
  have key : ∀ c, (c ≤ u / v → c * v ≤ u) ∧ (u / v ≤ c → u ≤ c * v) := fun c => ⟨fun h => by have := Rat.mul_le_mul_of_nonneg_right h (Rat.le_of_lt hv); rwa [hm] at this, fun h => by have := Rat.mul_le_mul_of_nonneg_right h (Rat.le_of_lt hv); rwa [hm] at this⟩
  rnd_of hlo hhi (fun c d hc hd a b => bet_quoV hx hy hv hc hd ((key c).1 a) ((key d).2 b)) h1 h2

/-! ### other widths, whole numbers -/
theorem vl_up (h : Vl .f32 x u) : Vl .f64 (upF x) u := by
  obtain ⟨a, rfl, ha⟩ := h
  obtain ⟨s, m, p, e, h1, h2⟩ := ha.read
  have e2 : vD (.number s m p) = u := Rat.le_antisymm h2 h1
  exact bet_up ⟨a, rfl, ha⟩ (by rw [← e2]; exact rep_up e) (by rw [← e2]; exact rep_up e)
theorem vl_nat {n : Nat} (h : n ≤ 2 ^ gB k) (hk : inG k 0) : Vl k (some (floatOfInt k (n : Int))) (n : Rat) := by
  have e : floatOfInt k (n : Int) = k.encode (.number (decide ((n : Int) < 0)) (n : Int).natAbs 0) := rfl
  have hr : RepK k (n : Rat) := by
    have := rep_gridN hk h
    unfold mg at this
    rwa [p2_zero, Rat.mul_one] at this
  refine ⟨_, rfl, ?_⟩
  rw [e, decide_eq_false (by omega), Int.natAbs_natCast]
  have hv : vD (.number false n 0) = (n : Rat) := by
    simp only [vD, sg_f, mg, p2_zero, Rat.mul_one]
  exact enc_bet hr hr (by rw [hv]; exact Rat.le_refl) (by rw [hv]; exact Rat.le_refl)
end
end

section
open Go.RowKit

/-- What a word is worth. -/
def wo (o : Option Nat) : Rat := (o.map val).getD 0
theorem vl_wo {o : Option Nat} {q : Rat} (h : Vl .f32 o q) : wo o = q := by
  obtain ⟨b, rfl, hb⟩ := h
  obtain ⟨s, m, p, e, h1, h2⟩ := hb.read
  show vD (FloatKind.f32.format.read b) = q
  rw [e]
  exact Rat.le_antisymm h2 h1
theorem vl_val {b : Nat} {q : Rat} (h : Vl .f32 (some b) q) : val b = q := vl_wo h
/-- A word worth a number of 0 or more. -/
def OkC (o : Option Nat) : Prop := Vl .f32 o (wo o) ∧ 0 ≤ wo o
theorem okC_of {o : Option Nat} {q : Rat} (h : Vl .f32 o q) (h0 : 0 ≤ q) : OkC o := by
  unfold OkC
  rw [vl_wo h]; exact ⟨h, h0⟩
/-- A product of two that are bounded. -/
theorem mul_bd {a b A B : Rat} (h1 : -A ≤ a) (h2 : a ≤ A) (h3 : -B ≤ b) (h4 : b ≤ B) : -(A * B) ≤ a * b ∧ a * b ≤ A * B := by
  have e1 := Rat.mul_nonneg (a := A - a) (b := B - b) (by grind) (by grind)
  have e2 := Rat.mul_nonneg (a := A + a) (b := B + b) (by grind) (by grind)
  have e3 := Rat.mul_nonneg (a := A - a) (b := B + b) (by grind) (by grind)
  have e4 := Rat.mul_nonneg (a := A + a) (b := B - b) (by grind) (by grind)
  constructor <;> grind
/-- The sum of f of the values, weighed by the chances. -/
def Ph (f : Rat → Rat) (s : List (Nat × Option Nat)) : Rat := (s.map fun p => f (val p.1) * wo p.2).sum
theorem ph_nil (f : Rat → Rat) : Ph f [] = 0 := rfl
theorem ph_cons (f : Rat → Rat) (p : Nat × Option Nat) (s : List (Nat × Option Nat)) : Ph f (p :: s) = f (val p.1) * wo p.2 + Ph f s := by simp [Ph]
theorem ph_app (f : Rat → Rat) (s t : List (Nat × Option Nat)) : Ph f (s ++ t) = Ph f s + Ph f t := by simp [Ph]
def one (_ : Rat) : Rat := 1
theorem ph_nn {s : List (Nat × Option Nat)} (h : ∀ p ∈ s, OkC p.2) : 0 ≤ Ph one s := by
  induction s with
  | nil => rw [ph_nil]; exact Rat.le_refl
  | cons p s ih =>
    rw [ph_cons]
    have h1 := (h p (by simp)).2
    have h2 := ih (fun q hq => h q (by simp [hq]))
    show 0 ≤ 1 * wo p.2 + Ph one s
    grind
theorem p2m (n : Nat) : p2 (-(n : Int)) * ((2 ^ n : Nat) : Rat) = 1 := by rw [← p2_nat, ← p2_add, show -(n : Int) + n = 0 by omega, p2_zero]
theorem p2_23 : p2 (-23) * 8388608 = 1 := p2m 23
theorem p2_24 : p2 (-24) * 16777216 = 1 := p2m 24
theorem p2_1 : p2 1 = 2 := p2_nat 1
/-- A sum of two chances. -/
theorem add_ok {d c : Option Nat} (hd : OkC d) (hc : OkC c) (h : wo d + wo c ≤ 2) : OkC (addA d c) ∧ wo d + wo c - p2 (-23) ≤ wo (addA d c) ∧ wo (addA d c) ≤ wo d + wo c + p2 (-23) := by
  obtain ⟨r, hr, hn⟩ := vl_add hd.1 hc.1 (lo := 0) (hi := p2 1) rep0 (rep32 (by omega) (by omega)) (by have := hd.2; have := hc.2; grind) (by rw [p2_1]; exact h)
  have h0 := hn.1 0 rep0 (by have := hd.2; have := hc.2; grind)
  have he := hn.err (e := -23) (in32 (by omega) (by omega)) (by rw [gB32, show (-23 : Int) + 24 = 1 by omega, p2_1]; have := hd.2; have := hc.2; grind) (by rw [gB32, show (-23 : Int) + 24 = 1 by omega, p2_1]; exact h)
  have := vl_wo hr
  rw [show addA d c = opF .add .f32 d c from rfl, this]
  exact ⟨okC_of hr h0, he.1, he.2⟩
theorem vl_zero : Vl .f32 (some 0) 0 := by
  have := vl_of (k := .f32) (b := 0) (s := false) (m := 0) (p := -149) (by decide)
  rwa [show vD (.number false 0 (-149)) = 0 from mg_zero _] at this
theorem add_zero {c : Option Nat} (hc : OkC c) (h : wo c ≤ 2) : OkC (addA (some 0) c) ∧ wo (addA (some 0) c) = wo c := by
  obtain ⟨r, hr, hn⟩ := vl_add vl_zero hc.1 (lo := 0) (hi := p2 1) rep0 (rep32 (by omega) (by omega)) (by have := hc.2; grind) (by rw [p2_1]; grind)
  rw [Rat.zero_add] at hn
  have e := hn.exact hc.1.rep
  rw [show addA (some 0) c = opF .add .f32 (some 0) c from rfl, vl_wo hr, e]
  rw [e] at hr
  exact ⟨okC_of hr hc.2, rfl⟩
theorem insG_phi {x : Nat} {c : Option Nat} (hc : OkC c) : ∀ (s : List (Nat × Option Nat)), (∀ p ∈ s, OkC p.2) → Ph one s + wo c ≤ 2 →
    (∀ p ∈ insG val addA (some 0) x c s, OkC p.2) ∧ ∀ (f : Rat → Rat) (F : Rat), -F ≤ f (val x) → f (val x) ≤ F →
      Ph f s + f (val x) * wo c - F * p2 (-23) ≤ Ph f (insG val addA (some 0) x c s) ∧ Ph f (insG val addA (some 0) x c s) ≤ Ph f s + f (val x) * wo c + F * p2 (-23)
  | [], _, h => by
    rw [ph_nil] at h
    obtain ⟨h1, h2⟩ := add_zero hc (by grind)
    rw [insG_nil]
    refine ⟨fun p hp => by rw [List.mem_singleton] at hp; subst hp; exact h1, fun f F f1 f2 => ?_⟩
    have hF := Rat.mul_nonneg (a := F) (b := p2 (-23)) (by grind) (p2_nn _)
    rw [ph_cons, ph_nil]
    dsimp only
    rw [h2]
    constructor <;> grind
  | (v, d) :: t, hs, h => by
    have hd := hs (v, d) (by simp)
    have ht : ∀ p ∈ t, OkC p.2 := fun p hp => hs p (by simp [hp])
    have hn := ph_nn ht
    have h' : wo d + Ph one t + wo c ≤ 2 := by
      have e : Ph one ((v, d) :: t) = 1 * wo d + Ph one t := ph_cons _ _ _
      rw [e] at h
      grind
    have hd0 := hd.2
    have hc0 := hc.2
    dsimp only at hd0
    rcases key_cases (key := val) v x with hk | hk | hk
    · rw [insG_lt hk]
      obtain ⟨h1, h2⟩ := insG_phi hc t ht (by grind)
      refine ⟨fun p hp => ?_, fun f F f1 f2 => ?_⟩
      · rcases List.mem_cons.1 hp with rfl | hp
        · exact hd
        · exact h1 p hp
      · obtain ⟨a, b⟩ := h2 f F f1 f2
        rw [ph_cons, ph_cons]
        constructor <;> grind
    · rw [insG_eq hk]
      obtain ⟨h1, h2, h3⟩ := add_ok hd hc (by dsimp only; grind)
      dsimp only at h2 h3
      refine ⟨fun p hp => ?_, fun f F f1 f2 => ?_⟩
      · rcases List.mem_cons.1 hp with rfl | hp
        · exact h1
        · exact ht p hp
      · rw [ph_cons, ph_cons]
        dsimp only
        rw [hk]
        have := mul_bd f1 f2 (b := wo (addA d c) - wo d - wo c) (B := p2 (-23)) (by grind) (by grind)
        constructor <;> grind
    · rw [insG_gt hk]
      obtain ⟨h1, h2⟩ := add_zero hc (by grind)
      refine ⟨fun p hp => ?_, fun f F f1 f2 => ?_⟩
      · rcases List.mem_cons.1 hp with rfl | hp
        · exact h1
        · exact hs p hp
      · have hF := Rat.mul_nonneg (a := F) (b := p2 (-23)) (by grind) (p2_nn _)
        rw [ph_cons f (x, addA (some 0) c)]
        dsimp only
        rw [h2]
        constructor <;> grind
theorem insL_phi : ∀ (l s : List (Nat × Option Nat)), (∀ p ∈ s, OkC p.2) → (∀ p ∈ l, OkC p.2) → Ph one s + Ph one l + (l.length : Rat) * p2 (-23) ≤ 2 →
    (∀ p ∈ insL val addA (some 0) s l, OkC p.2) ∧ ∀ (f : Rat → Rat) (F : Rat), (∀ p ∈ l, -F ≤ f (val p.1) ∧ f (val p.1) ≤ F) →
      Ph f s + Ph f l - (l.length : Rat) * (F * p2 (-23)) ≤ Ph f (insL val addA (some 0) s l) ∧ Ph f (insL val addA (some 0) s l) ≤ Ph f s + Ph f l + (l.length : Rat) * (F * p2 (-23))
  | [], s, hs, _, _ => by
    refine ⟨hs, fun f F _ => ?_⟩
    show Ph f s + Ph f [] - ((0 : Nat) : Rat) * _ ≤ Ph f s ∧ Ph f s ≤ Ph f s + Ph f [] + ((0 : Nat) : Rat) * _
    rw [ph_nil]
    constructor <;> grind
  | (x, c) :: l, s, hs, hl, h => by
    have hc := hl (x, c) (by simp)
    have hl' : ∀ p ∈ l, OkC p.2 := fun p hp => hl p (by simp [hp])
    have hn := ph_nn hl'
    have hlen : (((x, c) :: l).length : Rat) = (l.length : Rat) + 1 := by
      rw [List.length_cons]; exact Rat.natCast_add _ _
    rw [hlen] at h ⊢
    have hp := p2_pos (-23)
    have hL : (0 : Rat) ≤ (l.length : Rat) := Rat.natCast_nonneg
    have hLp := Rat.mul_nonneg hL (Rat.le_of_lt hp)
    have e : Ph one ((x, c) :: l) = 1 * wo c + Ph one l := ph_cons _ _ _
    rw [e] at h
    obtain ⟨g1, g2⟩ := insG_phi (x := x) hc s hs (by grind)
    obtain ⟨a, b⟩ := g2 one 1 (by show (-1 : Rat) ≤ 1; decide) (by show (1 : Rat) ≤ 1; decide)
    have e1 : one (val x) = 1 := rfl
    rw [e1] at a b
    obtain ⟨i1, i2⟩ := insL_phi l (insG val addA (some 0) x c s) g1 hl' (by grind)
    refine ⟨i1, fun f F hf => ?_⟩
    obtain ⟨f1, f2⟩ := hf (x, c) (by simp)
    obtain ⟨a1, b1⟩ := g2 f F f1 f2
    obtain ⟨a2, b2⟩ := i2 f F (fun p hp => hf p (by simp [hp]))
    rw [ph_cons]
    show Ph f s + _ - _ ≤ Ph f (insL val addA (some 0) (insG val addA (some 0) x c s) l) ∧ Ph f (insL val addA (some 0) (insG val addA (some 0) x c s) l) ≤ _
    dsimp only
    constructor <;> grind
end

section
open Go.RowKit

theorem vl_fin {b : Nat} {q : Rat} (h : Vl .f32 (some b) q) : finB b = true ∧ absF .f32 b = some b := by
  obtain ⟨b', e, hb⟩ := h
  cases e
  obtain ⟨s, m, p, er, -, -⟩ := hb.read
  have er' : FloatKind.f32.decode b = .number s m p := er
  refine ⟨by unfold finB; rw [er'], absF_of (by rw [er']; rfl)⟩
theorem fin_vl {b : Nat} (h : finB b = true) : Vl .f32 (some b) (val b) := by
  obtain ⟨s, m, p, e⟩ := fin_num h
  have := vl_of (k := .f32) e
  unfold val
  rwa [e]
theorem okC_least {c : Option Nat} (h : OkC c) : leastA c = true := by
  obtain ⟨hv, h0⟩ := h
  obtain ⟨b, rfl, hb⟩ := hv
  have hv' : Vl .f32 (some b) (wo (some b)) := ⟨b, rfl, hb⟩
  obtain ⟨hf, -⟩ := vl_fin hv'
  have f0 : finB 0 = true := by decide
  have v0 : val 0 = 0 := vl_val vl_zero
  show leastB b = true
  unfold leastB ord32
  rw [hf, Bool.true_and, Bool.or_eq_true, beq_iff_eq, beq_iff_eq, gt_val hf f0, eq_val hf f0, v0]
  have : wo (some b) = val b := rfl
  rw [this] at h0
  by_cases e : val b = 0
  · exact .inr e
  · left; grind
/-- A sum of chances. -/
theorem sumF_ok : ∀ (C : List (Option Nat)) (d : Option Nat), OkC d → (∀ c ∈ C, OkC c) → wo d + (C.map wo).sum + (C.length : Rat) * p2 (-23) ≤ 2 →
    OkC (C.foldl (opF .add .f32) d) ∧ wo d + (C.map wo).sum - (C.length : Rat) * p2 (-23) ≤ wo (C.foldl (opF .add .f32) d) ∧ wo (C.foldl (opF .add .f32) d) ≤ wo d + (C.map wo).sum + (C.length : Rat) * p2 (-23)
  | [], d, hd, _, _ => by
    refine ⟨hd, ?_, ?_⟩
    · show wo d + 0 - ((0 : Nat) : Rat) * _ ≤ wo d; grind
    · show wo d ≤ wo d + 0 + ((0 : Nat) : Rat) * _; grind
  | c :: C, d, hd, hC, h => by
    have hc := hC c (by simp)
    have hC' : ∀ c ∈ C, OkC c := fun x hx => hC x (by simp [hx])
    have hn : 0 ≤ (C.map wo).sum := by
      clear h
      induction C with
      | nil => exact Rat.le_refl
      | cons x C ih =>
        have h1 := (hC' x (by simp)).2
        have h2 := ih (fun y hy => hC y (by simp at hy ⊢; rcases hy with h | h <;> simp [h])) (fun y hy => hC' y (by simp [hy]))
        show 0 ≤ wo x + (C.map wo).sum
        grind
    have hlen : (((c :: C).length : Nat) : Rat) = (C.length : Rat) + 1 := by rw [List.length_cons]; exact Rat.natCast_add _ _
    have es : ((c :: C).map wo).sum = wo c + (C.map wo).sum := by simp
    rw [hlen, es] at h ⊢
    have hp := p2_pos (-23)
    have hLp := Rat.mul_nonneg (Rat.natCast_nonneg (a := C.length)) (Rat.le_of_lt hp)
    obtain ⟨a1, a2, a3⟩ := add_ok hd hc (by grind)
    obtain ⟨b1, b2, b3⟩ := sumF_ok C (addA d c) a1 hC' (by grind)
    refine ⟨b1, ?_, ?_⟩
    · show _ ≤ wo (C.foldl (opF .add .f32) (addA d c)); grind
    · show wo (C.foldl (opF .add .f32) (addA d c)) ≤ _; grind
theorem one_vl : Vl .f32 (some 1065353216) 1 := by
  have := vl_of (k := .f32) (b := 1065353216) (s := false) (m := 8388608) (p := -23) (by decide)
  have e : vD (.number false 8388608 (-23)) = 1 := by
    show mg 8388608 (-23) = 1
    have := p2_23
    unfold mg
    show (8388608 : Rat) * p2 (-23) = 1
    grind
  rwa [e] at this
theorem p2_10 : p2 (-10) * 1024 = 1 := p2m 10
theorem milli_vl : ∃ q, Vl .f32 (some 981668463) q ∧ p2 (-10) < q := by
  refine ⟨_, vl_of (k := .f32) (b := 981668463) (s := false) (m := 8589935) (p := -33) (by decide), ?_⟩
  show p2 (-10) < mg 8589935 (-33)
  rw [← mg_one, show mg 1 (-10) = mg (1 * 2 ^ 23) (-33) by rw [← mg_up]; congr 1, mg_lt]
  decide
theorem mmilli_vl : ∃ q, Vl .f32 (some 3129152111) q ∧ q < -p2 (-10) := by
  refine ⟨_, vl_of (k := .f32) (b := 3129152111) (s := true) (m := 8589935) (p := -33) (by decide), ?_⟩
  show -mg 8589935 (-33) < -p2 (-10)
  have : p2 (-10) < mg 8589935 (-33) := by
    rw [← mg_one, show mg 1 (-10) = mg (1 * 2 ^ 23) (-33) by rw [← mg_up]; congr 1, mg_lt]
    decide
  grind
theorem near_ok {s : Option Nat} {q : Rat} (h : Vl .f32 s q) (h1 : 1 - p2 (-10) ≤ q) (h2 : q ≤ 1 + p2 (-10)) : nearA s = true := by
  obtain ⟨r, hr, hn⟩ := vl_sub h one_vl (lo := -p2 (-10)) (hi := p2 (-10)) (rep_neg (rep32 (by omega) (by omega))) (rep32 (by omega) (by omega)) (by grind) (by grind)
  have r1 := hn.1 _ (rep_neg (rep32 (E := -10) (by omega) (by omega))) (by grind)
  have r2 := hn.2 _ (rep32 (E := -10) (by omega) (by omega)) (by grind)
  obtain ⟨b, eb, hb⟩ := hr
  have hr' : Vl .f32 (some b) r := ⟨b, rfl, hb⟩
  obtain ⟨fb, -⟩ := vl_fin hr'
  obtain ⟨c, hc, hc2⟩ := milli_vl
  obtain ⟨d, hd, hd2⟩ := mmilli_vl
  unfold nearA
  rw [eb]
  show ((FloatKind.f32.format.order b 981668463 == some .lt || FloatKind.f32.format.order b 981668463 == some .eq) && (FloatKind.f32.format.order b 3129152111 == some .gt || FloatKind.f32.format.order b 3129152111 == some .eq)) = true
  have e1 := (lt_val fb (vl_fin hc).1).2 (by rw [vl_val hr', vl_val hc]; grind)
  have e2 := (gt_val fb (vl_fin hd).1).2 (by rw [vl_val hr', vl_val hd]; grind)
  rw [e1, e2]
  rfl
theorem rise_of {G : List (Nat × Option Nat)} (hu : KUp val G) (hf : (G.map Prod.fst).all finB = true) : riseTo (G.map Prod.fst) (G.map Prod.fst).length = true := by
  unfold riseTo
  rw [List.all_eq_true]
  intro k hk
  rw [List.mem_range] at hk
  unfold pairB
  by_cases h0 : k = 0
  · subst h0; simp
  · obtain ⟨v, hv⟩ := get_of_lt hk
    obtain ⟨u, hu'⟩ := get_of_lt (xs := G.map Prod.fst) (k := k - 1) (by omega)
    rw [getD_of hv, getD_of hu']
    have fv := List.all_eq_true.1 hf v (List.mem_of_getElem? hv)
    have fu := List.all_eq_true.1 hf u (List.mem_of_getElem? hu')
    have hlt : val u < val v := by
      rw [List.getElem?_map] at hv hu'
      cases hg : G[k]? with
      | none => rw [hg] at hv; cases hv
      | some p =>
        cases hg' : G[k - 1]? with
        | none => rw [hg'] at hu'; cases hu'
        | some p' =>
          rw [hg] at hv; rw [hg'] at hu'
          cases hv; cases hu'
          have h1 := lt_of_get hg
          have h2 := lt_of_get hg'
          have := List.pairwise_iff_getElem.1 hu (k - 1) k h2 h1 (by omega)
          rw [List.getElem?_eq_getElem h1] at hg
          rw [List.getElem?_eq_getElem h2] at hg'
          cases hg; cases hg'
          exact this
    have : leX u v = false := by
      cases hx : leX u v with
      | false => rfl
      | true =>
        have := (le_val fv fu).1 hx
        exact absurd this (by grind)
    have e : leB v u = false := this
    rw [e]
    simp
theorem zip_get {xs : List Nat} {C : List (Option Nat)} (hl : C.length = xs.length) : (List.range xs.length).map (fun i => (xs[i]?.getD 0, C[i]?.getD none)) = xs.zip C := by
  apply List.ext_getElem
  · rw [List.length_map, List.length_range, List.length_zip]; omega
  · intro i h1 h2
    rw [List.length_map, List.length_range] at h1
    rw [List.getElem_map, List.getElem_range, List.getElem_zip, List.getElem?_eq_getElem h1, List.getElem?_eq_getElem (by omega)]; rfl
theorem p2_17 : p2 (-17) = 64 * p2 (-23) := by
  rw [show (-17 : Int) = -23 + ((6 : Nat) : Int) by omega, p2_add, p2_nat, Rat.mul_comm]; rfl
theorem p2_12 : p2 (-12) * 4096 = 1 := p2m 12
theorem gat_good {xs : List Nat} {C : List (Option Nat)} (hl : C.length = xs.length) (h1 : 1 ≤ xs.length) (h64 : xs.length ≤ 64) (hf : xs.all finB = true) (hC : ∀ c ∈ C, OkC c) (t1 : 1 - p2 (-12) ≤ Ph one (xs.zip C)) (t2 : Ph one (xs.zip C) ≤ 1 + p2 (-12)) :
    gatOk xs C = true ∧ (∀ p ∈ gatS xs C, OkC p.2) ∧ ∀ (f : Rat → Rat) (F : Rat), (∀ x ∈ xs, -F ≤ f (val x) ∧ f (val x) ≤ F) → Ph f (xs.zip C) - F * p2 (-17) ≤ Ph f (gatS xs C) ∧ Ph f (gatS xs C) ≤ Ph f (xs.zip C) + F * p2 (-17) := by
  have e : gatS xs C = insL val addA (some 0) [] (xs.zip C) := by
    unfold gatS gAt
    rw [zip_get hl]
  have hlz : (xs.zip C).length = xs.length := by rw [List.length_zip]; omega
  have hn : (((xs.zip C).length : Nat) : Rat) ≤ 64 := by rw [hlz]; exact Rat.natCast_le_natCast.2 h64
  have hn0 : (0 : Rat) ≤ (((xs.zip C).length : Nat) : Rat) := Rat.natCast_nonneg
  have q23 := p2_23
  have q12 := p2_12
  have p23 := p2_pos (-23)
  have b1 : (((xs.zip C).length : Nat) : Rat) * p2 (-23) ≤ 64 * p2 (-23) := Rat.mul_le_mul_of_nonneg_right hn (Rat.le_of_lt p23)
  obtain ⟨i1, i2⟩ := insL_phi (xs.zip C) [] (fun p hp => by cases hp) (fun p hp => hC p.2 (List.of_mem_zip hp).2) (by rw [ph_nil]; grind)
  rw [← e] at i1 i2
  have key : ∀ (f : Rat → Rat) (F : Rat), (∀ x ∈ xs, -F ≤ f (val x) ∧ f (val x) ≤ F) → Ph f (xs.zip C) - F * p2 (-17) ≤ Ph f (gatS xs C) ∧ Ph f (gatS xs C) ≤ Ph f (xs.zip C) + F * p2 (-17) := by
    intro f F hF
    obtain ⟨a, b⟩ := i2 f F (fun p hp => hF p.1 (List.of_mem_zip hp).1)
    rw [ph_nil] at a b
    obtain ⟨x, hx⟩ := get_of_lt (xs := xs) (k := 0) (by omega)
    have hx' := hF x (List.mem_of_getElem? hx)
    have hF0 : 0 ≤ F * p2 (-23) := Rat.mul_nonneg (by grind) (Rat.le_of_lt p23)
    have := Rat.mul_le_mul_of_nonneg_right hn hF0
    rw [p2_17]
    constructor <;> grind
  refine ⟨?_, i1, key⟩
  rw [gatOk_t hf]
  have hmem : ∀ p ∈ gatS xs C, p.1 ∈ xs := fun p hp => by
    obtain ⟨i, hi, e⟩ := gAt_mem (l := List.range xs.length) hp
    rw [List.mem_range] at hi
    obtain ⟨x, hx⟩ := get_of_lt hi
    rw [hx] at e
    rw [← e]
    exact List.mem_of_getElem? hx
  have hff : ((gatS xs C).map Prod.fst).all finB = true := by
    rw [List.all_eq_true]
    intro x hx
    obtain ⟨p, hp, rfl⟩ := List.mem_map.1 hx
    exact List.all_eq_true.1 hf _ (hmem p hp)
  have hlen : 1 ≤ (gatS xs C).length ∧ (gatS xs C).length ≤ 64 := by
    have hle := gAt_len (xs := xs) (C := C) (List.range xs.length)
    rw [List.length_range] at hle
    refine ⟨?_, Nat.le_trans hle h64⟩
    rw [e]
    cases hz : xs.zip C with
    | nil => rw [hz] at hlz; simp at hlz; omega
    | cons p l =>
      have := (insL_len (key := val) (add := addA) (z := some 0) l (insG val addA (some 0) p.1 p.2 [])).1
      rw [insG_nil] at this
      exact this
  obtain ⟨a, b⟩ := key one 1 (fun x _ => ⟨by show (-1 : Rat) ≤ 1; decide, by show (1 : Rat) ≤ 1; decide⟩)
  have hsum : (((gatS xs C).map Prod.snd).map wo).sum = Ph one (gatS xs C) := by
    unfold Ph one
    rw [List.map_map]
    congr 1
    apply List.map_congr_left
    intro p _
    show wo p.2 = 1 * wo p.2
    grind
  have hz0 : OkC (some 0) := okC_of vl_zero Rat.le_refl
  have hw0 : wo (some 0) = 0 := vl_wo vl_zero
  have hgl : ((((gatS xs C).map Prod.snd).length : Nat) : Rat) ≤ 64 := by rw [List.length_map]; exact Rat.natCast_le_natCast.2 hlen.2
  have b2 := Rat.mul_le_mul_of_nonneg_right hgl (Rat.le_of_lt p23)
  rw [p2_17] at a b
  obtain ⟨c1, c2, c3⟩ := sumF_ok ((gatS xs C).map Prod.snd) (some 0) hz0 (fun c hc => by obtain ⟨p, hp, rfl⟩ := List.mem_map.1 hc; exact i1 p hp) (by rw [hw0, hsum]; grind)
  rw [hw0, hsum] at c2 c3
  have hnear : nearA (sumF ((gatS xs C).map Prod.snd)) = true := near_ok (s := sumF ((gatS xs C).map Prod.snd)) c1.1 (by have := p2_10; show _ ≤ wo (List.foldl _ _ _); grind) (by have := p2_10; show wo (List.foldl _ _ _) ≤ _; grind)
  have hrise := rise_of (G := gatS xs C) (gAt_up _) hff
  unfold shareAB
  rw [decide_eq_true (by rw [List.length_map]; exact hlen), decide_eq_true (by rw [List.length_map, List.length_map]), hff, hrise, hnear]
  simp only [Bool.and_true, Bool.true_and, List.all_eq_true]
  intro c hc
  obtain ⟨p, hp, rfl⟩ := List.mem_map.1 hc
  exact okC_least (i1 p hp)
end
end Go.Proofs.Ytimpabceellihaa
