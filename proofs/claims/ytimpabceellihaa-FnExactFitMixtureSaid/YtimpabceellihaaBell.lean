/-
  How much of a bell is below a number: what both texts compute, and that no step leaves the range.
-/
import Derived.Test.YtimpabceellihaaExpW
namespace Go.Proofs.Ytimpabceellihaa
open Go.RowKit

def termA (X : Option Nat) : Nat → Option Nat
  | 0 => X
  | k + 1 => opF .quo .f64 (opF .mul .f64 (opF .mul .f64 (termA X k) X) X) (some (iF (2 * k + 3)))
def sumA (X : Option Nat) : Nat → Option Nat
  | 0 => X
  | k + 1 => opF .add .f64 (sumA X k) (termA X (k + 1))
/-- Minus half of the square. -/
def sqA (X : Option Nat) : Option Nat := opF .mul .f64 (opF .mul .f64 (some 13826050856027422720) X) X
def rawA (X : Option Nat) : Option Nat := opF .add .f64 (some 4602678819172646912) (opF .quo .f64 (opF .mul .f64 (sumA X 120) (upF (exp32 (dnF (sqA X))))) (some 4612826843881809669))
def clampA (y : Option Nat) : Option Nat :=
  if ordF .f32 y (some 0) == some .lt then some 0 else if ordF .f32 y (some 1065353216) == some .gt then some 1065353216 else y
def bellA (x : Option Nat) : Option Nat :=
  if ordF .f32 x (some 3233808384) == some .lt then some 0 else if ordF .f32 x (some 1086324736) == some .gt then some 1065353216 else clampA (dnF (rawA (upF x)))

/-- Below which power of two a term is. -/
def eK : Nat → Nat
  | 0 => 3
  | k + 1 => eK k + 6 - (2 * k + 3).log2
theorem eK_tab : ∀ k, k ≤ 120 → eK k ≤ 62 ∧ (2 * k + 3).log2 ≤ eK k + 6 ∧ 2 ^ (2 * k + 3).log2 ≤ 2 * k + 3 ∧ 2 * k + 3 ≤ 2 ^ 8 ∧ (2 * k + 3).log2 ≤ 8 := by decide +kernel
theorem sym_mul {u v a b : Rat} (hu1 : -a ≤ u) (hu2 : u ≤ a) (hv1 : -b ≤ v) (hv2 : v ≤ b) : -(a * b) ≤ u * v ∧ u * v ≤ a * b := by
  have h1 := Rat.mul_nonneg (a := a - u) (b := b - v) (by grind) (by grind)
  have h2 := Rat.mul_nonneg (a := a + u) (b := b + v) (by grind) (by grind)
  have h3 := Rat.mul_nonneg (a := a - u) (b := b + v) (by grind) (by grind)
  have h4 := Rat.mul_nonneg (a := a + u) (b := b - v) (by grind) (by grind)
  constructor <;> grind
/-- A product of what stands between powers of two. -/
theorem bet_mul2 {k : FloatKind} {x y : Option Nat} {E F : Int} (hx : Bet k x (-p2 E) (p2 E)) (hy : Bet k y (-p2 F) (p2 F)) (h : RepK k (p2 (E + F))) : Bet k (opF .mul k x y) (-p2 (E + F)) (p2 (E + F)) := by
  refine bet_mul hx hy (rep_neg h) h ?_
  intro u v u1 u2 v1 v2
  rw [p2_add]
  exact sym_mul u1 u2 v1 v2
theorem termA_bet {X : Option Nat} (hX : Bet .f64 X (-p2 3) (p2 3)) : ∀ k, k ≤ 120 → Bet .f64 (termA X k) (-p2 (eK k)) (p2 (eK k))
  | 0, _ => hX
  | k + 1, hk => by
    have ih := termA_bet hX k (by omega)
    obtain ⟨t1, t2, t3, t4, t5⟩ := eK_tab k (by omega)
    have m1 := bet_mul2 ih hX (rep64 (by omega) (by omega))
    have m2 := bet_mul2 m1 hX (rep64 (by omega) (by omega))
    have hn := bet_nat (k := .f64) (n := 2 * k + 3) (a := (2 * k + 3).log2) (b := 8) t3 t4 (rep64 (by omega) (by omega)) (rep64 (by omega) (by omega))
    have he : ((eK (k + 1) : Nat) : Int) = (eK k : Int) + 3 + 3 - ((2 * k + 3).log2 : Nat) := by
      show ((eK k + 6 - (2 * k + 3).log2 : Nat) : Int) = _
      omega
    refine bet_quo (E := (eK (k + 1) : Nat)) m2 hn (p2_pos _) (rep64 (by omega) (by omega)) ?_ (.inr rfl) (.inr rfl)
    intro u v u1 u2 v1 v2
    have hpv : p2 ((eK (k + 1) : Nat) : Int) * p2 (((2 * k + 3).log2 : Nat) : Int) = p2 ((eK k : Int) + 3 + 3) := by
      rw [← p2_add]
      congr 1
      omega
    have := Rat.mul_le_mul_of_nonneg_left v1 (p2_nn ((eK (k + 1) : Nat) : Int))
    rw [hpv] at this
    constructor <;> grind
theorem rep_cnt {n : Nat} (h0 : n ≠ 0) (h : n < 256) : RepK .f64 (mg n 62) := by
  have hl : n.log2 < 8 := (Nat.log2_lt h0).2 h
  refine rep_mg h0 ?_ ?_ ?_
  · show n.log2 ≤ 52; omega
  · show (-1074 : Int) ≤ 62 - ((52 - n.log2 : Nat) : Int); omega
  · show (62 - ((52 - n.log2 : Nat) : Int) - (-1074)).toNat + 2 < 2047; omega
theorem mg_succ (n : Nat) (p : Int) : mg (n + 1) p = mg n p + p2 p := by
  unfold mg
  rw [Rat.natCast_add, Rat.add_mul]
  congr 1
  exact Rat.one_mul _
theorem sumA_bet {X : Option Nat} (hX : Bet .f64 X (-p2 3) (p2 3)) : ∀ k, k ≤ 120 → Bet .f64 (sumA X k) (-mg (k + 1) 62) (mg (k + 1) 62)
  | 0, _ => by
    have h : p2 3 ≤ mg 1 62 := by rw [mg_one]; exact p2_mono (by omega)
    exact hX.mono (by grind) h
  | k + 1, hk => by
    have ih := sumA_bet hX k (by omega)
    have ht := termA_bet hX (k + 1) hk
    have he : p2 (eK (k + 1) : Nat) ≤ p2 62 := p2_mono (by have := (eK_tab (k + 1) (by omega)).1; omega)
    have hr := rep_cnt (n := k + 1 + 1) (by omega) (by omega)
    have hs := mg_succ (k + 1) 62
    refine bet_add ih ht (rep_neg hr) hr ?_ ?_ <;> grind
theorem bet_lit {k : FloatKind} {b m : Nat} {s : Bool} {p : Int} (h : k.format.read b = .number s m p) : Bet k (some b) (vD (.number s m p)) (vD (.number s m p)) := bet_of h Rat.le_refl Rat.le_refl
theorem bet_half : Bet .f64 (some 4602678819172646912) (p2 (-1)) (p2 (-1)) := by
  have := bet_lit (k := .f64) (b := 4602678819172646912) (m := 2 ^ 52) (s := false) (p := -53) (by decide)
  simp only [vD, sg_f] at this
  rwa [mg_pow] at this
theorem bet_mhalf : Bet .f64 (some 13826050856027422720) (-p2 (-1)) (-p2 (-1)) := by
  have := bet_lit (k := .f64) (b := 13826050856027422720) (m := 2 ^ 52) (s := true) (p := -53) (by decide)
  simp only [vD, sg_t] at this
  rwa [mg_pow] at this
theorem bet_root : Bet .f64 (some 4612826843881809669) (p2 1) (p2 2) := by
  have := bet_lit (k := .f64) (b := 4612826843881809669) (m := 5644425081792261) (s := false) (p := -51) (by decide)
  simp only [vD, sg_f] at this
  refine this.mono ?_ ?_
  · have h := (mg_le (p := -51)).2 (show 2 ^ 52 ≤ 5644425081792261 by decide)
    rwa [mg_pow] at h
  · have h := (mg_le (p := -51)).2 (show 5644425081792261 ≤ 2 ^ 53 by decide)
    rwa [mg_pow] at h

/-- What is rounded keeps its sign. -/
theorem near_sign (k : FloatKind) (s : Bool) (m : Nat) (p : Int) : ∃ r, k.format.nearest s m p = k.format.word s r ∧ r ≤ k.format.infRung ∧ ((r < k.format.infRung ∧ k.format.read (k.format.nearest s m p) = .number s (rM k.format r) (k.format.leastPlace + rJ k.format r)) ∨ k.format.read (k.format.nearest s m p) = .infinity s) := by
  have hinf := k.format.infRung_lt
  have key : ∃ r, k.format.nearest s m p = k.format.word s r ∧ r ≤ k.format.infRung := by
    unfold Ieee.Format.nearest
    dsimp only
    split
    · exact ⟨0, rfl, Nat.zero_le _⟩
    · exact ⟨_, rfl, Nat.min_le_right _ _⟩
  obtain ⟨r, e, hr⟩ := key
  refine ⟨r, e, hr, ?_⟩
  rw [e]
  rcases Nat.lt_or_eq_of_le hr with h | rfl
  · exact .inl ⟨h, read_rung _ _ h⟩
  · right
    rw [read_word _ _ hinf, if_neg (by have := binade_le k; omega), if_neg (by omega), if_pos rfl]
theorem WBet.fin {f : Ieee.Format} {b : Nat} {lo hi : Rat} {s : Bool} (h : WBet f b lo hi) : f.read b ≠ .infinity s := by
  obtain ⟨_, _, _, e, _⟩ := h.read
  rw [e]
  intro h
  cases h
/-- Minus a part of the square of what is no NaN. -/
theorem negS_sq {k : FloatKind} {c mc : Nat} {pc : Int} (hc : k.format.read c = .number true mc pc) (hm : mc ≠ 0) (h1 : mg mc pc ≤ 1) {x : Nat} (hx : (k.decode x).isNaN = false) : NegS k (opF .mul k (opF .mul k (some c) (some x)) (some x)) := by
  cases e : k.format.read x with
  | nan s t =>
    have : (k.decode x).isNaN = true := by
      show (k.format.read x).isNaN = true
      rw [e]; rfl
    rw [this] at hx
    cases hx
  | infinity s =>
    have p1 : opF .mul k (some c) (some x) = some (k.format.word (s ^^ true) k.format.infRung) := by
      show ((k.format.read c).product (k.format.read x)).map k.format.write = _
      rw [hc, e]
      simp only [Ieee.Datum.product, if_neg hm]
      rfl
    have hinf := k.format.infRung_lt
    have r1 : k.format.read (k.format.word (s ^^ true) k.format.infRung) = .infinity (s ^^ true) := by
      rw [read_word _ _ hinf, if_neg (by have := binade_le k; omega), if_neg (by omega), if_pos rfl]
    rw [p1]
    have p2 : opF .mul k (some (k.format.word (s ^^ true) k.format.infRung)) (some x) = some (k.encode (.infinity true)) := by
      show ((k.format.read _).product (k.format.read x)).map k.format.write = _
      rw [r1, e]
      simp only [Ieee.Datum.product]
      cases s <;> rfl
    rw [p2]
    exact negS_enc k (.inr rfl)
  | number s m p =>
    have p1 : opF .mul k (some c) (some x) = some (k.format.nearest (true ^^ s) (mc * m) (pc + p)) := by
      show ((k.format.read c).product (k.format.read x)).map k.format.write = _
      rw [hc, e]
      rfl
    have hle : mg (mc * m) (pc + p) ≤ mg m p := by
      rw [← mg_mul]
      have := Rat.mul_le_mul_of_nonneg_right h1 (mg_nn m p)
      rwa [Rat.one_mul] at this
    have hr : RepK k (mg m p) := by
      have := rep_of e
      cases s
      · exact this
      · have := rep_neg this
        simp only [vD, sg_t, Rat.neg_neg] at this
        exact this
    have hz := mg_nn (mc * m) (pc + p)
    have hb : WBet k.format (k.format.nearest (true ^^ s) (mc * m) (pc + p)) (-mg m p) (mg m p) := by
      refine near_bet (inf_pos k) (rep_neg hr) hr ?_ ?_
      · simp only [vD]
        cases s <;> simp only [Bool.xor_false, Bool.xor_true, Bool.not_true, sg_t, sg_f] <;> grind
      · simp only [vD]
        cases s <;> simp only [Bool.xor_false, Bool.xor_true, Bool.not_true, sg_t, sg_f] <;> grind
    obtain ⟨r, e1, hr1, h | h⟩ := near_sign k (true ^^ s) (mc * m) (pc + p)
    · rw [p1]
      have p2 : opF .mul k (some (k.format.nearest (true ^^ s) (mc * m) (pc + p))) (some x) = some (k.encode (.number ((true ^^ s) ^^ s) (rM k.format r * m) (k.format.leastPlace + rJ k.format r + p))) := by
        show ((k.format.read _).product (k.format.read x)).map k.format.write = _
        rw [h.2, e]
        rfl
      rw [p2]
      exact negS_enc k (.inl ⟨_, _, by cases s <;> rfl⟩)
    · exact absurd h hb.fin
theorem mhalf64 : FloatKind.f64.format.read 13826050856027422720 = .number true (2 ^ 52) (-53) := by decide
theorem mhalf_le : mg (2 ^ 52) (-53) ≤ 1 := by
  rw [mg_pow, ← p2_zero]
  exact p2_mono (by omega)
theorem negS_dn {y : Option Nat} (h : NegS .f64 y) : NegS .f32 (dnF y) := by
  obtain ⟨b, rfl, h⟩ := h
  exact negS_enc .f32 h
/-- A half and what stands around: the sign is clear where it is nearly 0. -/
theorem half_add {z : Nat} (hz : Bet .f64 (some z) (-p2 69) (p2 69)) : ∃ w, opF .add .f64 (some 4602678819172646912) (some z) = some w ∧ WBet FloatKind.f64.format w (-p2 70) (p2 70) ∧ ((∃ m p, FloatKind.f64.format.read w = .number false m p) ∨ WBet FloatKind.f64.format w (-p2 70) (-p2 (-53))) := by
  obtain ⟨z', e, hz⟩ := hz
  cases e
  obtain ⟨t, n, j, ez, z1, z2⟩ := hz.read
  have rh : FloatKind.f64.format.read 4602678819172646912 = .number false (2 ^ 52) (-53) := by decide
  have hmin : p2 69 + p2 69 = p2 70 := by
    have h1 := mg_succ 1 69
    have h2 := mg_pow 1 69
    rw [mg_one] at h1
    rw [← h1]
    exact h2
  have hhv : vD (.number false (2 ^ 52) (-53)) = p2 (-1) := by
    simp only [vD, sg_f]
    exact mg_pow 52 (-53)
  have hhp : p2 (-1) ≤ p2 69 := p2_mono (by omega)
  have hhn := p2_pos (-1)
  obtain ⟨r, l, p, es, hs⟩ := sum_val false (2 ^ 52) (-53) t n j
  rw [hhv] at hs
  have ew : opF .add .f64 (some 4602678819172646912) (some z) = some (FloatKind.f64.format.nearest r l p) := by
    show ((FloatKind.f64.format.read _).sum (FloatKind.f64.format.read z)).map FloatKind.f64.format.write = _
    rw [rh, ez, es]
    rfl
  have hw : WBet FloatKind.f64.format (FloatKind.f64.format.nearest r l p) (-p2 70) (p2 70) := by
    have h70 := rep64 (E := 70) (by omega) (by omega)
    refine near_bet (inf_pos .f64) (rep_neg h70) h70 ?_ ?_ <;> rw [hs] <;> grind
  refine ⟨_, ew, hw, ?_⟩
  cases r
  · left
    obtain ⟨r, e1, hr1, h | h⟩ := near_sign .f64 false l p
    · exact ⟨_, _, h.2⟩
    · exact absurd h hw.fin
  · right
    have hneg : vD (.number true l p) < 0 ∧ p = min (-53) j := by
      have := es
      simp only [Ieee.Datum.sum, Option.some.injEq, Ieee.Datum.number.injEq] at this
      obtain ⟨h1, h2, h3⟩ := this
      refine ⟨?_, h3.symm⟩
      have hl : l ≠ 0 := by
        rintro rfl
        have : (Ieee.signed false (2 ^ 52) (-53 - min (-53) j).toNat + Ieee.signed t n (j - min (-53) j).toNat) = 0 := by omega
        rw [if_pos this] at h1
        cases h1
      have := mg_pos hl p
      simp only [vD, sg_t]
      grind
    obtain ⟨hneg, hp⟩ := hneg
    have hjj : -53 ≤ j := by
      obtain ⟨R, hR, hn, hj⟩ := rung_of ez
      rcases Int.lt_or_le j (-53) with h | h
      · exfalso
        have h1 : n < 2 ^ 53 := by
          rw [hn]
          exact rM_lt FloatKind.f64.format R
        have h2 := (mg_lt (p := j)).2 h1
        rw [mg_pow] at h2
        have h3 : p2 (j + ((53 : Nat) : Int)) ≤ p2 (-1) := p2_mono (by omega)
        have hnn := mg_nn n j
        rw [hs] at hneg
        cases t
        · simp only [vD, sg_f] at hneg
          grind
        · simp only [vD, sg_t] at hneg
          grind
      · exact h
    have hpe : p = -53 := by omega
    subst hpe
    have hl : l ≠ 0 := by
      rintro rfl
      simp only [vD, mg_zero, sg_zero] at hneg
      exact absurd hneg Rat.lt_irrefl
    have hle : vD (.number true l (-53)) ≤ -p2 (-53) := by
      have := (mg_le (p := -53)).2 (Nat.one_le_iff_ne_zero.2 hl)
      rw [mg_one] at this
      simp only [vD, sg_t]
      grind
    have h70 := rep64 (E := 70) (by omega) (by omega)
    have h53 := rep64 (E := -53) (by omega) (by omega)
    refine near_bet (inf_pos .f64) (rep_neg h70) (rep_neg h53) ?_ hle
    rw [hs]
    grind
theorem rM_zero {f : Ieee.Format} {r : Nat} (h : rM f r = 0) : r = 0 := by
  have e := rR_eq f r
  by_cases hj : rJ f r = 0
  · rw [hj, h] at e
    omega
  · have := rM_ge f hj
    have := binade_pos f
    omega
/-- .. narrowed: in range, and a zero is +0. -/
theorem half_dn {z : Nat} (hz : Bet .f64 (some z) (-p2 69) (p2 69)) : ∃ y, dnF (opF .add .f64 (some 4602678819172646912) (some z)) = some y ∧ (∀ w, absF .f64 w = opF .add .f64 (some 4602678819172646912) (some z) → dnOver w = false) ∧ WBet FloatKind.f32.format y (-p2 70) (p2 70) ∧ (FloatKind.f32.format.order y 0 = some .eq → y = 0) := by
  obtain ⟨w, ew, hw, h⟩ := half_add hz
  have h70 := rep32 (E := 70) (by omega) (by omega)
  obtain ⟨hb, ho⟩ := bet_dn ⟨w, ew, hw⟩ (rep_neg h70) h70
  obtain ⟨y, ey, hy⟩ := hb
  refine ⟨y, ey, ho, hy, fun h0 => ?_⟩
  rw [ew] at ey
  have ey' : y = dnBits w := by
    have : dnF (some w) = some (dnBits w) := rfl
    rw [this] at ey
    exact (Option.some.inj ey).symm
  subst ey'
  have r0 : FloatKind.f32.format.read 0 = .number false 0 (-149) := rfl
  have v0 : vD (.number false 0 (-149)) = 0 := by simp only [vD, mg_zero, sg_zero]
  rcases h with ⟨m, p, h⟩ | h
  · have e1 : dnBits w = FloatKind.f32.format.nearest false m p := by
      unfold dnBits
      show FloatKind.f32.format.write (FloatKind.f64.format.read w) = _
      rw [h]; rfl
    obtain ⟨r, e2, hr, h' | h'⟩ := near_sign .f32 false m p
    · rw [← e1] at h' e2
      unfold Ieee.Format.order at h0
      rw [h'.2, r0] at h0
      have := (order_cmp _ _ _ _ _ _).2.2.1 h0
      rw [v0] at this
      simp only [vD, sg_f] at this
      have hz : rM FloatKind.f32.format r = 0 := by
        rcases Nat.eq_zero_or_pos (rM FloatKind.f32.format r) with h | h
        · exact h
        · have := mg_pos (Nat.pos_iff_ne_zero.1 h) (FloatKind.f32.format.leastPlace + rJ FloatKind.f32.format r)
          grind
      rw [e2, rM_zero hz]
      rfl
    · rw [← e1] at h'
      exact absurd h' hy.fin
  · exfalso
    obtain ⟨s, m, p, e, a1, a2⟩ := h.read
    have h53 := rep32 (E := -53) (by omega) (by omega)
    have hb : WBet FloatKind.f32.format (dnBits w) (-p2 70) (-p2 (-53)) := by
      unfold dnBits
      have e' : FloatKind.f64.decode w = .number s m p := e
      rw [e']
      exact enc_bet (rep_neg h70) (rep_neg h53) a1 a2
    obtain ⟨t, n, j, et, b1, b2⟩ := hb.read
    unfold Ieee.Format.order at h0
    rw [et, r0] at h0
    have := (order_cmp _ _ _ _ _ _).2.2.1 h0
    rw [v0] at this
    have := p2_pos (-53)
    grind
/-- All that the walks ask of the numbers met on the way. -/
structure BellOk (x : Option Nat) : Prop where
  neg : NegS .f32 (dnF (sqA (upF x)))
  sq : ∀ w, absF .f64 w = sqA (upF x) → dnOver w = false
  raw : ∀ w, absF .f64 w = rawA (upF x) → dnOver w = false
  out : ∃ y, dnF (rawA (upF x)) = some y ∧ WBet FloatKind.f32.format y (-p2 70) (p2 70) ∧ (FloatKind.f32.format.order y 0 = some .eq → y = 0)
theorem bellOk {x : Option Nat} (hx : Bet .f32 x (-p2 3) (p2 3)) : BellOk x := by
  have h3 := rep64 (E := 3) (by omega) (by omega)
  have hX := bet_up hx (rep_neg h3) h3
  have hsq : Bet .f64 (sqA (upF x)) (-p2 5) (p2 5) := by
    have h1 : Bet .f64 (some 13826050856027422720) (-p2 (-1)) (p2 (-1)) := bet_mhalf.mono Rat.le_refl (by have := p2_pos (-1); grind)
    exact bet_mul2 (bet_mul2 h1 hX (rep64 (by omega) (by omega))) hX (rep64 (by omega) (by omega))
  have hneg : NegS .f64 (sqA (upF x)) := by
    obtain ⟨w, ew, hw⟩ := hX
    rw [ew]
    refine negS_sq mhalf64 (by decide) mhalf_le ?_
    obtain ⟨s, m, p, e, _⟩ := hw.read
    show (FloatKind.f64.format.read w).isNaN = false
    rw [e]; rfl
  have h5 := rep32 (E := 5) (by omega) (by omega)
  have hn := negS_dn hneg
  have he := (exp32_bet hn).1
  have heu := bet_up he rep0 rep1
  have hs := sumA_bet hX 120 (by omega)
  have h69 : mg (120 + 1) 62 ≤ p2 69 := by
    have := (mg_le (p := 62)).2 (show 121 ≤ 2 ^ 7 by decide)
    rwa [mg_pow] at this
  have hs' : Bet .f64 (sumA (upF x) 120) (-p2 69) (p2 69) := hs.mono (by grind) h69
  have hp : Bet .f64 (opF .mul .f64 (sumA (upF x) 120) (upF (exp32 (dnF (sqA (upF x)))))) (-p2 69) (p2 69) := by
    have h0 : Bet .f64 (upF (exp32 (dnF (sqA (upF x))))) (-p2 0) (p2 0) := heu.mono (by rw [p2_zero]; grind) (by rw [p2_zero]; exact Rat.le_refl)
    have := bet_mul2 hs' h0 (rep64 (by omega) (by omega))
    rwa [show (69 : Int) + 0 = 69 by omega] at this
  have hq : Bet .f64 (opF .quo .f64 (opF .mul .f64 (sumA (upF x) 120) (upF (exp32 (dnF (sqA (upF x)))))) (some 4612826843881809669)) (-p2 69) (p2 69) := by
    refine bet_quo (E := 69) hp bet_root (p2_pos _) (rep64 (by omega) (by omega)) ?_ (.inr rfl) (.inr rfl)
    intro u v u1 u2 v1 v2
    have h1 : (1 : Rat) ≤ v := Rat.le_trans (by rw [← p2_zero]; exact p2_mono (by omega)) v1
    have := Rat.mul_le_mul_of_nonneg_left h1 (p2_nn 69)
    rw [Rat.mul_one] at this
    constructor <;> grind
  obtain ⟨z, ez, hz⟩ := hq
  obtain ⟨y, e1, e2, e3, e4⟩ := half_dn ⟨z, rfl, hz⟩
  rw [← ez] at e1 e2
  exact ⟨hn, (bet_dn hsq (rep_neg h5) h5).2, e2, ⟨y, e1, e3, e4⟩⟩
end Go.Proofs.Ytimpabceellihaa
