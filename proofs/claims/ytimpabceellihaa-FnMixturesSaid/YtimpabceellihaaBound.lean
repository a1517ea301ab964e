/-
  Bounds of what float operations give, by the exponent: no number of a proof here goes past them.
-/
import Derived.Test.YtimpabceellihaaFloat
import Derived.Laws.FloatBits
namespace Go.Proofs.Ytimpabceellihaa
open Ieee

/-- A number that is not negative, below 2 ^ E. -/
def ExpD (d : Datum) (E : Int) : Prop := ∃ m p, d = .number false m p ∧ (m = 0 ∨ p + m.log2 < E)
theorem log2_mul_lt {m n : Nat} (hm : m ≠ 0) (hn : n ≠ 0) : (m * n).log2 < m.log2 + n.log2 + 2 := by
  rw [Nat.log2_lt (Nat.mul_ne_zero hm hn)]
  have h1 : m < 2 ^ (m.log2 + 1) := (Nat.log2_lt hm).1 (Nat.lt_succ_self _)
  have h2 : n < 2 ^ (n.log2 + 1) := (Nat.log2_lt hn).1 (Nat.lt_succ_self _)
  calc m * n < 2 ^ (m.log2 + 1) * 2 ^ (n.log2 + 1) := Nat.mul_lt_mul_of_lt_of_le h1 (Nat.le_of_lt h2) (Nat.two_pow_pos _)
    _ = 2 ^ (m.log2 + n.log2 + 2) := by rw [← Nat.pow_add]; congr 1; omega
theorem ExpD.product {d d' : Datum} {E F : Int} (h : ExpD d E) (k : ExpD d' F) : ∃ d2, d.product d' = some d2 ∧ ExpD d2 (E + F) := by
  obtain ⟨m, p, rfl, h⟩ := h
  obtain ⟨n, q, rfl, k⟩ := k
  refine ⟨_, rfl, m * n, p + q, rfl, ?_⟩
  by_cases hm : m = 0
  · exact .inl (by simp [hm])
  by_cases hn : n = 0
  · exact .inl (by simp [hn])
  have := log2_mul_lt hm hn
  right
  omega
theorem ExpD.mono {d : Datum} {E F : Int} (h : ExpD d E) (hE : E ≤ F) : ExpD d F := by
  obtain ⟨m, p, rfl, h⟩ := h
  exact ⟨m, p, rfl, by omega⟩
theorem cutEven_le (neg : Bool) (mag : Nat) (a b fb : Nat) (hm : mag ≠ 0) (h0 : a = 0 ∨ b = 0) (h : mag.log2 + a ≤ fb + b) : Toward.even.cut neg (mag <<< a) b ≤ 2 ^ (fb + 1) := by
  have h1 : mag < 2 ^ (mag.log2 + 1) := (Nat.log2_lt hm).1 (Nat.lt_succ_self _)
  have hpos : 0 < 2 ^ (fb + 1) := Nat.two_pow_pos _
  unfold Toward.cut
  by_cases hb : b = 0
  · subst hb
    simp only [Nat.zero_min, Nat.shiftLeft_zero, Nat.div_one, Nat.mod_one, Nat.mul_zero]
    have : mag <<< a < 2 ^ (fb + 1) := by
      rw [Nat.shiftLeft_eq]
      calc mag * 2 ^ a < 2 ^ (mag.log2 + 1) * 2 ^ a := Nat.mul_lt_mul_of_pos_right h1 (Nat.two_pow_pos _)
        _ = 2 ^ (mag.log2 + 1 + a) := (Nat.pow_add 2 _ _).symm
        _ ≤ 2 ^ (fb + 1) := Nat.pow_le_pow_right (by decide) (by omega)
    simp
    omega
  · have ha : a = 0 := by omega
    subst ha
    rw [Nat.shiftLeft_zero]
    dsimp only
    have hl : mag / (1 <<< min b (mag.log2 + 2)) < 2 ^ (fb + 1) := by
      rw [Nat.shiftLeft_eq, Nat.one_mul, Nat.div_lt_iff_lt_mul (Nat.two_pow_pos _), ← Nat.pow_add]
      exact Nat.lt_of_lt_of_le h1 (Nat.pow_le_pow_right (by decide) (by omega))
    have hc : ∀ x : Bool, x.toNat ≤ 1 := by decide
    have := hc (decide (1 <<< min b (mag.log2 + 2) < 2 * (mag % 1 <<< min b (mag.log2 + 2))) || (1 <<< min b (mag.log2 + 2) == 2 * (mag % 1 <<< min b (mag.log2 + 2)) && mag / 1 <<< min b (mag.log2 + 2) % 2 == 1))
    omega
theorem nearest_exp (f : Format) (m : Nat) (p E : Int) (hm : m = 0 ∨ p + m.log2 < E) (h1 : f.leastPlace ≤ E - 1 - f.fractionBits) (h2 : ((E - 1 - f.fractionBits - f.leastPlace).toNat + 2) * f.binade < f.infRung) :
    ExpD (f.read (f.nearest false m p)) (E + 1) := by
  have hb : 0 < f.binade := Nat.two_pow_pos _
  have hinf := f.infRung_lt
  have hsum := f.infRung_add_binade
  have key : ∃ r, f.nearest false m p = r ∧ r ≤ ((E - 1 - f.fractionBits - f.leastPlace).toNat + 2) * f.binade := by
    unfold Format.nearest
    by_cases h0 : m = 0
    · rw [if_pos h0]
      exact ⟨0, rfl, Nat.zero_le _⟩
    · rw [if_neg h0]
      dsimp only
      have hm' : p + m.log2 < E := by omega
      refine ⟨_, rfl, ?_⟩
      show min _ _ ≤ _
      refine Nat.le_trans (Nat.min_le_left _ _) ?_
      generalize hl : max (p + (m.log2 : Int) - f.fractionBits) f.leastPlace = last
      have hk := cutEven_le false m (p - last).toNat (last - p).toNat f.fractionBits h0 (by omega) (by omega)
      have hB : 2 ^ (f.fractionBits + 1) = 2 * f.binade := by unfold Format.binade; rw [Nat.pow_succ, Nat.mul_comm]
      rw [hB] at hk
      rw [Nat.add_mul]
      exact Nat.add_le_add (Nat.mul_le_mul_right _ (by omega)) hk
  obtain ⟨r, hr, hle⟩ := key
  rw [hr]
  have hlt : r < f.infRung := Nat.lt_of_le_of_lt hle h2
  have hs : r < f.signWeight := by omega
  unfold Format.read
  rw [Nat.div_eq_of_lt hs, Nat.mod_eq_of_lt hs]
  dsimp only
  by_cases hr0 : r < f.binade
  · rw [if_pos hr0]
    refine ⟨_, _, rfl, ?_⟩
    by_cases hz : r = 0
    · exact .inl hz
    · right
      have : r.log2 < f.fractionBits := (Nat.log2_lt hz).2 hr0
      omega
  · rw [if_neg hr0, if_pos hlt]
    refine ⟨_, _, rfl, .inr ?_⟩
    have hmod : r % f.binade < f.binade := Nat.mod_lt _ hb
    have hne : f.binade + r % f.binade ≠ 0 := by omega
    have hlog : (f.binade + r % f.binade).log2 < f.fractionBits + 1 := by
      rw [Nat.log2_lt hne, Nat.pow_succ]
      show _ < f.binade * 2
      omega
    have hdiv : r / f.binade ≤ (E - 1 - f.fractionBits - f.leastPlace).toNat + 2 := Nat.div_le_of_le_mul (by rw [Nat.mul_comm]; exact hle)
    have hdiv1 : 1 ≤ r / f.binade := (Nat.one_le_div_iff hb).2 (by omega)
    omega
/-- What is above 0 and not above 2 ^ -1. -/
theorem half_exp {d : Datum} (h1 : d.order (.number false 0 (-149)) = some .gt) (h2 : d.order (.number false 8388608 (-24)) = some .lt ∨ d.order (.number false 8388608 (-24)) = some .eq) : ExpD d 0 := by
  cases d with
  | nan s t => cases h1
  | infinity s =>
    cases s
    · rcases h2 with h2 | h2 <;> simp [Datum.order] at h2
    · simp [Datum.order] at h1
  | number s m p =>
    cases s
    · refine ⟨m, p, rfl, ?_⟩
      by_cases hm : m = 0
      · exact .inl hm
      right
      have hle : m <<< (p - min p (-24)).toNat ≤ 8388608 <<< (-24 - min p (-24)).toNat := by
        simp only [Datum.order, signed, Bool.false_eq_true, if_false, Option.some.injEq] at h2
        rcases h2 with h2 | h2
        · have := Int.compare_eq_lt.1 h2
          omega
        · have := Int.compare_eq_eq.1 h2
          omega
      have hlo : 2 ^ m.log2 ≤ m := Nat.log2_self_le hm
      rw [Nat.shiftLeft_eq, Nat.shiftLeft_eq, show 8388608 = 2 ^ 23 from rfl, ← Nat.pow_add] at hle
      have h3 : 2 ^ (m.log2 + (p - min p (-24)).toNat) ≤ 2 ^ (23 + (-24 - min p (-24)).toNat) := by
        rw [Nat.pow_add]
        exact Nat.le_trans (Nat.mul_le_mul_right _ hlo) hle
      have h4 := (Nat.pow_le_pow_iff_right (by decide : 1 < 2)).1 h3
      omega
    · simp only [Datum.order, signed, Option.some.injEq] at h1
      have := Int.compare_eq_gt.1 h1
      simp only [if_true, Bool.false_eq_true, if_false, Nat.zero_shiftLeft] at this
      generalize m <<< (p - min p (-149)).toNat = z at this
      omega
open Go in
theorem enc32 {d : Datum} {E : Int} (h : ExpD d E) (h1 : -125 ≤ E) (h2 : E ≤ 100) : ExpD (FloatKind.f32.decode (FloatKind.f32.encode d)) (E + 1) := by
  obtain ⟨m, p, rfl, h⟩ := h
  refine nearest_exp single m p E h ?_ ?_
  · show (-149 : Int) ≤ E - 1 - 23
    omega
  · show ((E - 1 - 23 - (-149)).toNat + 2) * 8388608 < 255 * 8388608
    omega
open Go in
theorem enc64 {d : Datum} {E : Int} (h : ExpD d E) (h1 : -1000 ≤ E) (h2 : E ≤ 1000) : ExpD (FloatKind.f64.decode (FloatKind.f64.encode d)) (E + 1) := by
  obtain ⟨m, p, rfl, h⟩ := h
  refine nearest_exp double m p E h ?_ ?_
  · show (-1074 : Int) ≤ E - 1 - 52
    omega
  · show ((E - 1 - 52 - (-1074)).toNat + 2) * 4503599627370496 < 2047 * 4503599627370496
    omega
/-- Made whole, a number that is not negative and below 2 ^ E is below 2 ^ E (towards zero, or down). -/
theorem integral_exp {way : Toward} (hw : way = .down ∨ way = .zero) {d : Datum} {E : Int} (h : ExpD d E) (hE : 0 ≤ E) : ExpD (d.integral way) E := by
  obtain ⟨m, p, rfl, h⟩ := h
  refine ⟨_, _, rfl, ?_⟩
  have hc : way.cut false (m <<< p.toNat) (-p).toNat ≤ m <<< p.toNat / (1 <<< min (-p).toNat ((m <<< p.toNat).log2 + 2)) := by
    rcases hw with rfl | rfl <;> simp [Toward.cut]
  by_cases hz : way.cut false (m <<< p.toNat) (-p).toNat = 0
  · exact .inl hz
  right
  by_cases hm : m = 0
  · subst hm
    simp at hc hz
    omega
  have hlt : m < 2 ^ (m.log2 + 1) := (Nat.log2_lt hm).1 (Nat.lt_succ_self _)
  obtain ⟨e, rfl⟩ : ∃ e : Nat, E = e := ⟨E.toNat, by omega⟩
  have : way.cut false (m <<< p.toNat) (-p).toNat < 2 ^ e := by
    refine Nat.lt_of_le_of_lt hc ?_
    rw [Nat.shiftLeft_eq, Nat.shiftLeft_eq, Nat.one_mul, Nat.div_lt_iff_lt_mul (Nat.two_pow_pos _), ← Nat.pow_add]
    calc m * 2 ^ p.toNat < 2 ^ (m.log2 + 1) * 2 ^ p.toNat := Nat.mul_lt_mul_of_pos_right hlt (Nat.two_pow_pos _)
      _ = 2 ^ (m.log2 + 1 + p.toNat) := (Nat.pow_add 2 _ _).symm
      _ ≤ _ := Nat.pow_le_pow_right (by decide) (by
        by_cases hp : 0 ≤ p
        · omega
        · have : p.toNat = 0 := by omega
          rw [this, Nat.pow_zero, Nat.mul_one]
          omega)
  have := (Nat.log2_lt hz).2 this
  omega
theorem toInt_exp {d : Datum} {E : Nat} (h : ExpD d E) : ∃ k : Nat, d.toInt .zero = some (k : Int) ∧ k < 2 ^ E := by
  have hi := integral_exp (way := .zero) (.inr rfl) h (by omega)
  obtain ⟨m, p, rfl, h0⟩ := h
  obtain ⟨m', p', e, h'⟩ := hi
  unfold Datum.toInt
  have hp : p' = 0 := by
    have := e
    unfold Datum.integral at this
    injection this with _ _ h3
    exact h3.symm
  subst hp
  rw [e]
  refine ⟨m', ?_, ?_⟩
  · simp [signed]
  · by_cases hz : m' = 0
    · subst hz; exact Nat.two_pow_pos _
    · exact (Nat.log2_lt hz).1 (by omega)
open Go in
theorem nat_exp {n : Nat} (hn : n < 512) : ExpD (FloatKind.f32.decode (FloatKind.f32.nearest (n : Int))) 10 := by
  have hE : ExpD (.number (decide ((n : Int) < 0)) (n : Int).natAbs 0) 9 := by
    refine ⟨n, 0, by rw [decide_eq_false (by omega)]; rfl, ?_⟩
    by_cases hz : n = 0
    · exact .inl hz
    · right
      have := (Nat.log2_lt hz).2 (show n < 2 ^ 9 from hn)
      omega
  exact enc32 hE (by omega) (by omega)
open Go in
theorem mul_exp {x y : Nat} {E F : Int} (hx : ExpD (FloatKind.f32.decode x) E) (hy : ExpD (FloatKind.f32.decode y) F) (h1 : -125 ≤ E + F) (h2 : E + F ≤ 100) : ∃ b, floatBits .mul .f32 x y = some b ∧ ExpD (FloatKind.f32.decode b) (E + F + 1) := by
  obtain ⟨d, hd, he⟩ := hx.product hy
  refine ⟨FloatKind.f32.encode d, ?_, enc32 he h1 h2⟩
  show ((FloatKind.f32.decode x).product (FloatKind.f32.decode y)).map FloatKind.f32.encode = _
  rw [hd]; rfl
open Go in
theorem ExpD.nan {k : FloatKind} {b : Nat} {E : Int} (h : ExpD (k.decode b) E) : (k.decode b).isNaN = false := by
  obtain ⟨m, p, e, _⟩ := h
  rw [e]; rfl
open Go in
theorem half_of {s : Nat} (h1 : (FloatKind.f32.format.order s 0 == some .gt) = true) (h2 : (FloatKind.f32.format.order s 1056964608 == some .lt || FloatKind.f32.format.order s 1056964608 == some .eq) = true) : ExpD (FloatKind.f32.decode s) 0 := by
  have r0 : FloatKind.f32.format.read 0 = .number false 0 (-149) := rfl
  have r1 : FloatKind.f32.format.read 1056964608 = .number false 8388608 (-24) := by decide
  have h1' : FloatKind.f32.format.order s 0 = some .gt := by simpa using h1
  have h2' : FloatKind.f32.format.order s 1056964608 = some .lt ∨ FloatKind.f32.format.order s 1056964608 = some .eq := by simpa using h2
  unfold Format.order at h1' h2'
  rw [r0] at h1'
  rw [r1] at h2'
  exact half_exp h1' h2'
open Go in
/-- The place that the band's share gives: floor (share * n), a natural number. -/
theorem band_place {s n : Nat} (hs : ExpD (FloatKind.f32.decode s) 0) (hn : n < 512) : ∃ b k : Nat, floatBits .mul .f32 s (FloatKind.f32.nearest (n : Int)) = some b ∧ (FloatKind.f32.decode b).isNaN = false ∧ (FloatKind.f64.decode (upBits b)).isNaN = false ∧
    (FloatKind.f64.decode (FloatKind.f64.encode ((FloatKind.f64.decode (upBits b)).integral .down))).toInt .zero = some (k : Int) ∧ k < 8192 := by
  obtain ⟨b, hb, he⟩ := mul_exp hs (nat_exp hn) (by omega) (by omega)
  have hu : ExpD (FloatKind.f64.decode (upBits b)) 12 := enc64 he (by omega) (by omega)
  have hf := enc64 (integral_exp (way := .down) (.inl rfl) hu (by omega)) (by omega) (by omega)
  obtain ⟨k, hk, hlt⟩ := toInt_exp (E := 13) hf
  exact ⟨b, k, hb, he.nan, hu.nan, hk, hlt⟩
end Go.Proofs.Ytimpabceellihaa
