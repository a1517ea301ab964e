/-
  The logarithm: what both texts compute, and that no step leaves the range.
-/
import Derived.Test.YtimpabceellihaaBell
namespace Go.Proofs.Ytimpabceellihaa
open Go.RowKit

/-- The whole numbers as float64s. -/
def dI (z : Int) : Nat := floatOfInt .f64 z
/-- Horner's rounds, from the last. -/
def logQ (u : Option Nat) : Nat → Option Nat
  | 0 => some 0
  | j + 1 => opF .add .f64 (opF .quo .f64 (some 4607182418800017408) (some (dI (25 - 2 * (j : Int))))) (opF .mul .f64 u (logQ u j))
def logS (y : Option Nat) : Option Nat := opF .quo .f64 (opF .sub .f64 y (some 4607182418800017408)) (opF .add .f64 y (some 4607182418800017408))
def logB (y e : Option Nat) : Option Nat :=
  opF .add .f64 (opF .mul .f64 (some 4611686018427387904) (opF .mul .f64 (logS y) (logQ (opF .mul .f64 (logS y) (logS y)) 13))) (opF .mul .f64 e (some 4604418534313441775))
/-- Where a word ends that is doubled or halved until it is from 0.75 to 1.5, and the power of two. -/
def normY (X : Nat) : Nat := (4604930618986332160 + ((X : Int) - 4604930618986332160) % 4503599627370496).toNat
def normE (X : Nat) : Int := ((X : Int) - 4604930618986332160) / 4503599627370496
theorem norm_of {X Y : Nat} {e : Int} (h1 : 4604930618986332160 ≤ Y) (h2 : Y < 4609434218613702656) (h : (Y : Int) + e * 4503599627370496 = X) : Y = normY X ∧ e = normE X := by
  unfold normY normE
  omega
def posB (x : Nat) : Bool := finB x && (FloatKind.f32.format.order x 0 == some .gt)
/-- The logarithm of what a float32 stands for. -/
def log32 (x : Nat) : Option Nat :=
  if posB x then dnF (logB (some (normY (upBits x))) (some (dI (normE (upBits x)))))
  else if FloatKind.f32.format.order x 0 == some .eq then some 4286578688
  else if FloatKind.f32.format.order x 0 == some .gt then some 2139095040 else none
theorem dI_tab : ∀ n : Nat, n < 600 → (FloatKind.f64.decode (dI ((n : Int) - 300))).isNaN = false ∧ floatBits .sub .f64 (dI ((n : Int) - 300 + 1)) 4607182418800017408 = some (dI ((n : Int) - 300)) ∧ floatBits .add .f64 (dI ((n : Int) - 300)) 4607182418800017408 = some (dI ((n : Int) - 300 + 1)) := by decide +kernel
theorem dI_nan {z : Int} (h1 : -300 ≤ z) (h2 : z < 300) : absF .f64 (dI z) = some (dI z) := by
  obtain ⟨n, rfl⟩ : ∃ n : Nat, z = (n : Int) - 300 := ⟨(z + 300).toNat, by omega⟩
  exact absD (dI_tab n (by omega)).1
theorem dI_down {z : Int} (h1 : -300 ≤ z) (h2 : z < 300) (w : World) : flR .sub .f64 (dI (z + 1)) 4607182418800017408 w = dI z := by
  obtain ⟨n, rfl⟩ : ∃ n : Nat, z = (n : Int) - 300 := ⟨(z + 300).toNat, by omega⟩
  exact flR_some (dI_tab n (by omega)).2.1 w
theorem dI_up {z : Int} (h1 : -300 ≤ z) (h2 : z < 300) (w : World) : flR .add .f64 (dI z) 4607182418800017408 w = dI (z + 1) := by
  obtain ⟨n, rfl⟩ : ∃ n : Nat, z = (n : Int) - 300 := ⟨(z + 300).toNat, by omega⟩
  exact flR_some (dI_tab n (by omega)).2.2 w
theorem dQ_tab : ∀ j : Nat, j < 13 → floatBits .sub .f64 (dI (25 - 2 * (j : Int))) 4611686018427387904 = some (dI (25 - 2 * ((j + 1 : Nat) : Int))) ∧ (FloatKind.f64.format.order (dI (25 - 2 * (j : Int))) 4607182418800017408 == some .gt || FloatKind.f64.format.order (dI (25 - 2 * (j : Int))) 4607182418800017408 == some .eq) = true ∧ dI (25 - 2 * (j : Int)) < 9223372036854775808 ∧ (dI (25 - 2 * ((j + 1 : Nat) : Int)) < dI (25 - 2 * (j : Int)) ∨ 9223372036854775808 ≤ dI (25 - 2 * ((j + 1 : Nat) : Int))) := by decide +kernel
theorem dQ_end : (FloatKind.f64.format.order (dI (25 - 2 * ((13 : Nat) : Int))) 4607182418800017408 == some .gt || FloatKind.f64.format.order (dI (25 - 2 * ((13 : Nat) : Int))) 4607182418800017408 == some .eq) = false := by decide +kernel
theorem dQ_start : dV 4627730092099895296 = dV (dI (25 - 2 * ((0 : Nat) : Int))) := by
  have : dI (25 - 2 * ((0 : Nat) : Int)) = 4627730092099895296 := by decide +kernel
  rw [this]
theorem dI_zero : dV 0 = dV (dI 0) := by
  have : dI 0 = 0 := by decide +kernel
  rw [this]
def mF (v : Value) : Nat := if wordF v < 9223372036854775808 then wordF v + 1 else 0
theorem mF_down {a b : Nat} (hb : b < 9223372036854775808) (h : a < b ∨ 9223372036854775808 ≤ a) : mF (dV a) < mF (dV b) := by
  unfold mF
  rw [wordF_f, wordF_f, if_pos hb]
  split <;> omega

/-! ### Words of one sign -/
section
open Ieee
theorem rV_lt {f : Format} {R S : Nat} (h : R < S) : rV f R < rV f S := mg_lt.2 (rU_lt f h)
theorem rV_iff {f : Format} {R S : Nat} : rV f R < rV f S ↔ R < S := by
  constructor
  · intro h
    rcases Nat.lt_or_ge R S with h' | h'
    · exact h'
    · exact absurd (Std.lt_of_lt_of_le h (rV_le f h')) Rat.lt_irrefl
  · exact rV_lt
theorem read_pos {k : FloatKind} {R : Nat} (h : R < k.format.infRung) : k.format.read R = .number false (rM k.format R) (k.format.leastPlace + rJ k.format R) := read_rung k.format false h
/-- Words of numbers that are not negative are ordered as they are. -/
theorem ord_word {k : FloatKind} {R S : Nat} (hR : R < k.format.infRung) (hS : S < k.format.infRung) : (k.format.order R S = some .lt ↔ R < S) ∧ (k.format.order R S = some .gt ↔ S < R) ∧ (k.format.order R S = some .eq ↔ R = S) := by
  unfold Format.order
  rw [read_pos hR, read_pos hS]
  obtain ⟨h1, h2, h3⟩ := order_cmp false (rM k.format R) (k.format.leastPlace + rJ k.format R) false (rM k.format S) (k.format.leastPlace + rJ k.format S)
  have eR : vD (.number false (rM k.format R) (k.format.leastPlace + rJ k.format R)) = rV k.format R := (rV_eq _ _).symm
  have eS : vD (.number false (rM k.format S) (k.format.leastPlace + rJ k.format S)) = rV k.format S := (rV_eq _ _).symm
  rw [eR, eS] at h1 h2 h3
  refine ⟨h1.trans rV_iff, h2.trans rV_iff, h3.trans ?_⟩
  constructor
  · intro h
    rcases Nat.lt_trichotomy R S with h' | h' | h'
    · exact absurd (h ▸ rV_lt (f := k.format) h') Rat.lt_irrefl
    · exact h'
    · exact absurd (h ▸ rV_lt (f := k.format) h') Rat.lt_irrefl
  · rintro rfl; rfl
theorem nearest_rung {f : Format} {R : Nat} (s : Bool) (h : R < f.infRung) : f.nearest s (rM f R) (f.leastPlace + rJ f R) = f.word s R := by
  by_cases hm : rM f R = 0
  · have := rM_zero hm
    subst this
    rw [hm]
    unfold Format.nearest
    rw [if_pos rfl]
  · have e : mg (rM f R) (f.leastPlace + rJ f R) = rV f R := (rV_eq _ _).symm
    have h1 := rung_hi f (p := f.leastPlace + rJ f R) (R := R) hm (by rw [e]; exact Rat.le_refl)
    have h2 := rung_lo f (p := f.leastPlace + rJ f R) (R := R) hm (by rw [e]; exact Rat.le_refl)
    rw [nearest_eq f s _ hm, show rungOf f (rM f R) (f.leastPlace + rJ f R) = R by omega, Nat.min_eq_left (Nat.le_of_lt h)]
theorem rung_next {f : Format} {R : Nat} (h : f.binade ≤ R) : rM f (R + f.binade) = rM f R ∧ rJ f (R + f.binade) = rJ f R + 1 := by
  have hb := binade_pos f
  have h1 : 1 ≤ R / f.binade := (Nat.one_le_div_iff hb).2 h
  unfold rM rJ
  rw [if_neg (by omega), if_neg (by omega), if_neg (by omega), if_neg (by omega), Nat.add_mod_right, Nat.add_div_right _ hb]
  exact ⟨rfl, by omega⟩
/-- A word doubled. -/
theorem twice {X : Nat} (h1 : 4503599627370496 ≤ X) (h2 : X < 9214364837600034816) : opF .mul .f64 (some X) (some 4611686018427387904) = some (X + 4503599627370496) := by
  have r2 : FloatKind.f64.format.read 4611686018427387904 = .number false (2 ^ 52) (-51) := by decide
  have hX : X < FloatKind.f64.format.infRung := by show X < 9218868437227405312; omega
  have hX2 : X + FloatKind.f64.format.binade < FloatKind.f64.format.infRung := by show X + 4503599627370496 < 9218868437227405312; omega
  show ((FloatKind.f64.format.read X).product (FloatKind.f64.format.read 4611686018427387904)).map FloatKind.f64.format.write = _
  rw [r2, read_pos hX]
  obtain ⟨e1, e2⟩ := rung_next (f := FloatKind.f64.format) (R := X) h1
  simp only [Datum.product, Option.map_some]
  show some (FloatKind.f64.format.nearest false (rM FloatKind.f64.format X * 2 ^ 52) _) = _
  rw [nearest_shift, ← e1, show FloatKind.f64.format.leastPlace + (rJ FloatKind.f64.format X : Int) + -51 + ((52 : Nat) : Int) = FloatKind.f64.format.leastPlace + (rJ FloatKind.f64.format (X + FloatKind.f64.format.binade) : Int) by rw [e2]; omega]
  rw [nearest_rung false hX2]
  rfl
/-- A word halved. -/
theorem halved {X : Nat} (h1 : 9007199254740992 ≤ X) (h2 : X < 9218868437227405312) : opF .quo .f64 (some X) (some 4611686018427387904) = some (X - 4503599627370496) := by
  obtain ⟨R, rfl⟩ : ∃ R, X = R + FloatKind.f64.format.binade := ⟨X - 4503599627370496, by show X = X - 4503599627370496 + 4503599627370496; omega⟩
  have hbn : FloatKind.f64.format.binade = 4503599627370496 := rfl
  rw [hbn] at h1 h2
  have r2 : FloatKind.f64.format.read 4611686018427387904 = .number false (2 ^ 52) (-51) := by decide
  have hX : R + FloatKind.f64.format.binade < FloatKind.f64.format.infRung := by show R + 4503599627370496 < 9218868437227405312; omega
  have hR : R < FloatKind.f64.format.infRung := by show R < 9218868437227405312; omega
  obtain ⟨e1, e2⟩ := rung_next (f := FloatKind.f64.format) (R := R) (by rw [hbn]; omega)
  show ((FloatKind.f64.format.read (R + FloatKind.f64.format.binade)).quotient (FloatKind.f64.format.fractionBits + 2) (FloatKind.f64.format.read 4611686018427387904)).map FloatKind.f64.format.write = _
  rw [r2, read_pos hX, e1, e2]
  have hf : FloatKind.f64.format.fractionBits = 52 := rfl
  have hmlt := rM_lt FloatKind.f64.format R
  have hmge : FloatKind.f64.format.binade ≤ rM FloatKind.f64.format R := by
    unfold rM
    rw [if_neg (by rw [hbn]; omega)]
    omega
  rw [hbn] at hmlt hmge
  have hl : (rM FloatKind.f64.format R).log2 = 52 := by
    rw [Nat.log2_eq_iff (by omega)]
    constructor <;> omega
  simp only [Datum.quotient, hf, hl]
  rw [if_neg (by decide)]
  have hn : Nat.log2 (2 ^ 52) = 52 := by decide
  rw [hn, show 52 + 2 + 52 - 52 = 2 + 52 from rfl, Nat.shiftLeft_eq, Nat.pow_add, ← Nat.mul_assoc, Nat.mul_div_cancel _ (by decide), Nat.mul_mod_left]
  simp only [bne_self_eq_false, Bool.toNat_false, Nat.add_zero, Option.map_some]
  show some (FloatKind.f64.format.nearest false (2 * (rM FloatKind.f64.format R * 2 ^ 2)) _) = _
  rw [show 2 * (rM FloatKind.f64.format R * 2 ^ 2) = rM FloatKind.f64.format R * 2 ^ 3 by omega, nearest_shift]
  rw [show FloatKind.f64.format.leastPlace + ((rJ FloatKind.f64.format R + 1 : Nat) : Int) - -51 - ((2 + 52 : Nat) : Int) - 1 + ((3 : Nat) : Int) = FloatKind.f64.format.leastPlace + (rJ FloatKind.f64.format R : Int) by omega]
  rw [nearest_rung false hR, hbn, show FloatKind.f64.format.word false R = R from rfl, Nat.add_sub_cancel]
/-- A float32 as a float64: the same worth. -/
theorem rep_up {x : Nat} {s : Bool} {m : Nat} {p : Int} (h : FloatKind.f32.format.read x = .number s m p) : RepK .f64 (vD (.number s m p)) := by
  obtain ⟨h1, h2, h3⟩ := read_bound x h
  have hp : RepK .f64 (mg m p) := by
    by_cases h0 : m = 0
    · subst h0; rw [mg_zero]; exact rep0
    · have hl : m.log2 < 24 := (Nat.log2_lt h0).2 h1
      refine rep_mg h0 ?_ ?_ ?_
      · show m.log2 ≤ 52; omega
      · show (-1074 : Int) ≤ p - ((52 - m.log2 : Nat) : Int); omega
      · show (p - ((52 - m.log2 : Nat) : Int) - (-1074)).toNat + 2 < 2047; omega
  cases s
  · exact hp
  · exact rep_neg hp
theorem up_val {x : Nat} {s : Bool} {m : Nat} {p : Int} (h : FloatKind.f32.format.read x = .number s m p) : ∃ R, upBits x = FloatKind.f64.format.word s R ∧ R < FloatKind.f64.format.infRung ∧ sg s (rV FloatKind.f64.format R) = vD (.number s m p) := by
  have hr := rep_up h
  have e : upBits x = FloatKind.f64.format.nearest s m p := by
    unfold upBits
    show FloatKind.f64.format.write (FloatKind.f32.format.read x) = _
    rw [h]; rfl
  have hb : WBet FloatKind.f64.format (FloatKind.f64.format.nearest s m p) (vD (.number s m p)) (vD (.number s m p)) := near_bet (inf_pos .f64) hr hr Rat.le_refl Rat.le_refl
  obtain ⟨r, e1, hr1, h' | h'⟩ := near_sign .f64 s m p
  · refine ⟨r, e.trans e1, h'.1, ?_⟩
    obtain ⟨t, n, j, et, b1, b2⟩ := hb.read
    rw [h'.2] at et
    injection et with g1 g2 g3
    subst g1 g2 g3
    have : vD (.number s (rM FloatKind.f64.format r) (FloatKind.f64.format.leastPlace + rJ FloatKind.f64.format r)) = sg s (rV FloatKind.f64.format r) := by rw [rV_eq]; rfl
    rw [this] at b1 b2
    exact Rat.le_antisymm b2 b1
  · exact absurd h' hb.fin
end
/-- The word of a float32 above 0, as a float64. -/
theorem pos_up {x : Nat} (h : posB x = true) : 3935144174415872 * 1000 ≤ upBits x ∧ upBits x < 5183643171103440896 := by
  unfold posB at h
  rw [Bool.and_eq_true] at h
  obtain ⟨hf, hg⟩ := h
  unfold finB at hf
  cases e : FloatKind.f32.decode x with
  | nan s t => rw [e] at hf; cases hf
  | infinity s => rw [e] at hf; cases hf
  | number s m p =>
    have e' : FloatKind.f32.format.read x = .number s m p := e
    obtain ⟨b1, b2, b3⟩ := read_bound x e
    have r0 : FloatKind.f32.format.read 0 = .number false 0 (-149) := rfl
    have v0 : vD (.number false 0 (-149)) = 0 := by simp only [vD, mg_zero, sg_zero]
    have hg' : FloatKind.f32.format.order x 0 = some .gt := eq_of_beq hg
    unfold Ieee.Format.order at hg'
    rw [e', r0] at hg'
    have hpos := (order_cmp _ _ _ _ _ _).2.1.1 hg'
    rw [v0] at hpos
    have hs : s = false := by
      cases s
      · rfl
      · exfalso
        simp only [vD, sg_t] at hpos
        have := mg_nn m p
        grind
    subst hs
    simp only [vD, sg_f] at hpos
    have hm : m ≠ 0 := by
      rintro rfl
      rw [mg_zero] at hpos
      exact Rat.lt_irrefl hpos
    obtain ⟨R, eR, hR, hv⟩ := up_val e'
    simp only [vD, sg_f] at hv
    have eW : upBits x = R := eR.trans rfl
    rw [eW]
    have lo : rV FloatKind.f64.format 3936146074321813504 = p2 (-149) := by
      have h1 : rM FloatKind.f64.format 3936146074321813504 = 2 ^ 52 := by decide
      have h2 : rJ FloatKind.f64.format 3936146074321813504 = 873 := by decide
      rw [rV_eq, h1, h2, mg_pow]
      rfl
    have hi : rV FloatKind.f64.format 5183643171103440896 = p2 128 := by
      have h1 : rM FloatKind.f64.format 5183643171103440896 = 2 ^ 52 := by decide
      have h2 : rJ FloatKind.f64.format 5183643171103440896 = 1150 := by decide
      rw [rV_eq, h1, h2, mg_pow]
      rfl
    constructor
    · rcases Nat.lt_or_ge R 3936146074321813504 with h | h
      · exfalso
        have hlt := rV_lt (f := FloatKind.f64.format) h
        rw [lo, hv] at hlt
        have : p2 (-149) ≤ mg m p := by
          have h1 := (mg_le (p := p)).2 (Nat.one_le_iff_ne_zero.2 hm)
          rw [mg_one] at h1
          exact Rat.le_trans (p2_mono b2) h1
        exact absurd (Std.lt_of_lt_of_le hlt this) Rat.lt_irrefl
      · omega
    · refine (rV_iff (f := FloatKind.f64.format)).1 ?_
      rw [hi, hv]
      have h1 := (mg_lt (p := p)).2 b1
      rw [mg_pow] at h1
      exact Std.lt_of_lt_of_le h1 (p2_mono (by omega))
end Go.Proofs.Ytimpabceellihaa
