/-
  A mixture of one part, fitted to halves of small numbers: its mean and its spread, nearly.
-/
import Derived.Test.YtimpabceellihaaMxE
import Derived.Test.YtimpabceellihaaMom
namespace Go.Proofs.Ytimpabceellihaa
open Go.RowKit

theorem mhalf_vl : Vl .f32 (some 3204448256) (-(1 / 2)) := by
  have := vl_of (k := .f32) (b := 3204448256) (s := true) (m := 8388608) (p := -24) (by decide)
  have e : vD (.number true 8388608 (-24)) = -(1 / 2) := by
    show -((8388608 : Rat) * p2 (-24)) = _
    have := p2_24
    grind
  rwa [e] at this
theorem root_vl : ∃ ρ, Vl .f32 (some 1075866777) ρ ∧ 5 / 2 ≤ ρ ∧ ρ ≤ 3 := by
  have h : p2 (-22) * 4194304 = 1 := p2m 22
  refine ⟨_, vl_of (k := .f32) (b := 1075866777) (s := false) (m := 10513561) (p := -22) (by decide), ?_, ?_⟩
  · show _ ≤ (10513561 : Rat) * p2 (-22)
    grind
  · show (10513561 : Rat) * p2 (-22) ≤ _
    grind
theorem tiny_vl : ∃ c, Vl .f32 (some 953267991) c ∧ 99 / 1000000 ≤ c ∧ c ≤ 101 / 1000000 := by
  have h : p2 (-37) * 137438953472 = 1 := p2m 37
  refine ⟨_, vl_of (k := .f32) (b := 953267991) (s := false) (m := 13743895) (p := -37) (by decide), ?_, ?_⟩
  · show _ ≤ (13743895 : Rat) * p2 (-37)
    grind
  · show (13743895 : Rat) * p2 (-37) ≤ _
    grind
theorem abs_vl {b : Nat} {q : Rat} (h : Vl .f32 (some b) q) : absF .f32 b = some b := (vl_fin h).2
/-- A density above 0. -/
theorem dens_vl {w m s x : Nat} {σ r : Rat} (hw : Vl .f32 (some w) 1) (hs : Vl .f32 (some s) σ) (s1 : 1 / 128 ≤ σ) (s2 : σ ≤ 5) (hr : Vl .f32 (opF .sub .f32 (absF .f32 x) (absF .f32 m)) r) (r1 : -(12 * σ) ≤ r) (r2 : r ≤ 12 * σ) : ∃ d, Vl .f32 (dPart w m s x) d ∧ p2 (-126) ≤ d ∧ d ≤ 64 := by
  have aw := abs_vl hw
  have ab := abs_vl hs
  obtain ⟨u, hu, u1, u2⟩ := vx_quo hr hs (by grind) (lo := -12) (hi := 12) (r32 (-12) 0 (by omega) (by omega) (by decide +kernel)) (r32 12 0 (by omega) (by omega) (by decide +kernel)) (by grind) (by grind)
  have r6 : RepK .f32 6 := r32 6 0 (by omega) (by omega) (by decide +kernel)
  obtain ⟨h, hh, nh⟩ := vl_mul mhalf_vl hu (lo := -6) (hi := 6) (rep_neg r6) r6 (by grind) (by grind)
  have h1 := nh.1 _ (rep_neg r6) (by grind)
  have h2 := nh.2 _ r6 (by grind)
  have hq : -72 ≤ h * u ∧ h * u ≤ 0 := by
    have hb := mul_bd (a := h) (A := 6) h1 h2 (b := u) (B := 12) u1 u2
    refine ⟨by grind, ?_⟩
    by_cases hp : 0 ≤ u
    · have := nh.2 _ rep0 (by grind)
      have := Rat.mul_nonneg (a := -h) (b := u) (by grind) hp
      grind
    · have := nh.1 _ rep0 (by grind)
      have := Rat.mul_nonneg (a := h) (b := -u) (by grind) (by grind)
      grind
  obtain ⟨q, hq', q1, q2⟩ := vx_mul hh hu (lo := -72) (hi := 0) (r32 (-72) 0 (by omega) (by omega) (by decide +kernel)) rep0 hq.1 hq.2
  obtain ⟨e, he, e1, e2⟩ := exp32_low hq' q1 q2
  obtain ⟨e', he', e3, e4⟩ := vx_mul hw he he.rep he.rep (by grind) (by grind)
  have ee : e' = e := Rat.le_antisymm e4 e3
  rw [ee] at he'
  obtain ⟨ρ, hρ, ρ1, ρ2⟩ := root_vl
  have m1 := Rat.mul_le_mul_of_nonneg_left s1 (show 0 ≤ ρ by grind)
  have m2 := Rat.mul_le_mul_of_nonneg_right ρ2 (show 0 ≤ σ by grind)
  obtain ⟨n, hn, n1, n2⟩ := vx_mul hρ hs (lo := 5 / 256) (hi := 15) (r32 5 8 (by omega) (by omega) (by decide +kernel)) (r32 15 0 (by omega) (by omega) (by decide +kernel)) (by grind) (by grind)
  have p4 : p2 (-122) = p2 (-126) * 16 := by rw [show (-122 : Int) = -126 + ((4 : Nat) : Int) by omega, p2_add, p2_nat]; rfl
  have hp := p2_pos (-126)
  have m3 := Rat.mul_le_mul_of_nonneg_left n2 (Rat.le_of_lt hp)
  obtain ⟨d, hd, d1, d2⟩ := vx_quo he' hn (by grind) (lo := p2 (-126)) (hi := 64) (rep32 (by omega) (by omega)) (r32 64 0 (by omega) (by omega) (by decide +kernel)) (by grind) (by grind)
  refine ⟨d, ?_, d1, d2⟩
  unfold dPart dQ dU
  rw [aw, ab]

  exact hd
/-! ### sums -/
/-- Halves of small numbers. -/
def Halves (xs : List Nat) : Prop := ∀ x ∈ xs, finB x = true ∧ ∃ z : Int, -8 ≤ z ∧ z ≤ 8 ∧ val x = (z : Rat) / 2
def sumV (xs : List Nat) : Rat := (xs.map val).sum
def sumS (M : Rat) (xs : List Nat) : Rat := (xs.map fun x => (val x - M) * (val x - M)).sum
theorem ones_sum {f : Nat → Option Nat} : ∀ (l : List Nat) (d : Option Nat) (k : Nat), (∀ y ∈ l, Vl .f32 (f y) 1) → k + l.length ≤ 100 → Vl .f32 d (k : Rat) → Vl .f32 ((l.map f).foldl (opF .add .f32) d) ((k + l.length : Nat) : Rat)
  | [], d, k, _, _, hd => hd
  | y :: l, d, k, h, hk, hd => by
    rw [List.length_cons] at hk
    have e : ((k + 1 : Nat) : Rat) = (k : Rat) + 1 := Rat.natCast_add _ _
    have hr : RepK .f32 ((k : Rat) + 1) := r32 ((k + 1 : Nat) : Int) 0 (by omega) (by omega) (by rw [Rat.intCast_natCast, e]; show _ = _ * (1 : Rat); grind)
    obtain ⟨r, hv, r1, r2⟩ := vx_add hd (h y (by simp)) hr hr Rat.le_refl Rat.le_refl
    rw [Rat.le_antisymm r2 r1, ← e] at hv
    have := ones_sum l _ (k + 1) (fun x hx => h x (by simp [hx])) (by omega) hv
    rw [List.length_cons, show k + (l.length + 1) = k + 1 + l.length by omega]
    exact this
theorem half_rep {z : Int} (h : z.natAbs ≤ 10000) : RepK .f32 ((z : Rat) / 2) := r32 z 1 (by omega) (by omega) (by show (z : Rat) = (z : Rat) / 2 * (2 : Rat); grind)
theorem dot_sum {f : Nat → Option Nat} : ∀ (l : List Nat) (d : Option Nat) (Z : Int) (c : Nat), (∀ y ∈ l, Vl .f32 (f y) 1) → Halves l → c + l.length ≤ 100 → Z.natAbs ≤ 8 * c → Vl .f32 d ((Z : Rat) / 2) →
    ∃ Z' : Int, Vl .f32 (l.foldl (fun s y => opF .add .f32 s (opF .mul .f32 (f y) (absF .f32 y))) d) ((Z' : Rat) / 2) ∧ (Z' : Rat) / 2 = (Z : Rat) / 2 + sumV l ∧ Z'.natAbs ≤ 8 * (c + l.length)
  | [], d, Z, c, _, _, _, hZ, hd => ⟨Z, hd, by show _ = _ + (0 : Rat); grind, hZ⟩
  | y :: l, d, Z, c, h, hx, hk, hZ, hd => by
    rw [List.length_cons] at hk
    obtain ⟨fy, z, z1, z2, vy⟩ := hx y (by simp)
    have hy := fin_vl fy
    rw [vy] at hy
    have rz := half_rep (z := z) (by omega)
    obtain ⟨m, hm, m1, m2⟩ := vx_mul (h y (by simp)) hy rz rz (by grind) (by grind)
    rw [Rat.le_antisymm m2 m1] at hm
    have e : ((Z + z : Int) : Rat) / 2 = (Z : Rat) / 2 + (z : Rat) / 2 := by rw [Rat.intCast_add]; grind
    have rs := half_rep (z := Z + z) (by omega)
    rw [e] at rs
    obtain ⟨s, hs, s1, s2⟩ := vx_add hd hm rs rs Rat.le_refl Rat.le_refl
    rw [Rat.le_antisymm s2 s1, ← e] at hs
    obtain ⟨Z', a, b, c'⟩ := dot_sum l (opF .add .f32 d (opF .mul .f32 (f y) (some y))) (Z + z) (c + 1) (fun x hx' => h x (by simp [hx'])) (fun x hx' => hx x (by simp [hx'])) (by omega) (by omega) hs
    refine ⟨Z', ?_, ?_, by rw [List.length_cons]; omega⟩
    · rw [List.foldl_cons, abs_vl (fin_vl fy)]; exact a
    · have : sumV (y :: l) = val y + sumV l := by simp [sumV]
      rw [this, vy, b, e]; grind
theorem wide_sum {f : Nat → Option Nat} {M : Nat} {μ : Rat} (hM : Vl .f32 (some M) μ) (m1 : -4 ≤ μ) (m2 : μ ≤ 4) : ∀ (l : List Nat) (d : Option Nat) (s t : Rat) (c : Nat), (∀ y ∈ l, Vl .f32 (f y) 1) → Halves l → c + l.length ≤ 15 → Vl .f32 d s → 0 ≤ s → 0 ≤ t → t ≤ 64 * (c : Rat) → t - (c : Rat) * (5 / 65536) ≤ s → s ≤ t + (c : Rat) * (5 / 65536) →
    ∃ r, Vl .f32 (l.foldl (fun s y => opF .add .f32 s (opF .mul .f32 (f y) (opF .mul .f32 (opF .sub .f32 (absF .f32 y) (some M)) (opF .sub .f32 (absF .f32 y) (some M))))) d) r ∧ 0 ≤ r ∧ t + sumS μ l - ((c + l.length : Nat) : Rat) * (5 / 65536) ≤ r ∧ r ≤ t + sumS μ l + ((c + l.length : Nat) : Rat) * (5 / 65536)
  | [], d, s, t, c, _, _, _, hd, h0, _, _, h1, h2 => ⟨s, hd, h0, by show t + 0 - _ ≤ s; rw [List.length_nil, Nat.add_zero]; grind, by show s ≤ t + 0 + _; rw [List.length_nil, Nat.add_zero]; grind⟩
  | y :: l, d, s, t, c, h, hx, hk, hd, h0, t0, t1, h1, h2 => by
    rw [List.length_cons] at hk
    have q21 : p2 (-21) * 2097152 = 1 := p2m 21
    have q18 : p2 (-18) * 262144 = 1 := p2m 18
    have q14 : p2 (-14) * 16384 = 1 := p2m 14
    have e3 : p2 3 = 8 := p2_nat 3
    have e6 : p2 6 = 64 := p2_nat 6
    have e10 : p2 10 = 1024 := p2_nat 10
    obtain ⟨fy, z, z1, z2, vy⟩ := hx y (by simp)
    have hy := fin_vl fy
    have hb : -4 ≤ val y ∧ val y ≤ 4 := by
      rw [vy]
      have a : (-8 : Rat) ≤ (z : Rat) := Rat.intCast_le_intCast.2 z1
      have b : (z : Rat) ≤ 8 := Rat.intCast_le_intCast.2 z2
      constructor <;> grind
    have r8 : RepK .f32 8 := r32 8 0 (by omega) (by omega) (by decide +kernel)
    obtain ⟨a, ha, na⟩ := vl_sub hy hM (lo := -8) (hi := 8) (rep_neg r8) r8 (by grind) (by grind)
    have a1 := na.1 _ (rep_neg r8) (by grind)
    have a2 := na.2 _ r8 (by grind)
    have ae := na.err (e := -21) (in32 (by omega) (by omega)) (by rw [gB32, show (-21 : Int) + 24 = 3 by omega, e3]; grind) (by rw [gB32, show (-21 : Int) + 24 = 3 by omega, e3]; grind)
    have sq0 : 0 ≤ a * a := by
      by_cases hp : 0 ≤ a
      · exact Rat.mul_nonneg hp hp
      · have := Rat.mul_nonneg (a := -a) (b := -a) (by grind) (by grind)
        grind
    have sqb := mul_bd (a := a) (A := 8) (by grind) (by grind) (b := a) (B := 8) (by grind) (by grind)
    have r64' : RepK .f32 64 := r32 64 0 (by omega) (by omega) (by decide +kernel)
    obtain ⟨b, hb', nb⟩ := vl_mul ha ha (lo := 0) (hi := 64) rep0 r64' sq0 (by grind)
    have b1 := nb.1 _ rep0 sq0
    have b2 := nb.2 _ r64' (by grind)
    have be := nb.err (e := -18) (in32 (by omega) (by omega)) (by rw [gB32, show (-18 : Int) + 24 = 6 by omega, e6]; grind) (by rw [gB32, show (-18 : Int) + 24 = 6 by omega, e6]; grind)
    obtain ⟨b', hb2, b3, b4⟩ := vx_mul (h y (by simp)) hb' hb'.rep hb'.rep (by grind) (by grind)
    rw [Rat.le_antisymm b4 b3] at hb2
    -- the square against what is meant
    have dd := mul_bd (a := a - (val y - μ)) (A := p2 (-21)) (by grind) (by grind) (b := a + (val y - μ)) (B := 16) (by grind) (by grind)
    have sqy0 : 0 ≤ (val y - μ) * (val y - μ) := by
      by_cases hp : 0 ≤ val y - μ
      · exact Rat.mul_nonneg hp hp
      · have := Rat.mul_nonneg (a := -(val y - μ)) (b := -(val y - μ)) (by grind) (by grind)
        grind
    have sqyb := mul_bd (a := val y - μ) (A := 8) (by grind) (by grind) (b := val y - μ) (B := 8) (by grind) (by grind)
    have hc15 : ((c + 1 : Nat) : Rat) ≤ 15 := Rat.natCast_le_natCast.2 (show c + 1 ≤ 15 by omega)
    have ec : ((c + 1 : Nat) : Rat) = (c : Rat) + 1 := Rat.natCast_add _ _
    rw [ec] at hc15
    have hc0 : (0 : Rat) ≤ (c : Rat) := Rat.natCast_nonneg
    obtain ⟨g, hg⟩ : ∃ g, g = (val y - μ) * (val y - μ) := ⟨_, rfl⟩
    have hgb : b - g ≤ 1 / 65536 ∧ g - b ≤ 1 / 65536 := by
      have : a * a - g = (a - (val y - μ)) * (a + (val y - μ)) := by rw [hg]; grind
      constructor <;> grind
    rw [← hg] at sqy0 sqyb
    have r1024 : RepK .f32 1024 := r32 1024 0 (by omega) (by omega) (by decide +kernel)
    obtain ⟨r, hr, nr⟩ := vl_add hd hb2 (lo := 0) (hi := 1024) rep0 r1024 (by grind) (by grind)
    have r0 := nr.1 _ rep0 (by grind)
    have re := nr.err (e := -14) (in32 (by omega) (by omega)) (by rw [gB32, show (-14 : Int) + 24 = 10 by omega, e10]; grind) (by rw [gB32, show (-14 : Int) + 24 = 10 by omega, e10]; grind)
    obtain ⟨R, hR, R0, R1, R2⟩ := wide_sum hM m1 m2 l (opF .add .f32 d (opF .mul .f32 (f y) (opF .mul .f32 (opF .sub .f32 (some y) (some M)) (opF .sub .f32 (some y) (some M))))) r (t + g) (c + 1) (fun x hx' => h x (by simp [hx'])) (fun x hx' => hx x (by simp [hx'])) (by omega) hr r0 (by grind) (by rw [ec]; grind) (by rw [ec]; grind) (by rw [ec]; grind)
    have es : sumS μ (y :: l) = g + sumS μ l := by simp [sumS, hg]
    rw [es, List.length_cons, show c + (l.length + 1) = c + 1 + l.length by omega]
    refine ⟨R, ?_, R0, by grind, by grind⟩
    rw [List.foldl_cons, abs_vl hy]; exact hR
/-- The sum of squares about a number, from the sums. -/
theorem sumS_eq (M : Rat) : ∀ l : List Nat, sumS M l = sumS 0 l - 2 * M * sumV l + (l.length : Rat) * (M * M)
  | [] => by show (0 : Rat) = 0 - 2 * M * 0 + ((0 : Nat) : Rat) * _; rw [show ((0 : Nat) : Rat) = 0 from rfl]; grind
  | y :: l => by
    have e1 : sumS M (y :: l) = (val y - M) * (val y - M) + sumS M l := by simp [sumS]
    have e2 : sumS 0 (y :: l) = (val y - 0) * (val y - 0) + sumS 0 l := by simp [sumS]
    have e3 : sumV (y :: l) = val y + sumV l := by simp [sumV]
    have e4 : (((y :: l).length : Nat) : Rat) = (l.length : Rat) + 1 := by rw [List.length_cons]; exact Rat.natCast_add _ _
    rw [e1, e2, e3, e4, sumS_eq M l]
    grind
theorem sumS_ge (M : Rat) {l : List Nat} {y : Nat} (hy : y ∈ l) : (val y - M) * (val y - M) ≤ sumS M l := by
  have sq : ∀ a : Rat, 0 ≤ a * a := fun a => by
    by_cases hp : 0 ≤ a
    · exact Rat.mul_nonneg hp hp
    · have := Rat.mul_nonneg (a := -a) (b := -a) (by grind) (by grind)
      grind
  have nn : ∀ l : List Nat, 0 ≤ sumS M l := fun l => by
    induction l with
    | nil => exact Rat.le_refl
    | cons x l ih =>
      have e1 : sumS M (x :: l) = (val x - M) * (val x - M) + sumS M l := by simp [sumS]
      have := sq (val x - M)
      rw [e1]; grind
  induction l with
  | nil => cases hy
  | cons x l ih =>
    have e1 : sumS M (x :: l) = (val x - M) * (val x - M) + sumS M l := by simp [sumS]
    rw [e1]
    rcases List.mem_cons.1 hy with rfl | hy
    · have := nn l; grind
    · have := sq (val x - M)
      have := ih hy
      grind
theorem sum_bds : ∀ l : List Nat, Halves l → -(4 * (l.length : Rat)) ≤ sumV l ∧ sumV l ≤ 4 * (l.length : Rat) ∧ 0 ≤ sumS 0 l ∧ sumS 0 l ≤ 16 * (l.length : Rat)
  | [], _ => by
    show -(4 * ((0 : Nat) : Rat)) ≤ 0 ∧ (0 : Rat) ≤ 4 * ((0 : Nat) : Rat) ∧ (0 : Rat) ≤ 0 ∧ (0 : Rat) ≤ 16 * ((0 : Nat) : Rat)
    rw [show ((0 : Nat) : Rat) = 0 from rfl]
    refine ⟨by grind, by grind, by grind, by grind⟩
  | y :: l, h => by
    obtain ⟨a, b, c, d⟩ := sum_bds l (fun x hx => h x (by simp [hx]))
    obtain ⟨fy, z, z1, z2, vy⟩ := h y (by simp)
    have hb : -4 ≤ val y ∧ val y ≤ 4 := by
      rw [vy]
      have a : (-8 : Rat) ≤ (z : Rat) := Rat.intCast_le_intCast.2 z1
      have b : (z : Rat) ≤ 8 := Rat.intCast_le_intCast.2 z2
      constructor <;> grind
    have sq := mul_bd (a := val y) (A := 4) hb.1 hb.2 (b := val y) (B := 4) hb.1 hb.2
    have sq0 : 0 ≤ val y * val y := by
      by_cases hp : 0 ≤ val y
      · exact Rat.mul_nonneg hp hp
      · have := Rat.mul_nonneg (a := -val y) (b := -val y) (by grind) (by grind)
        grind
    have e2 : sumS 0 (y :: l) = (val y - 0) * (val y - 0) + sumS 0 l := by simp [sumS]
    have e3 : sumV (y :: l) = val y + sumV l := by simp [sumV]
    have e4 : (((y :: l).length : Nat) : Rat) = (l.length : Rat) + 1 := by rw [List.length_cons]; exact Rat.natCast_add _ _
    rw [e2, e3, e4]
    refine ⟨by grind, by grind, by grind, by grind⟩
end Go.Proofs.Ytimpabceellihaa
