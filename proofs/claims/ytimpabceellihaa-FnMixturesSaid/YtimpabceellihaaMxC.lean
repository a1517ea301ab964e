/-
  A round of fitting a mixture of two parts to halves of small numbers: weights make one, nearly, means stay between the numbers.
-/
import Derived.Test.YtimpabceellihaaMxB
namespace Go.Proofs.Ytimpabceellihaa
open Go.RowKit

theorem vx_sub' {k : FloatKind} {x y : Option Nat} {u v lo hi : Rat} (hx : Vl k x u) (hy : Vl k y v) (hlo : RepK k lo) (hhi : RepK k hi) (h1 : lo ≤ u - v) (h2 : u - v ≤ hi) : ∃ r, Vl k (opF .sub k x y) r ∧ lo ≤ r ∧ r ≤ hi := by
  obtain ⟨r, hr, hn⟩ := vl_sub hx hy hlo hhi h1 h2
  exact ⟨r, hr, hn.1 _ hlo h1, hn.2 _ hhi h2⟩
/-- A part whose densities are numbers. -/
structure Part (w m s : Nat) : Prop where
  w : ∃ ω, Vl .f32 (some w) ω ∧ 0 ≤ ω ∧ ω ≤ 2
  m : ∃ μ, Vl .f32 (some m) μ ∧ -(4097 / 1024) ≤ μ ∧ μ ≤ 4097 / 1024
  s : ∃ σ, Vl .f32 (some s) σ ∧ 1 / 128 ≤ σ ∧ σ ≤ 2048
theorem above_word {s : Nat} {σ : Rat} (h : Vl .f32 (some s) σ) (h0 : 0 < σ) : aboveB s = true := above_vl h h0
theorem Part.dens {w m s x : Nat} (h : Part w m s) (hx : finB x = true) : ∃ d, Vl .f32 (dPart w m s x) d ∧ 0 ≤ d ∧ d ≤ 128 := by
  obtain ⟨ω, hw, w0, w1⟩ := h.w
  obtain ⟨μ, hm, -, -⟩ := h.m
  obtain ⟨σ, hs, s0, s1⟩ := h.s
  have hn := dQ_neg hx (vl_fin hm).1 (above_word hs (by grind))
  obtain ⟨e, he, e0, e1⟩ := (exp32_bet hn).1.vl
  have b1 := Rat.mul_nonneg w0 e0
  have b2 := mul_bd (a := ω) (A := 2) (by grind) w1 (b := e) (B := 1) (by grind) e1
  obtain ⟨n, hn', n0, n1⟩ := vx_mul hw he (lo := 0) (hi := 2) rep0 (r32 2 0 (by omega) (by omega) (by decide +kernel)) b1 (by grind)
  obtain ⟨ρ, hρ, ρ1, ρ2⟩ := root_vl
  have m1 := Rat.mul_le_mul_of_nonneg_left s0 (show 0 ≤ ρ by grind)
  have m2 := Rat.mul_le_mul_of_nonneg_right ρ2 (show 0 ≤ σ by grind)
  obtain ⟨d, hd, d1, d2⟩ := vx_mul hρ hs (lo := 5 / 256) (hi := 8192) (r32 5 8 (by omega) (by omega) (by decide +kernel)) (r32 8192 0 (by omega) (by omega) (by decide +kernel)) (by grind) (by grind)
  obtain ⟨q, hq, q1, q2⟩ := vx_quo hn' hd (by grind) (lo := 0) (hi := 128) rep0 (r32 128 0 (by omega) (by omega) (by decide +kernel)) (by grind) (by grind)
  refine ⟨q, ?_, q1, q2⟩
  unfold dPart
  rw [abs_vl hw, abs_vl hs]
  exact hq
/-- Two parts. -/
structure Two (x0 x1 x2 : List Nat) : Prop where
  p : ∃ w0 w1 m0 m1 s0 s1, x0 = [w0, w1] ∧ x1 = [m0, m1] ∧ x2 = [s0, s1] ∧ Part w0 m0 s0 ∧ Part w1 m1 s1
  wt : ∀ w0 w1, x0 = [w0, w1] → ∃ u v, Vl .f32 (some w0) u ∧ Vl .f32 (some w1) v ∧ 1 - 9 / 10000 ≤ u + v
variable {xs x0 x1 x2 : List Nat}
/-- The shares of a number in both parts. -/
theorem Two.shares (h : Two x0 x1 x2) {y : Nat} (hy : finB y = true) (hab : aboveA (mixS x0 x1 x2 y) = true) :
    ∃ a b, Vl .f32 (fShr x0 x1 x2 0 y) a ∧ Vl .f32 (fShr x0 x1 x2 1 y) b ∧ 0 ≤ a ∧ a ≤ 1 ∧ 0 ≤ b ∧ b ≤ 1 ∧ 1 - 1 / 2097152 ≤ a + b := by
  have q23 := p2_23
  have q24 := p2_24
  have e0' : p2 0 = 1 := p2_zero
  obtain ⟨w0, w1, m0, m1, s0, s1, rfl, rfl, rfl, hp, hq⟩ := h.p
  obtain ⟨d, hd, d0, d1⟩ := hp.dens hy
  obtain ⟨e, he, e0, e1⟩ := hq.dens hy
  have ed : dAt [w0, w1] [m0, m1] [s0, s1] y 0 = dPart w0 m0 s0 y := dAt_of rfl rfl rfl
  have ee : dAt [w0, w1] [m0, m1] [s0, s1] y 1 = dPart w1 m1 s1 y := dAt_of rfl rfl rfl
  have hS : mixS [w0, w1] [m0, m1] [s0, s1] y = opF .add .f32 (opF .add .f32 (some 0) (dPart w0 m0 s0 y)) (dPart w1 m1 s1 y) := by
    show opF .add .f32 (opF .add .f32 (some 0) (dAt [w0, w1] [m0, m1] [s0, s1] y 0)) (dAt [w0, w1] [m0, m1] [s0, s1] y 1) = _
    rw [ed, ee]
  have ez : (0 : Rat) + d = d := by grind
  have hrep : RepK .f32 (0 + d) := by rw [ez]; exact hd.rep
  obtain ⟨t, ht, t1, t2⟩ := vx_add vl_zero hd hrep hrep Rat.le_refl Rat.le_refl
  have et := Rat.le_antisymm t2 t1
  rw [ez] at et
  rw [et] at ht
  have r256 : RepK .f32 256 := r32 256 0 (by omega) (by omega) (by decide +kernel)
  obtain ⟨s, hs, ns⟩ := vl_add ht he (lo := 0) (hi := 256) rep0 r256 (by grind) (by grind)
  have sz := ns.1 _ rep0 (by grind)
  have sd := ns.1 _ hd.rep (by grind)
  have se := ns.1 _ he.rep (by grind)
  rw [← hS] at hs
  have hpos : 0 < s := by
    have hs' := hs
    obtain ⟨b, eb, -⟩ := hs
    rw [eb] at hab hs'
    have h1 : aboveB b = true := hab
    unfold aboveB at h1
    rw [Bool.and_eq_true, beq_iff_eq] at h1
    have f0 : finB 0 = true := by decide
    have v0 : val 0 = 0 := vl_val vl_zero
    have := (gt_val h1.1 f0).1 h1.2
    rw [v0, vl_val hs'] at this
    exact this
  have hrel := rel_pos ns hs.rep (sum_whole rfl hd.rep he.rep) (by grind) (by
    have : p2 8 ≤ p2 100 := p2_mono (by omega)
    have e8 : p2 8 = 256 := p2_nat 8
    grind)
  obtain ⟨a, ha, na⟩ := vl_quo hd hs hpos rep0 rep1 (by
    refine Rat.le_of_mul_le_mul_right (c := s) ?_ hpos
    rw [Rat.div_mul_cancel (by grind)]; grind) (by
    refine Rat.le_of_mul_le_mul_right (c := s) ?_ hpos
    rw [Rat.div_mul_cancel (by grind)]; grind)
  obtain ⟨b, hb, nb⟩ := vl_quo he hs hpos rep0 rep1 (by
    refine Rat.le_of_mul_le_mul_right (c := s) ?_ hpos
    rw [Rat.div_mul_cancel (by grind)]; grind) (by
    refine Rat.le_of_mul_le_mul_right (c := s) ?_ hpos
    rw [Rat.div_mul_cancel (by grind)]; grind)
  obtain ⟨f, hf⟩ : ∃ f, f = d / s := ⟨_, rfl⟩
  obtain ⟨g, hg⟩ : ∃ g, g = e / s := ⟨_, rfl⟩
  have ef : f * s = d := by rw [hf]; exact Rat.div_mul_cancel (by grind)
  have eg : g * s = e := by rw [hg]; exact Rat.div_mul_cancel (by grind)
  rw [← hf] at na
  rw [← hg] at nb
  have f0 : 0 ≤ f := Rat.le_of_mul_le_mul_right (c := s) (by rw [ef]; grind) hpos
  have g0 : 0 ≤ g := Rat.le_of_mul_le_mul_right (c := s) (by rw [eg]; grind) hpos
  have f1 : f ≤ 1 := Rat.le_of_mul_le_mul_right (c := s) (by rw [ef]; grind) hpos
  have g1 : g ≤ 1 := Rat.le_of_mul_le_mul_right (c := s) (by rw [eg]; grind) hpos
  have fg : 1 - 1 / 4194304 ≤ f + g := by
    refine Rat.le_of_mul_le_mul_right (c := s) ?_ hpos
    have : (f + g) * s = d + e := by grind
    rw [this]
    have hq23 : p2 (-23) = 1 / 8388608 := by grind
    rw [hq23] at hrel
    grind
  have ae := na.err (e := -24) (in32 (by omega) (by omega)) (by rw [gB32, show (-24 : Int) + 24 = 0 by omega, e0']; grind) (by rw [gB32, show (-24 : Int) + 24 = 0 by omega, e0']; exact f1)
  have be := nb.err (e := -24) (in32 (by omega) (by omega)) (by rw [gB32, show (-24 : Int) + 24 = 0 by omega, e0']; grind) (by rw [gB32, show (-24 : Int) + 24 = 0 by omega, e0']; exact g1)
  refine ⟨a, b, ?_, ?_, na.1 _ rep0 f0, na.2 _ rep1 f1, nb.1 _ rep0 g0, nb.2 _ rep1 g1, by grind⟩
  · unfold fShr
    rw [ed]
    exact ha
  · unfold fShr
    rw [ee]
    exact hb
/-! ### sums of shares -/
theorem nsum {f : Nat → Option Nat} : ∀ (l : List Nat) (d : Option Nat) (s t : Rat) (c : Nat), (∀ y ∈ l, ∃ q, Vl .f32 (f y) q ∧ 0 ≤ q ∧ q ≤ 1) → c + l.length ≤ 15 → Vl .f32 d s → 0 ≤ s → t ≤ (c : Rat) → t - (c : Rat) * (1 / 1048576) ≤ s → s ≤ t + (c : Rat) * (1 / 1048576) →
    ∃ r, Vl .f32 ((l.map f).foldl (opF .add .f32) d) r ∧ 0 ≤ r ∧ t + (l.map fun y => wo (f y)).sum - ((c + l.length : Nat) : Rat) * (1 / 1048576) ≤ r ∧ r ≤ t + (l.map fun y => wo (f y)).sum + ((c + l.length : Nat) : Rat) * (1 / 1048576) ∧ t + (l.map fun y => wo (f y)).sum ≤ ((c + l.length : Nat) : Rat)
  | [], d, s, t, c, _, _, hd, h0, t1, h1, h2 => ⟨s, hd, h0, by show t + 0 - _ ≤ s; rw [List.length_nil, Nat.add_zero]; grind, by show s ≤ t + 0 + _; rw [List.length_nil, Nat.add_zero]; grind, by show t + 0 ≤ _; rw [List.length_nil, Nat.add_zero]; grind⟩
  | y :: l, d, s, t, c, h, hk, hd, h0, t1, h1, h2 => by
    rw [List.length_cons] at hk
    have q20 : p2 (-20) * 1048576 = 1 := p2m 20
    have e4 : p2 4 = 16 := p2_nat 4
    obtain ⟨q, hq, q0, q1⟩ := h y (by simp)
    have hc15 : ((c + 1 : Nat) : Rat) ≤ 15 := Rat.natCast_le_natCast.2 (show c + 1 ≤ 15 by omega)
    have ec : ((c + 1 : Nat) : Rat) = (c : Rat) + 1 := Rat.natCast_add _ _
    rw [ec] at hc15
    have hc0 : (0 : Rat) ≤ (c : Rat) := Rat.natCast_nonneg
    have r16 : RepK .f32 16 := r32 16 0 (by omega) (by omega) (by decide +kernel)
    obtain ⟨r, hr, nr⟩ := vl_add hd hq (lo := 0) (hi := 16) rep0 r16 (by grind) (by grind)
    have r0 := nr.1 _ rep0 (by grind)
    have re := nr.err (e := -20) (in32 (by omega) (by omega)) (by rw [gB32, show (-20 : Int) + 24 = 4 by omega, e4]; grind) (by rw [gB32, show (-20 : Int) + 24 = 4 by omega, e4]; grind)
    obtain ⟨R, hR, R0, R1, R2, R3⟩ := nsum l _ r (t + q) (c + 1) (fun x hx' => h x (by simp [hx'])) (by omega) hr r0 (by rw [ec]; grind) (by rw [ec]; grind) (by rw [ec]; grind)
    have es : ((y :: l).map fun y => wo (f y)).sum = q + (l.map fun y => wo (f y)).sum := by simp [vl_wo hq]
    rw [es, List.length_cons, show c + (l.length + 1) = c + 1 + l.length by omega]
    exact ⟨R, hR, R0, by grind, by grind, by grind⟩
/-- Four times a number of the format. -/
theorem rep_four {a : Rat} (h : RepK .f32 a) (a0 : 0 ≤ a) (a1 : a ≤ 1) : RepK .f32 (4 * a) := by
  obtain ⟨s, R, hR, e⟩ := h
  have ev : a = rV FloatKind.f32.format R := by
    cases s
    · exact e
    · rw [sg_t] at e
      have := rV_nn FloatKind.f32.format R
      grind
  have hb : FloatKind.f32.format.binade = 8388608 := by decide
  have hl : FloatKind.f32.format.leastPlace = -149 := by decide
  rw [rV_eq, hl] at ev
  have hm := rM_lt FloatKind.f32.format R
  rw [hb] at hm
  have hj : rJ FloatKind.f32.format R ≤ 200 := by
    by_cases hj : rJ FloatKind.f32.format R ≤ 200
    · exact hj
    · exfalso
      have hg := rM_ge FloatKind.f32.format (R := R) (by omega)
      rw [hb] at hg
      have h1 : mg 1 1 ≤ mg (rM FloatKind.f32.format R) (-149 + (rJ FloatKind.f32.format R : Int)) :=
        Rat.le_trans (mg_le.2 (show 1 ≤ rM FloatKind.f32.format R by omega)) (mg_place _ (by omega))
      rw [mg_one, p2_1, ← ev] at h1
      grind
  have e4 : 4 * a = mg (rM FloatKind.f32.format R) (-149 + (rJ FloatKind.f32.format R : Int) + 2) := by
    rw [ev]
    unfold mg
    rw [p2_add _ 2]
    have : p2 2 = 4 := p2_nat 2
    rw [this]; grind
  rw [e4]
  exact rep_gen (by omega) (by omega) (by omega)
theorem dsum {f : Nat → Option Nat} : ∀ (l : List Nat) (d n : Option Nat) (D s : Rat) (c : Nat), (∀ y ∈ l, ∃ q, Vl .f32 (f y) q ∧ 0 ≤ q ∧ q ≤ 1) → Halves l → c + l.length ≤ 15 → Vl .f32 d D → Vl .f32 n s → 0 ≤ s → s ≤ 2 * (c : Rat) → aR D ≤ 4 * (1 + (c : Rat) / 1048576) * s →
    ∃ D' r, Vl .f32 (l.foldl (fun s y => opF .add .f32 s (opF .mul .f32 (f y) (absF .f32 y))) d) D' ∧ Vl .f32 ((l.map f).foldl (opF .add .f32) n) r ∧ 0 ≤ r ∧ aR D' ≤ 4 * (1 + ((c + l.length : Nat) : Rat) / 1048576) * r
  | [], d, n, D, s, c, _, _, _, hd, hn, s0, _, hD => ⟨D, s, hd, hn, s0, by rw [List.length_nil, Nat.add_zero]; exact hD⟩
  | y :: l, d, n, D, s, c, h, hx, hk, hd, hn, s0, s2, hD => by
    rw [List.length_cons] at hk
    have q23 := p2_23
    have hq23 : p2 (-23) = 1 / 8388608 := by grind
    obtain ⟨q, hq, q0, q1⟩ := h y (by simp)
    obtain ⟨fy, z, z1, z2, vy⟩ := hx y (by simp)
    have hy := fin_vl fy
    have hb : -4 ≤ val y ∧ val y ≤ 4 := by
      rw [vy]
      have a : (-8 : Rat) ≤ (z : Rat) := Rat.intCast_le_intCast.2 z1
      have b : (z : Rat) ≤ 8 := Rat.intCast_le_intCast.2 z2
      constructor <;> grind
    have hc15 : ((c + 1 : Nat) : Rat) ≤ 15 := Rat.natCast_le_natCast.2 (show c + 1 ≤ 15 by omega)
    have ec : ((c + 1 : Nat) : Rat) = (c : Rat) + 1 := Rat.natCast_add _ _
    rw [ec] at hc15
    have hc0 : (0 : Rat) ≤ (c : Rat) := Rat.natCast_nonneg
    have r4q := rep_four hq.rep q0 q1
    have m1 := Rat.mul_le_mul_of_nonneg_left hb.2 q0
    have m2 := Rat.mul_le_mul_of_nonneg_left hb.1 q0
    obtain ⟨p, hp, p1, p2'⟩ := vx_mul hq hy (rep_neg r4q) r4q (by grind) (by grind)
    have r32' : RepK .f32 32 := r32 32 0 (by omega) (by omega) (by decide +kernel)
    have r256 : RepK .f32 256 := r32 256 0 (by omega) (by omega) (by decide +kernel)
    have p8 : p2 8 ≤ p2 100 := p2_mono (by omega)
    have e8 : p2 8 = 256 := p2_nat 8
    obtain ⟨r, hr, nr⟩ := vl_add hn hq (lo := 0) (hi := 32) rep0 r32' (by grind) (by grind)
    have r0 := nr.1 _ rep0 (by grind)
    have rrel := rel_pos nr hr.rep (sum_whole rfl hn.rep hq.rep) (by grind) (by grind)
    obtain ⟨L, hL⟩ : ∃ L, L = 1 + (c : Rat) / 1048576 := ⟨_, rfl⟩
    have L1 : 1 ≤ L := by grind
    have L2 : L ≤ 2 := by grind
    rw [← hL] at hD
    have Ls := mul_bd (a := L) (A := 2) (by grind) L2 (b := s) (B := 30) (by grind) (by grind)
    have hDp : aR (D + p) ≤ 4 * L * (s + q) := by
      have hLq := Rat.mul_nonneg (a := L - 1) (b := q) (by grind) q0
      have hLs := Rat.mul_nonneg (a := L) (b := s) (by grind) s0
      unfold aR at hD ⊢
      split <;> split at hD <;> grind
    have Lt := mul_bd (a := L) (A := 2) (by grind) L2 (b := s + q) (B := 31) (by grind) (by grind)
    have hDb : -256 ≤ D + p ∧ D + p ≤ 256 := by
      unfold aR at hDp
      split at hDp <;> constructor <;> grind
    obtain ⟨E, hE, nE⟩ := vl_add hd hp (lo := -256) (hi := 256) (rep_neg r256) r256 hDb.1 hDb.2
    have Erel := rel_abs nE hE.rep (sum_whole rfl hd.rep hp.rep) (by grind)
    rw [hq23] at rrel Erel
    have r2c : r ≤ 2 * ((c + 1 : Nat) : Rat) := by
      have rz : RepK .f32 (2 * ((c + 1 : Nat) : Rat)) := r32 ((2 * (c + 1) : Nat) : Int) 0 (by omega) (by omega) (by rw [Rat.intCast_natCast, Rat.natCast_mul]; show (2 : Rat) * _ = _ * (1 : Rat); grind)
      exact nr.2 _ rz (by rw [ec]; grind)
    have fin : aR E ≤ 4 * (1 + ((c + 1 : Nat) : Rat) / 1048576) * r := by
      have e2 : 1 + ((c + 1 : Nat) : Rat) / 1048576 = L + 1 / 1048576 := by rw [ec, hL]; grind
      rw [e2]
      have t0 : 0 ≤ s + q := by grind
      have k := Rat.mul_nonneg (a := s + q) (b := (L + 1 / 1048576) * (1 - 1 / 8388608) - L * (1 + 1 / 8388608)) t0 (by grind)
      have k2 := Rat.mul_le_mul_of_nonneg_left (show (s + q) - (s + q) * (1 / 8388608) ≤ r from rrel.1) (show 0 ≤ L + 1 / 1048576 by grind)
      grind
    obtain ⟨D', R, hD', hR, R0, hf⟩ := dsum l (opF .add .f32 d (opF .mul .f32 (f y) (some y))) (opF .add .f32 n (f y)) E r (c + 1) (fun x hx' => h x (by simp [hx'])) (fun x hx' => hx x (by simp [hx'])) (by omega) hE hr r0 r2c fin
    refine ⟨D', R, ?_, hR, R0, ?_⟩
    · rw [List.foldl_cons, abs_vl hy]; exact hD'
    · rw [List.length_cons, show c + (l.length + 1) = c + 1 + l.length by omega]; exact hf
/-- The sum of squares stays a number. -/
theorem wsum {f : Nat → Option Nat} {M : Nat} {μ : Rat} (hM : Vl .f32 (some M) μ) (m1 : -(4097 / 1024) ≤ μ) (m2 : μ ≤ 4097 / 1024) : ∀ (l : List Nat) (d : Option Nat) (s : Rat) (c : Nat), (∀ y ∈ l, ∃ q, Vl .f32 (f y) q ∧ 0 ≤ q ∧ q ≤ 1) → Halves l → c + l.length ≤ 15 → Vl .f32 d s → 0 ≤ s → s ≤ 128 * (c : Rat) →
    ∃ r, Vl .f32 (l.foldl (fun s y => opF .add .f32 s (opF .mul .f32 (f y) (opF .mul .f32 (opF .sub .f32 (absF .f32 y) (some M)) (opF .sub .f32 (absF .f32 y) (some M))))) d) r ∧ 0 ≤ r ∧ r ≤ 128 * ((c + l.length : Nat) : Rat)
  | [], d, s, c, _, _, _, hd, h0, h1 => ⟨s, hd, h0, by rw [List.length_nil, Nat.add_zero]; exact h1⟩
  | y :: l, d, s, c, h, hx, hk, hd, h0, h1 => by
    rw [List.length_cons] at hk
    obtain ⟨q, hq, q0, q1⟩ := h y (by simp)
    obtain ⟨fy, z, z1, z2, vy⟩ := hx y (by simp)
    have hy := fin_vl fy
    have hb : -4 ≤ val y ∧ val y ≤ 4 := by
      rw [vy]
      have a : (-8 : Rat) ≤ (z : Rat) := Rat.intCast_le_intCast.2 z1
      have b : (z : Rat) ≤ 8 := Rat.intCast_le_intCast.2 z2
      constructor <;> grind
    have ec : ((c + 1 : Nat) : Rat) = (c : Rat) + 1 := Rat.natCast_add _ _
    have hc0 : (0 : Rat) ≤ (c : Rat) := Rat.natCast_nonneg
    have r9 : RepK .f32 9 := r32 9 0 (by omega) (by omega) (by decide +kernel)
    have r128 : RepK .f32 128 := r32 128 0 (by omega) (by omega) (by decide +kernel)
    obtain ⟨a, ha, a1, a2⟩ := vx_sub' hy hM (rep_neg r9) r9 (by grind) (by grind)
    have sq0 : 0 ≤ a * a := by
      by_cases hp : 0 ≤ a
      · exact Rat.mul_nonneg hp hp
      · have := Rat.mul_nonneg (a := -a) (b := -a) (by grind) (by grind)
        grind
    have sqb := mul_bd (a := a) (A := 9) (by grind) (by grind) (b := a) (B := 9) (by grind) (by grind)
    obtain ⟨b, hb', b1, b2⟩ := vx_mul ha ha (lo := 0) (hi := 128) rep0 r128 sq0 (by grind)
    have k0 := Rat.mul_nonneg q0 b1
    have k1 := Rat.mul_le_mul_of_nonneg_right q1 b1
    obtain ⟨e, he, e1, e2⟩ := vx_mul hq hb' (lo := 0) (hi := 128) rep0 r128 k0 (by grind)
    have rz : RepK .f32 (128 * ((c + 1 : Nat) : Rat)) := r32 ((128 * (c + 1) : Nat) : Int) 0 (by omega) (by omega) (by rw [Rat.intCast_natCast, Rat.natCast_mul]; show (128 : Rat) * _ = _ * (1 : Rat); grind)
    obtain ⟨r, hr, r1, r2⟩ := vx_add hd he (lo := 0) (hi := 128 * ((c + 1 : Nat) : Rat)) rep0 rz (by grind) (by rw [ec]; grind)
    obtain ⟨R, hR, R0, R1⟩ := wsum hM m1 m2 l (opF .add .f32 d (opF .mul .f32 (f y) (opF .mul .f32 (opF .sub .f32 (some y) (some M)) (opF .sub .f32 (some y) (some M))))) r (c + 1) (fun x hx' => h x (by simp [hx'])) (fun x hx' => hx x (by simp [hx'])) (by omega) hr r1 r2
    refine ⟨R, ?_, R0, ?_⟩
    · rw [List.foldl_cons, abs_vl hy]; exact hR
    · rw [List.length_cons, show c + (l.length + 1) = c + 1 + l.length by omega]; exact R1
end Go.Proofs.Ytimpabceellihaa
