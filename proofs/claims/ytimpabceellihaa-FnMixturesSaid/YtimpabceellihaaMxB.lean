/-
  A round of fitting a mixture of one part.
-/
import Derived.Test.YtimpabceellihaaMxA
namespace Go.Proofs.Ytimpabceellihaa
open Go.RowKit

/-- A mixture of one part whose densities at the numbers are above 0. -/
structure One (xs x0 x1 x2 : List Nat) (μ σ : Rat) : Prop where
  w : ∃ w m s, x0 = [w] ∧ x1 = [m] ∧ x2 = [s] ∧ Vl .f32 (some w) 1 ∧ Vl .f32 (some m) μ ∧ Vl .f32 (some s) σ
  s1 : 1 / 128 ≤ σ
  s2 : σ ≤ 5
  far : ∀ y ∈ xs, ∃ r, Vl .f32 (opF .sub .f32 (absF .f32 y) (absF .f32 (x1.getD 0 0))) r ∧ -(12 * σ) ≤ r ∧ r ≤ 12 * σ
variable {xs x0 x1 x2 : List Nat} {μ σ : Rat}
theorem One.dens (h : One xs x0 x1 x2 μ σ) {y : Nat} (hy : y ∈ xs) : ∃ d, Vl .f32 (dAt x0 x1 x2 y 0) d ∧ 0 < d ∧ Vl .f32 (mixS x0 x1 x2 y) d := by
  obtain ⟨w, m, s, rfl, rfl, rfl, hw, hm, hs⟩ := h.w
  obtain ⟨r, hr, r1, r2⟩ := h.far y hy
  obtain ⟨d, hd, d1, d2⟩ := dens_vl hw hs h.s1 h.s2 hr r1 r2
  have hp := p2_pos (-126)
  have ed : dAt [w] [m] [s] y 0 = dPart w m s y := dAt_of rfl rfl rfl
  refine ⟨d, by rw [ed]; exact hd, by grind, ?_⟩
  show Vl .f32 (opF .add .f32 (some 0) (dAt [w] [m] [s] y 0)) d
  rw [ed]
  have e0 : (0 : Rat) + d = d := by grind
  have hrep : RepK .f32 (0 + d) := by rw [e0]; exact hd.rep
  obtain ⟨t, ht, t1, t2⟩ := vx_add vl_zero hd hrep hrep Rat.le_refl Rat.le_refl
  have := Rat.le_antisymm t2 t1
  rw [e0] at this
  rwa [this] at ht
theorem One.share (h : One xs x0 x1 x2 μ σ) {y : Nat} (hy : y ∈ xs) : Vl .f32 (fShr x0 x1 x2 0 y) 1 := by
  obtain ⟨d, hd, d0, hs⟩ := h.dens hy
  obtain ⟨q, hq, q1, q2⟩ := vx_quo hd hs d0 rep1 rep1 (by grind) (by grind)
  rw [Rat.le_antisymm q2 q1] at hq
  exact hq
theorem above_vl {o : Option Nat} {q : Rat} (h : Vl .f32 o q) (h0 : 0 < q) : aboveA o = true := by
  have h' := h
  obtain ⟨b, rfl, -⟩ := h
  show aboveB b = true
  unfold aboveB
  have f0 : finB 0 = true := by decide
  have v0 : val 0 = 0 := vl_val vl_zero
  have fb := (vl_fin h').1
  rw [fb, Bool.true_and, beq_iff_eq]
  exact (gt_val fb f0).2 (by rw [v0, vl_val h']; exact h0)
theorem milli32 : ∃ c, Vl .f32 (some 981668463) c ∧ c ≤ 1 / 512 := by
  have h : p2 (-33) * 8589934592 = 1 := p2m 33
  refine ⟨_, vl_of (k := .f32) (b := 981668463) (s := false) (m := 8589935) (p := -33) (by decide), ?_⟩
  show (8589935 : Rat) * p2 (-33) ≤ _
  grind
/-- The root of a number from about 0.0001 to about 17. -/
theorem root_near {o : Option Nat} {u : Rat} (h : Vl .f32 o u) (u1 : 99 / 1000000 ≤ u) (u2 : u ≤ 17) :
    ∃ S, Vl .f32 (rt32 o) S ∧ 1 / 128 ≤ S ∧ S ≤ 5 ∧ u ≤ S * S + (1 + u) / 4096 + 1 / 16777216 ∧ S * S ≤ u + (1 + u) / 4096 + 1 / 16777216 ∧ 95 * u ≤ 100 * (S * S) := by
  obtain ⟨N, hN⟩ : ∃ N : Nat, (N : Int) = (u * 16777216).floor := by
    have h0 : (0 : Int) ≤ (u * 16777216).floor := by
      refine Rat.le_floor_iff.2 ?_
      show (0 : Rat) ≤ _
      grind
    exact ⟨(u * 16777216).floor.toNat, by omega⟩
  have f1 := Rat.floor_le (u * 16777216)
  have f2 := Rat.lt_floor_add_one (u * 16777216)
  rw [← hN] at f1 f2
  rw [Rat.intCast_natCast] at f1
  have f2' : u * 16777216 < ((N + 1 : Nat) : Rat) := by
    have e : (((N : Int) + 1 : Int) : Rat) = ((N + 1 : Nat) : Rat) := by
      rw [Rat.intCast_add, Rat.intCast_natCast, Rat.natCast_add]; rfl
    rw [e] at f2
    exact f2
  obtain ⟨k, k1, k2⟩ := root_nat N
  have g1 : (k : Rat) * (k : Rat) ≤ u * 16777216 := by
    have := Rat.natCast_le_natCast.2 k1
    rw [Rat.natCast_mul] at this
    exact Rat.le_trans this f1
  have g2 : u * 16777216 < ((k : Rat) + 1) * ((k : Rat) + 1) := by
    have := Rat.natCast_le_natCast.2 (show N + 1 ≤ (k + 1) * (k + 1) by omega)
    rw [Rat.natCast_mul, Rat.natCast_add k 1] at this
    have e1 : ((1 : Nat) : Rat) = 1 := rfl
    rw [e1] at this
    grind
  have hk40 : 40 ≤ k := by
    by_cases hlt : 40 ≤ k
    · exact hlt
    · exfalso
      have hk : (k : Rat) ≤ 39 := Rat.natCast_le_natCast.2 (show k ≤ 39 by omega)
      have h0 : (0 : Rat) ≤ (k : Rat) := Rat.natCast_nonneg
      have := mul_bd (a := (k : Rat) + 1) (A := 40) (by grind) (by grind) (b := (k : Rat) + 1) (B := 40) (by grind) (by grind)
      grind
  have hk2 : k ≤ 16889 := by
    by_cases hlt : k ≤ 16889
    · exact hlt
    · exfalso
      have hk : (16890 : Rat) ≤ (k : Rat) := Rat.natCast_le_natCast.2 (show 16890 ≤ k by omega)
      have a := Rat.mul_le_mul_of_nonneg_left hk (show (0 : Rat) ≤ (k : Rat) by grind)
      grind
  have hk40' : (40 : Rat) ≤ (k : Rat) := Rat.natCast_le_natCast.2 hk40
  have hk2' : (k : Rat) ≤ 16889 := Rat.natCast_le_natCast.2 hk2
  have ra : RepK .f32 ((k : Rat) / 4096) := r32 (k : Int) 12 (by omega) (by omega) (by rw [Rat.intCast_natCast]; show _ = _ * (4096 : Rat); grind)
  have rb : RepK .f32 (((k : Rat) + 1) / 4096) := r32 ((k + 1 : Nat) : Int) 12 (by omega) (by omega) (by
    rw [Rat.intCast_natCast, Rat.natCast_add]; show (k : Rat) + 1 = _ * (4096 : Rat); grind)
  obtain ⟨S, hS, S1, S2⟩ := (rt32_bet h (by grind) ra rb (by grind) (by grind) (by grind) (by grind)).vl
  have m1 := Rat.mul_le_mul_of_nonneg_left S1 (show 0 ≤ S by grind)
  have m2 := Rat.mul_le_mul_of_nonneg_left S1 (show 0 ≤ (k : Rat) / 4096 by grind)
  have m3 := Rat.mul_le_mul_of_nonneg_left S2 (show 0 ≤ S by grind)
  have m4 := Rat.mul_le_mul_of_nonneg_left S2 (show 0 ≤ ((k : Rat) + 1) / 4096 by grind)
  -- 2 k / 4096 is at most 1 + u
  have hsq : 0 ≤ ((k : Rat) / 4096 - 1) * ((k : Rat) / 4096 - 1) := by
    by_cases hp : 0 ≤ (k : Rat) / 4096 - 1
    · exact Rat.mul_nonneg hp hp
    · have := Rat.mul_nonneg (a := -((k : Rat) / 4096 - 1)) (b := -((k : Rat) / 4096 - 1)) (by grind) (by grind)
      grind
  have m5 := mul_bd (a := (k : Rat) + 1) (A := 41 / 40 * (k : Rat)) (by grind) (by grind) (b := (k : Rat) + 1) (B := 41 / 40 * (k : Rat)) (by grind) (by grind)
  refine ⟨S, hS, by grind, by grind, ?_, ?_, ?_⟩
  · grind
  · grind
  · grind
/-- A round. -/
theorem One.round (h : One xs x0 x1 x2 μ σ) (hx : Halves xs) (n4 : 4 ≤ xs.length) (n15 : xs.length ≤ 15) :
    fOk x0 x1 x2 xs = true ∧ ∃ μ' σ', One xs (wdL (fVs x0 x1 x2 xs)) (wdL (fMs x0 x1 x2 xs)) (wdL (fSs x0 x1 x2 xs)) μ' σ' ∧
      -p2 (-22) ≤ μ' - sumV xs / (xs.length : Rat) ∧ μ' - sumV xs / (xs.length : Rat) ≤ p2 (-22) ∧
      σ' * σ' ≤ (sumS 0 xs / (xs.length : Rat) - sumV xs / (xs.length : Rat) * (sumV xs / (xs.length : Rat))) + 1 / 10000 + (1 + (sumS 0 xs / (xs.length : Rat) - sumV xs / (xs.length : Rat) * (sumV xs / (xs.length : Rat)))) / 2000 ∧
      (sumS 0 xs / (xs.length : Rat) - sumV xs / (xs.length : Rat) * (sumV xs / (xs.length : Rat))) + 1 / 10000 ≤ σ' * σ' + (1 + (sumS 0 xs / (xs.length : Rat) - sumV xs / (xs.length : Rat) * (sumV xs / (xs.length : Rat)))) / 2000 := by
  have q22 : p2 (-22) * 4194304 = 1 := p2m 22
  have q21 : p2 (-21) * 2097152 = 1 := p2m 21
  have q19 : p2 (-19) * 524288 = 1 := p2m 19
  have e2 : p2 2 = 4 := p2_nat 2
  have e3 : p2 3 = 8 := p2_nat 3
  have e5 : p2 5 = 32 := p2_nat 5
  obtain ⟨w, m, s, rfl, rfl, rfl, hw, hm, hs⟩ := h.w
  have hsh := fun y hy => h.share (y := y) hy
  have hn4 : (4 : Rat) ≤ (xs.length : Rat) := Rat.natCast_le_natCast.2 n4
  have hn15 : (xs.length : Rat) ≤ 15 := Rat.natCast_le_natCast.2 n15
  -- the sums
  have hN : Vl .f32 (fN [w] [m] [s] xs 0 xs.length) (xs.length : Rat) := by
    have := ones_sum xs (some 0) 0 hsh (by omega) vl_zero
    rw [Nat.zero_add] at this
    unfold fN fCol
    rw [List.take_length]
    exact this
  obtain ⟨Z, hD, eD, -⟩ := dot_sum xs (some 0) 0 0 hsh hx (by omega) (by omega) (by
    have : ((0 : Int) : Rat) / 2 = 0 := by rw [show ((0 : Int) : Rat) = 0 from rfl]; grind
    rw [this]; exact vl_zero)
  have eD' : (Z : Rat) / 2 = sumV xs := by
    rw [eD, show ((0 : Int) : Rat) = 0 from rfl]; grind
  rw [eD'] at hD
  have hD2 : Vl .f32 (fDot [w] [m] [s] xs 0 xs.length) (sumV xs) := by
    unfold fDot
    rw [List.take_length]
    exact hD
  obtain ⟨A1, A2, Q1, Q2⟩ := sum_bds xs hx
  obtain ⟨a, ha⟩ : ∃ a, a = sumV xs / (xs.length : Rat) := ⟨_, rfl⟩
  obtain ⟨q, hq⟩ : ∃ q, q = sumS 0 xs / (xs.length : Rat) := ⟨_, rfl⟩
  have hne : (xs.length : Rat) ≠ 0 := by grind
  have ea : a * (xs.length : Rat) = sumV xs := by rw [ha]; exact Rat.div_mul_cancel hne
  have eq' : q * (xs.length : Rat) = sumS 0 xs := by rw [hq]; exact Rat.div_mul_cancel hne
  have hn0 : (0 : Rat) < (xs.length : Rat) := by grind
  have a1 : -4 ≤ a := by
    refine Rat.le_of_mul_le_mul_right (c := (xs.length : Rat)) ?_ hn0
    rw [ea]; grind
  have a2 : a ≤ 4 := by
    refine Rat.le_of_mul_le_mul_right (c := (xs.length : Rat)) ?_ hn0
    rw [ea]; exact A2
  have q1 : q ≤ 16 := by
    refine Rat.le_of_mul_le_mul_right (c := (xs.length : Rat)) ?_ hn0
    rw [eq']; exact Q2
  rw [← ha, ← hq]
  have r4 : RepK .f32 4 := r32 4 0 (by omega) (by omega) (by decide +kernel)
  obtain ⟨M', hM, nM⟩ := vl_quo hD2 hN hn0 (rep_neg r4) r4 (by rw [← ha]; exact a1) (by rw [← ha]; exact a2)
  rw [← ha] at nM
  have M1 := nM.1 _ (rep_neg r4) a1
  have M2 := nM.2 _ r4 a2
  have Me := nM.err (e := -22) (in32 (by omega) (by omega)) (by rw [gB32, show (-22 : Int) + 24 = 2 by omega, e2]; exact a1) (by rw [gB32, show (-22 : Int) + 24 = 2 by omega, e2]; exact a2)
  have hM' : Vl .f32 (fMean [w] [m] [s] xs 0) M' := hM
  obtain ⟨Mw, eMw, -⟩ := hM
  have hMf : fMean [w] [m] [s] xs 0 = some Mw := eMw
  rw [hMf] at hM'
  obtain ⟨W', hW, W0, W1, W2⟩ := wide_sum hM' M1 M2 xs (some 0) 0 0 0 hsh hx (by omega) vl_zero Rat.le_refl Rat.le_refl (by rw [show ((0 : Nat) : Rat) = 0 from rfl]; grind) (by rw [show ((0 : Nat) : Rat) = 0 from rfl]; grind) (by rw [show ((0 : Nat) : Rat) = 0 from rfl]; grind)
  rw [Nat.zero_add] at W1 W2
  have hW2 : Vl .f32 (fWide [w] [m] [s] xs 0 xs.length) W' := by
    unfold fWide
    rw [List.take_length, hMf]
    exact hW
  -- what the sum of squares about M is
  have eS := sumS_eq M' xs
  obtain ⟨T, hT⟩ : ∃ T, T = q - a * a + (M' - a) * (M' - a) := ⟨_, rfl⟩
  have eT : sumS M' xs = (xs.length : Rat) * T := by
    rw [eS, ← ea, ← eq', hT]; grind
  rw [eT] at W1 W2
  have tb := mul_bd (a := M' - a) (A := p2 (-22)) (by grind) (by grind) (b := M' - a) (B := p2 (-22)) (by grind) (by grind)
  have t0 : 0 ≤ (M' - a) * (M' - a) := by
    by_cases hp : 0 ≤ M' - a
    · exact Rat.mul_nonneg hp hp
    · have := Rat.mul_nonneg (a := -(M' - a)) (b := -(M' - a)) (by grind) (by grind)
      grind
  have aa0 : 0 ≤ a * a := by
    by_cases hp : 0 ≤ a
    · exact Rat.mul_nonneg hp hp
    · have := Rat.mul_nonneg (a := -a) (b := -a) (by grind) (by grind)
      grind
  have p44 : p2 (-22) * p2 (-22) ≤ 1 / 1000000 := by
    have e : p2 (-22) = 1 / 4194304 := by grind
    rw [e]; decide +kernel
  have T17 : T ≤ 33 / 2 := by grind
  -- over n
  have wq1 : (T - 5 / 65536) * (xs.length : Rat) ≤ W' := by grind
  have wq2 : W' ≤ (T + 5 / 65536) * (xs.length : Rat) := by grind
  obtain ⟨g, hg⟩ : ∃ g, g = W' / (xs.length : Rat) := ⟨_, rfl⟩
  have eg : g * (xs.length : Rat) = W' := by rw [hg]; exact Rat.div_mul_cancel hne
  have g1 : T - 5 / 65536 ≤ g := Rat.le_of_mul_le_mul_right (c := (xs.length : Rat)) (by rw [eg]; exact wq1) hn0
  have g2 : g ≤ T + 5 / 65536 := Rat.le_of_mul_le_mul_right (c := (xs.length : Rat)) (by rw [eg]; exact wq2) hn0
  have g0 : 0 ≤ g := Rat.le_of_mul_le_mul_right (c := (xs.length : Rat)) (by rw [eg]; grind) hn0
  have r32' : RepK .f32 32 := r32 32 0 (by omega) (by omega) (by decide +kernel)
  obtain ⟨f, hf, nf⟩ := vl_quo hW2 hN hn0 rep0 r32' (by rw [← hg]; exact g0) (by rw [← hg]; grind)
  rw [← hg] at nf
  have f0 := nf.1 _ rep0 g0
  have fe := nf.err (e := -19) (in32 (by omega) (by omega)) (by rw [gB32, show (-19 : Int) + 24 = 5 by omega, e5]; grind) (by rw [gB32, show (-19 : Int) + 24 = 5 by omega, e5]; grind)
  obtain ⟨c, hc, c1, c2⟩ := tiny_vl
  obtain ⟨u, hu, nu⟩ := vl_add hf hc hc.rep r32' (by grind) (by grind)
  have u0 := nu.1 _ hc.rep (by grind)
  have ue := nu.err (e := -19) (in32 (by omega) (by omega)) (by rw [gB32, show (-19 : Int) + 24 = 5 by omega, e5]; grind) (by rw [gB32, show (-19 : Int) + 24 = 5 by omega, e5]; grind)
  have u17 : u ≤ 17 := by grind
  obtain ⟨S, hS, S1, S2, S3, S4, S5⟩ := root_near hu (by grind) u17
  have hS' : Vl .f32 (ptS (fWide [w] [m] [s] xs 0 xs.length) (fN [w] [m] [s] xs 0 xs.length)) S := by
    unfold ptS
    rw [abs_vl hc]
    exact hS
  -- the weight
  have hLn := vl_nat (k := .f32) (n := xs.length) (by show xs.length ≤ 16777216; omega) (in32 (by omega) (by omega))
  obtain ⟨W1', hW1, k1, k2⟩ := vx_quo hN hLn hn0 rep1 rep1 (by grind) (by grind)
  rw [Rat.le_antisymm k2 k1] at hW1
  have hW1' : Vl .f32 (ptW (fN [w] [m] [s] xs 0 xs.length) xs.length) 1 := by
    unfold ptW
    rw [abs_vl hLn]
    exact hW1
  have hbig : fBig [w] [m] [s] xs 0 = true := by
    unfold fBig bigA
    obtain ⟨c', hc', hc2⟩ := milli32
    have hN' := hN
    obtain ⟨b, eb, -⟩ := hN
    rw [eb] at hN' ⊢
    rw [abs_vl hc']
    show (FloatKind.f32.format.order b 981668463 == some .gt) = true
    rw [(vl_ordX hN' hc').2.1.2 (by grind)]
    rfl
  have eV : fVs [w] [m] [s] xs = [ptW (fN [w] [m] [s] xs 0 xs.length) xs.length] := by
    show [fW [w] [m] [s] xs 0] = _
    unfold fW
    rw [if_pos hbig]
  have eM : fMs [w] [m] [s] xs = [some Mw] := by
    show [fM [w] [m] [s] xs 0] = _
    unfold fM
    rw [if_pos hbig, hMf]
  have eSs : fSs [w] [m] [s] xs = [ptS (fWide [w] [m] [s] xs 0 xs.length) (fN [w] [m] [s] xs 0 xs.length)] := by
    show [fS [w] [m] [s] xs 0] = _
    unfold fS
    rw [if_pos hbig]
  obtain ⟨Ww, eWw, -⟩ := id hW1'
  obtain ⟨Sw, eSw, -⟩ := id hS'
  rw [eWw] at hW1' eV
  rw [eSw] at hS' eSs
  refine ⟨?_, M', S, ?_, by grind, by grind, ?_, ?_⟩
  · unfold fOk
    rw [eV, eM, eSs]
    rw [Bool.and_eq_true]
    constructor
    · unfold fUp
      rw [List.take_length, List.all_eq_true]
      intro y hy
      obtain ⟨d, -, d0, hd⟩ := h.dens hy
      exact above_vl hd d0
    · unfold mixAB
      have h1 : finA (some Mw) = true := (vl_fin hM').1
      have h2 : leastA (some Ww) = true := okC_least (okC_of hW1' (by decide))
      have h3 : aboveA (some Sw) = true := above_vl hS' (by grind)
      have h4 : nearA (sumF [some Ww]) = true := by
        have e0 : (0 : Rat) + 1 = 1 := by grind
        obtain ⟨t, ht, t1, t2⟩ := vx_add vl_zero hW1' rep1 rep1 (by grind) (by grind)
        have q10 := p2_pos (-10)
        exact near_ok (s := sumF [some Ww]) ht (by grind) (by grind)
      simp [h1, h2, h3, h4]
  · rw [eV, eM, eSs]
    refine ⟨⟨Ww, Mw, Sw, rfl, rfl, rfl, hW1', hM', hS'⟩, S1, S2, fun y hy => ?_⟩
    obtain ⟨fy, z, z1, z2, vy⟩ := hx y hy
    have hyv := fin_vl fy
    have hb : -4 ≤ val y ∧ val y ≤ 4 := by
      rw [vy]
      have a : (-8 : Rat) ≤ (z : Rat) := Rat.intCast_le_intCast.2 z1
      have b : (z : Rat) ≤ 8 := Rat.intCast_le_intCast.2 z2
      constructor <;> grind
    have r8 : RepK .f32 8 := r32 8 0 (by omega) (by omega) (by decide +kernel)
    obtain ⟨r, hr, nr⟩ := vl_sub hyv hM' (lo := -8) (hi := 8) (rep_neg r8) r8 (by grind) (by grind)
    have re := nr.err (e := -21) (in32 (by omega) (by omega)) (by rw [gB32, show (-21 : Int) + 24 = 3 by omega, e3]; grind) (by rw [gB32, show (-21 : Int) + 24 = 3 by omega, e3]; grind)
    have hD1 := sumS_ge M' hy
    rw [eT] at hD1
    obtain ⟨D, hDe⟩ : ∃ D, D = (val y - M') * (val y - M') := ⟨_, rfl⟩
    rw [← hDe] at hD1
    have T0 : 0 ≤ T := by
      have : 0 ≤ D := by
        rw [hDe]
        by_cases hp : 0 ≤ val y - M'
        · exact Rat.mul_nonneg hp hp
        · have := Rat.mul_nonneg (a := -(val y - M')) (b := -(val y - M')) (by grind) (by grind)
          grind
      refine Rat.le_of_mul_le_mul_right (c := (xs.length : Rat)) ?_ hn0
      grind
    have T15 := Rat.mul_le_mul_of_nonneg_right hn15 T0
    have hD140 : D ≤ 140 * (S * S) := by
      by_cases hsm : D ≤ 13 / 1000
      · grind
      · grind
    have hS0 : 0 ≤ S := by grind
    refine ⟨r, ?_, ?_, ?_⟩
    · show Vl .f32 (opF .sub .f32 (absF .f32 y) (absF .f32 Mw)) r
      rw [abs_vl hyv, abs_vl hM']
      exact hr
    · by_cases hlt : -(474 / 40 * S) ≤ val y - M'
      · grind
      · exfalso
        have k := Rat.mul_le_mul_of_nonneg_left (show 474 / 40 * S ≤ -(val y - M') by grind) (show 0 ≤ 474 / 40 * S by grind)
        have k' := Rat.mul_le_mul_of_nonneg_right (show 474 / 40 * S ≤ -(val y - M') by grind) (show 0 ≤ -(val y - M') by grind)
        have : 0 < S * S := Rat.mul_pos (by grind) (by grind)
        grind
    · by_cases hlt : val y - M' ≤ 474 / 40 * S
      · grind
      · exfalso
        have k := Rat.mul_le_mul_of_nonneg_left (show 474 / 40 * S ≤ (val y - M') by grind) (show 0 ≤ 474 / 40 * S by grind)
        have k' := Rat.mul_le_mul_of_nonneg_right (show 474 / 40 * S ≤ (val y - M') by grind) (show 0 ≤ (val y - M') by grind)
        have : 0 < S * S := Rat.mul_pos (by grind) (by grind)
        grind
  · grind
  · grind
end Go.Proofs.Ytimpabceellihaa
