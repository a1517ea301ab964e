/-
  Rounds of fitting a mixture of two parts: what is told of its weights and means.
-/
import Derived.Test.YtimpabceellihaaMxC
import Derived.Test.YtimpabceellihaaLogE
namespace Go.Proofs.Ytimpabceellihaa
open Go.RowKit
variable {xs x0 x1 x2 : List Nat}

theorem milli32' : ∃ c, Vl .f32 (some 981668463) c ∧ 99 / 100000 ≤ c ∧ c ≤ 101 / 100000 ∧ c < 8389 / 8388608 := by
  have h : p2 (-33) * 8589934592 = 1 := p2m 33
  refine ⟨_, vl_of (k := .f32) (b := 981668463) (s := false) (m := 8589935) (p := -33) (by decide), ?_, ?_, ?_⟩
  · show _ ≤ (8589935 : Rat) * p2 (-33)
    grind
  · show (8589935 : Rat) * p2 (-33) ≤ _
    grind
  · show (8589935 : Rat) * p2 (-33) < _
    grind
/-- What becomes of a part. -/
theorem part_round {k w m s : Nat} (h0 : x0.getD k 0 = w) (h1 : x1.getD k 0 = m) (h2 : x2.getD k 0 = s) (hp : Part w m s) (hx : Halves xs) (n4 : 4 ≤ xs.length) (n15 : xs.length ≤ 15) (hsh : ∀ y ∈ xs, ∃ q, Vl .f32 (fShr x0 x1 x2 k y) q ∧ 0 ≤ q ∧ q ≤ 1) :
    ∃ W M S ω n, fW x0 x1 x2 xs k = some W ∧ fM x0 x1 x2 xs k = some M ∧ fS x0 x1 x2 xs k = some S ∧ Vl .f32 (some W) ω ∧ 0 ≤ ω ∧ (∃ μ, Vl .f32 (some M) μ ∧ -(4097 / 1024) ≤ μ ∧ μ ≤ 4097 / 1024) ∧ (∃ σ, Vl .f32 (some S) σ ∧ 1 / 128 ≤ σ ∧ σ ≤ 2048) ∧
      0 ≤ n ∧ (xs.map fun y => wo (fShr x0 x1 x2 k y)).sum - 15 / 1048576 ≤ n ∧ ((n ≤ 101 / 100000) ∨ n - 4 / 1048576 ≤ ω * (xs.length : Rat)) := by
  have q22 : p2 (-22) * 4194304 = 1 := p2m 22
  have e2 : p2 2 = 4 := p2_nat 2
  have hn4 : (4 : Rat) ≤ (xs.length : Rat) := Rat.natCast_le_natCast.2 n4
  have hn15 : (xs.length : Rat) ≤ 15 := Rat.natCast_le_natCast.2 n15
  have hn0 : (0 : Rat) < (xs.length : Rat) := by grind
  have z0 : ((0 : Nat) : Rat) = 0 := rfl
  obtain ⟨n, hn, nn, nl, nh, nT⟩ := nsum (f := fShr x0 x1 x2 k) xs (some 0) 0 0 0 hsh (by omega) vl_zero Rat.le_refl (by rw [z0]; exact Rat.le_refl) (by rw [z0]; grind) (by rw [z0]; grind)
  rw [Nat.zero_add] at nl nh nT
  obtain ⟨D, n', hD, hn', -, hDn⟩ := dsum (f := fShr x0 x1 x2 k) xs (some 0) (some 0) 0 0 0 hsh hx (by omega) vl_zero vl_zero Rat.le_refl (by rw [z0]; grind) (by unfold aR; split <;> grind)
  rw [Nat.zero_add] at hDn
  have en := hn'.uniq hn
  rw [en] at hDn
  have hN : Vl .f32 (fN x0 x1 x2 xs k xs.length) n := by
    unfold fN fCol
    rw [List.take_length]
    exact hn
  have hDot : Vl .f32 (fDot x0 x1 x2 xs k xs.length) D := by
    unfold fDot
    rw [List.take_length]
    exact hD
  obtain ⟨c, hc, c1, c2, -⟩ := milli32'
  have hbigiff : fBig x0 x1 x2 xs k = true ↔ c < n := by
    unfold fBig bigA
    have hN' := hN
    obtain ⟨b, eb, -⟩ := hN
    rw [eb] at hN' ⊢
    rw [abs_vl hc]
    show (FloatKind.f32.format.order b 981668463 == some .gt) = true ↔ _
    rw [beq_iff_eq]
    exact (vl_ordX hN' hc).2.1
  by_cases hb : fBig x0 x1 x2 xs k = true
  · have hcn := hbigiff.1 hb
    have hnp : 0 < n := by grind
    -- the mean
    have hL : 4 * (1 + (xs.length : Rat) / 1048576) ≤ 4097 / 1024 := by grind
    have hLn := Rat.mul_le_mul_of_nonneg_right hL nn
    have r4 : RepK .f32 (4097 / 1024) := r32 4097 10 (by omega) (by omega) (by decide +kernel)
    have hDb : -(4097 / 1024) * n ≤ D ∧ D ≤ 4097 / 1024 * n := by
      unfold aR at hDn
      split at hDn
      · constructor
        · grind
        · have := Rat.mul_nonneg (a := 4097 / 1024) (b := n) (by decide +kernel) nn
          grind
      · constructor
        · have := Rat.mul_nonneg (a := 4097 / 1024) (b := n) (by decide +kernel) nn
          grind
        · grind
    obtain ⟨μ, hM, μ1, μ2⟩ := vx_quo hDot hN hnp (rep_neg r4) r4 hDb.1 hDb.2
    obtain ⟨Mw, eMw, -⟩ := id hM
    have hMf : fMean x0 x1 x2 xs k = some Mw := eMw
    rw [eMw] at hM
    -- the spread
    obtain ⟨V, hV, V0, V1⟩ := wsum hM μ1 μ2 xs (some 0) 0 0 hsh hx (by omega) vl_zero Rat.le_refl (by rw [z0]; grind)
    rw [Nat.zero_add] at V1
    have hV2 : Vl .f32 (fWide x0 x1 x2 xs k xs.length) V := by
      unfold fWide
      rw [List.take_length, hMf]
      exact hV
    have rbig : RepK .f32 2097152 := r32 2097152 0 (by omega) (by omega) (by decide +kernel)
    have rbig2 : RepK .f32 4194304 := r32 4194304 0 (by omega) (by omega) (by decide +kernel)
    obtain ⟨g, hg, g0, g1⟩ := vx_quo hV2 hN hnp rep0 rbig (by grind) (by grind)
    obtain ⟨c', hc', c3, c4⟩ := tiny_vl
    obtain ⟨u, hu, u0, u1⟩ := vx_add hg hc' hc'.rep rbig2 (by grind) (by grind)
    obtain ⟨σ, hS, σ0, σ1⟩ := (rt32_bet hu (by grind) (lo := 1 / 128) (hi := 2048) (r32 1 7 (by omega) (by omega) (by decide +kernel)) (r32 2048 0 (by omega) (by omega) (by decide +kernel)) (by decide +kernel) (by decide +kernel) (by grind) (by grind)).vl
    have hS' : Vl .f32 (ptS (fWide x0 x1 x2 xs k xs.length) (fN x0 x1 x2 xs k xs.length)) σ := by
      unfold ptS
      rw [abs_vl hc']
      exact hS
    -- the weight
    have hLl := vl_nat (k := .f32) (n := xs.length) (by show xs.length ≤ 16777216; omega) (in32 (by omega) (by omega))
    have r4' : RepK .f32 4 := r32 4 0 (by omega) (by omega) (by decide +kernel)
    obtain ⟨a, ha⟩ : ∃ a, a = n / (xs.length : Rat) := ⟨_, rfl⟩
    have ea : a * (xs.length : Rat) = n := by rw [ha]; exact Rat.div_mul_cancel (by grind)
    have a0 : 0 ≤ a := Rat.le_of_mul_le_mul_right (c := (xs.length : Rat)) (by rw [ea]; grind) hn0
    have a4 : a ≤ 4 := Rat.le_of_mul_le_mul_right (c := (xs.length : Rat)) (by rw [ea]; grind) hn0
    obtain ⟨ω, hW, nW⟩ := vl_quo hN hLl hn0 rep0 r4' (by rw [← ha]; exact a0) (by rw [← ha]; exact a4)
    rw [← ha] at nW
    have we := nW.err (e := -22) (in32 (by omega) (by omega)) (by rw [gB32, show (-22 : Int) + 24 = 2 by omega, e2]; grind) (by rw [gB32, show (-22 : Int) + 24 = 2 by omega, e2]; exact a4)
    have hW' : Vl .f32 (ptW (fN x0 x1 x2 xs k xs.length) xs.length) ω := by
      unfold ptW
      rw [abs_vl hLl]
      exact hW
    obtain ⟨Ww, eWw, -⟩ := id hW'
    obtain ⟨Sw, eSw, -⟩ := id hS'
    rw [eWw] at hW'
    rw [eSw] at hS'
    have hmul := Rat.mul_le_mul_of_nonneg_right we.1 (show 0 ≤ (xs.length : Rat) by grind)
    refine ⟨Ww, Mw, Sw, ω, n, ?_, ?_, ?_, hW', nW.1 _ rep0 a0, ⟨μ, hM, μ1, μ2⟩, ⟨σ, hS', σ0, σ1⟩, nn, by grind, .inr ?_⟩
    · unfold fW; rw [if_pos hb]; exact eWw
    · unfold fM; rw [if_pos hb]; exact hMf
    · unfold fS; rw [if_pos hb]; exact eSw
    · have : p2 (-22) * (xs.length : Rat) ≤ 1 / 1048576 * 4 := by
        have := Rat.mul_le_mul_of_nonneg_left hn15 (p2_nn (-22))
        grind
      grind
  · obtain ⟨ω, hw, w0, w1⟩ := hp.w
    obtain ⟨μ, hm, m1, m2⟩ := hp.m
    obtain ⟨σ, hs, s1, s2⟩ := hp.s
    have hnc : ¬ c < n := fun h => hb (hbigiff.2 h)
    refine ⟨w, m, s, ω, n, ?_, ?_, ?_, hw, w0, ⟨μ, hm, m1, m2⟩, ⟨σ, hs, s1, s2⟩, nn, by grind, .inl (by grind)⟩
    · unfold fW; rw [if_neg hb, h0]; exact abs_vl hw
    · unfold fM; rw [if_neg hb, h1]; exact abs_vl hm
    · unfold fS; rw [if_neg hb, h2]; exact abs_vl hs
theorem share_sum {f g : Nat → Option Nat} : ∀ l : List Nat, (∀ y ∈ l, 1 - 1 / 2097152 ≤ wo (f y) + wo (g y)) → (l.length : Rat) * (1 - 1 / 2097152) ≤ (l.map fun y => wo (f y)).sum + (l.map fun y => wo (g y)).sum
  | [], _ => by
    show ((0 : Nat) : Rat) * _ ≤ 0 + 0
    rw [show ((0 : Nat) : Rat) = 0 from rfl]; grind
  | y :: l, h => by
    have ih := share_sum l (fun x hx => h x (by simp [hx]))
    have hy := h y (by simp)
    have e4 : (((y :: l).length : Nat) : Rat) = (l.length : Rat) + 1 := by rw [List.length_cons]; exact Rat.natCast_add _ _
    have e5 : ((y :: l).map fun y => wo (f y)).sum = wo (f y) + (l.map fun y => wo (f y)).sum := by simp
    have e6 : ((y :: l).map fun y => wo (g y)).sum = wo (g y) + (l.map fun y => wo (g y)).sum := by simp
    rw [e4, e5, e6]
    grind
/-- A round. -/
theorem Two.round (h : Two x0 x1 x2) (hx : Halves xs) (n4 : 4 ≤ xs.length) (n15 : xs.length ≤ 15) (hok : fOk x0 x1 x2 xs = true) :
    Two (wdL (fVs x0 x1 x2 xs)) (wdL (fMs x0 x1 x2 xs)) (wdL (fSs x0 x1 x2 xs)) := by
  have hn4 : (4 : Rat) ≤ (xs.length : Rat) := Rat.natCast_le_natCast.2 n4
  have hn15 : (xs.length : Rat) ≤ 15 := Rat.natCast_le_natCast.2 n15
  unfold fOk at hok
  rw [Bool.and_eq_true] at hok
  obtain ⟨hup, hmx⟩ := hok
  unfold fUp at hup
  rw [List.take_length, List.all_eq_true] at hup
  have hsh := fun y hy => h.shares (y := y) (hx y hy).1 (hup y hy)
  obtain ⟨w0, w1, m0, m1, s0, s1, rfl, rfl, rfl, hp, hq⟩ := h.p
  obtain ⟨W0, M0, S0, ω0, n0, eW0, eM0, eS0, vW0, p0, hM0, hS0, k0, l0, c0⟩ := part_round (k := 0) (x0 := [w0, w1]) (x1 := [m0, m1]) (x2 := [s0, s1]) rfl rfl rfl hp hx n4 n15 (fun y hy => by
    obtain ⟨a, b, ha, hb, a0, a1, b0, b1, -⟩ := hsh y hy
    exact ⟨a, ha, a0, a1⟩)
  obtain ⟨W1, M1, S1, ω1, n1, eW1, eM1, eS1, vW1, p1, hM1, hS1, k1, l1, c1⟩ := part_round (k := 1) (x0 := [w0, w1]) (x1 := [m0, m1]) (x2 := [s0, s1]) rfl rfl rfl hq hx n4 n15 (fun y hy => by
    obtain ⟨a, b, ha, hb, a0, a1, b0, b1, -⟩ := hsh y hy
    exact ⟨b, hb, b0, b1⟩)
  have eV : fVs [w0, w1] [m0, m1] [s0, s1] xs = [some W0, some W1] := by
    show [fW [w0, w1] [m0, m1] [s0, s1] xs 0, fW [w0, w1] [m0, m1] [s0, s1] xs 1] = _
    rw [eW0, eW1]
  have eM : fMs [w0, w1] [m0, m1] [s0, s1] xs = [some M0, some M1] := by
    show [fM [w0, w1] [m0, m1] [s0, s1] xs 0, fM [w0, w1] [m0, m1] [s0, s1] xs 1] = _
    rw [eM0, eM1]
  have eS : fSs [w0, w1] [m0, m1] [s0, s1] xs = [some S0, some S1] := by
    show [fS [w0, w1] [m0, m1] [s0, s1] xs 0, fS [w0, w1] [m0, m1] [s0, s1] xs 1] = _
    rw [eS0, eS1]
  rw [eV, eM, eS] at hmx ⊢
  have hsum := share_sum (f := fShr [w0, w1] [m0, m1] [s0, s1] 0) (g := fShr [w0, w1] [m0, m1] [s0, s1] 1) xs (fun y hy => by
    obtain ⟨a, b, ha, hb, -, -, -, -, hab⟩ := hsh y hy
    rw [vl_wo ha, vl_wo hb]; exact hab)
  have hle : ω0 ≤ 2 ∧ ω1 ≤ 2 := by
    unfold mixAB at hmx
    simp only [Bool.and_eq_true] at hmx
    have hl : [W0, W1].all leastB = true := by
      have := hmx.1.2.1
      simpa [leastA] using this
    have hnr : nearA (sumF (absL [W0, W1])) = true := by
      have := hmx.1.2.2
      show nearA (sumF [absF .f32 W0, absF .f32 W1]) = true
      rw [abs_vl vW0, abs_vl vW1]
      exact this
    have b0 := chance_bet hl hnr (c := W0) (by simp)
    have b1 := chance_bet hl hnr (c := W1) (by simp)
    rw [abs_vl vW0] at b0
    rw [abs_vl vW1] at b1
    have := (vW0.le b0).2
    have := (vW1.le b1).2
    rw [p2_1] at *
    constructor <;> assumption
  refine ⟨⟨W0, W1, M0, M1, S0, S1, rfl, rfl, rfl, ⟨⟨ω0, vW0, p0, hle.1⟩, hM0, hS0⟩, ⟨⟨ω1, vW1, p1, hle.2⟩, hM1, hS1⟩⟩, fun a b hab => ?_⟩
  have hab' : [W0, W1] = [a, b] := hab
  injection hab' with h1 h2
  injection h2 with h2 _
  subst h1
  subst h2
  refine ⟨ω0, ω1, vW0, vW1, ?_⟩
  refine Rat.le_of_mul_le_mul_right (c := (xs.length : Rat)) ?_ (by grind)
  have o0 := Rat.mul_nonneg p0 (show 0 ≤ (xs.length : Rat) by grind)
  have o1 := Rat.mul_nonneg p1 (show 0 ≤ (xs.length : Rat) by grind)
  rcases c0 with c0 | c0 <;> rcases c1 with c1 | c1
  · exfalso; grind
  · grind
  · grind
  · grind
theorem two_start : Two [1056964608, 1056964608] [3221225472, 1073741824] [1065353216, 1065353216] := by
  have hw : Vl .f32 (some 1056964608) (1 / 2) := by
    have := vl_of (k := .f32) (b := 1056964608) (s := false) (m := 8388608) (p := -24) (by decide)
    have e : vD (.number false 8388608 (-24)) = 1 / 2 := by
      show (8388608 : Rat) * p2 (-24) = _
      have := p2_24
      grind
    rwa [e] at this
  have q22 : p2 (-22) * 4194304 = 1 := p2m 22
  have hm : Vl .f32 (some 3221225472) (-2) := by
    have := vl_of (k := .f32) (b := 3221225472) (s := true) (m := 8388608) (p := -22) (by decide)
    have e : vD (.number true 8388608 (-22)) = -2 := by
      show -((8388608 : Rat) * p2 (-22)) = _
      grind
    rwa [e] at this
  have hm2 : Vl .f32 (some 1073741824) 2 := by
    have := vl_of (k := .f32) (b := 1073741824) (s := false) (m := 8388608) (p := -22) (by decide)
    have e : vD (.number false 8388608 (-22)) = 2 := by
      show (8388608 : Rat) * p2 (-22) = _
      grind
    rwa [e] at this
  refine ⟨⟨_, _, _, _, _, _, rfl, rfl, rfl, ⟨⟨_, hw, by grind, by grind⟩, ⟨_, hm, by grind, by grind⟩, ⟨_, one_vl, by grind, by grind⟩⟩, ⟨⟨_, hw, by grind, by grind⟩, ⟨_, hm2, by grind, by grind⟩, ⟨_, one_vl, by grind, by grind⟩⟩⟩, fun a b hab => ?_⟩
  injection hab with h1 h2
  injection h2 with h2 _
  subst h1
  subst h2
  exact ⟨_, _, hw, hw, by grind⟩
/-- Behind so many rounds. -/
theorem two_fit (hx : Halves xs) (n4 : 4 ≤ xs.length) (n15 : xs.length ≤ 15) : ∀ (r : Nat) (x0 x1 x2 z0 z1 z2 : List Nat), Two x0 x1 x2 → mixB x0 x1 x2 = true → fitN xs r x0 x1 x2 = some (z0, z1, z2) → Two z0 z1 z2 ∧ mixB z0 z1 z2 = true
  | 0, x0, x1, x2, z0, z1, z2, h, hb, e => by
    have e' : (some (x0, x1, x2) : Option (List Nat × List Nat × List Nat)) = some (z0, z1, z2) := e
    injection e' with e'
    injection e' with e1 e2
    injection e2 with e2 e3
    subst e1; subst e2; subst e3
    exact ⟨h, hb⟩
  | r + 1, x0, x1, x2, z0, z1, z2, h, hb, e => by
    cases hok : fOk x0 x1 x2 xs with
    | false => rw [fitN_no hok] at e; cases e
    | true =>
      rw [fitN_yes hok] at e
      refine two_fit hx n4 n15 r _ _ _ z0 z1 z2 (h.round hx n4 n15 hok) ?_ e
      unfold fOk at hok
      rw [Bool.and_eq_true] at hok
      obtain ⟨a, b, c⟩ := mixAB_some hok.2
      have wd : ∀ V : List (Option Nat), (∀ o ∈ V, o ≠ none) → (∀ o ∈ V, ∀ w, o = some w → absF .f32 w = some w) → absL (wdL V) = V := by
        intro V h1 h2
        induction V with
        | nil => rfl
        | cons o V ih =>
          cases ho : o with
          | none => exact absurd ho (h1 o (by simp))
          | some w =>
            show absF .f32 w :: absL (wdL V) = some w :: V
            rw [h2 o (by simp) w ho, ih (fun x hx => h1 x (by simp [hx])) (fun x hx => h2 x (by simp [hx]))]
      have hfin : ∀ w, finB w = true → absF .f32 w = some w := fun w hw => abs_vl (fin_vl hw)
      unfold mixAB at hok
      simp only [Bool.and_eq_true] at hok
      have hV := wd _ a (fun o ho w e => hfin w (by
        have := List.all_eq_true.1 hok.2.1.2.1 o ho
        rw [e] at this
        have h3 : leastB w = true := this
        unfold leastB at h3
        rw [Bool.and_eq_true] at h3
        exact h3.1))
      have hM := wd _ b (fun o ho w e => hfin w (by
        have := List.all_eq_true.1 hok.2.1.1.2 o ho
        rw [e] at this
        exact this))
      have hS := wd _ c (fun o ho w e => hfin w (by
        have := List.all_eq_true.1 hok.2.2 o ho
        rw [e] at this
        have h3 : aboveB w = true := this
        unfold aboveB at h3
        rw [Bool.and_eq_true] at h3
        exact h3.1))
      rw [mixB_abs, hV, hM, hS]
      unfold mixAB
      simp only [Bool.and_eq_true]
      exact hok.2
/-- The weights of a valid mixture of two parts make at most 1.001. -/
theorem two_weights {w0 w1 : Nat} {u v : Rat} (h0 : Vl .f32 (some w0) u) (h1 : Vl .f32 (some w1) v) (_u0 : 0 ≤ u) (_v0 : 0 ≤ v) (u2 : u ≤ 2) (v2 : v ≤ 2) (hn : nearA (sumF (absL [w0, w1])) = true) : u + v ≤ 16793993 / 16777216 := by
  have q23 := p2_23
  have q24 := p2_24
  by_cases hle : u + v ≤ 16793993 / 16777216
  · exact hle
  exfalso
  have es : sumF (absL [w0, w1]) = opF .add .f32 (opF .add .f32 (some 0) (some w0)) (some w1) := by
    show opF .add .f32 (opF .add .f32 (some 0) (absF .f32 w0)) (absF .f32 w1) = _
    rw [abs_vl h0, abs_vl h1]
  rw [es] at hn
  have ez : (0 : Rat) + u = u := by grind
  have hrep : RepK .f32 (0 + u) := by rw [ez]; exact h0.rep
  obtain ⟨t, ht, t1, t2⟩ := vx_add vl_zero h0 hrep hrep Rat.le_refl Rat.le_refl
  have et := Rat.le_antisymm t2 t1
  rw [ez] at et
  rw [et] at ht
  have r8 : RepK .f32 8 := r32 8 0 (by omega) (by omega) (by decide +kernel)
  obtain ⟨r, hr, nr⟩ := vl_add ht h1 (lo := 0) (hi := 8) rep0 r8 (by grind) (by grind)
  have r8' := nr.2 _ r8 (by grind)
  have hr1 : 8388608 / 8388608 + 8389 / 8388608 ≤ r := by
    by_cases hlt : u + v < 2
    · have := add_half ht h1 hr (by grind) hlt (K := 8396996) (by omega) (by
        show (16793993 : Rat) * p2 (-24) < u + v
        grind)
      have e : ((8396996 + 1 : Nat) : Rat) = 8396997 := rfl
      rw [e] at this
      grind
    · have := nr.1 2 (r32 2 0 (by omega) (by omega) (by decide +kernel)) (by grind)
      grind
  have rq : RepK .f32 (8389 / 8388608) := r32 8389 23 (by omega) (by omega) (by decide +kernel)
  obtain ⟨d, hd, nd⟩ := vl_sub hr one_vl (lo := 8389 / 8388608) (hi := 8) rq r8 (by grind) (by grind)
  have d1 := nd.1 _ rq (by grind)
  obtain ⟨c, hc, -, -, c3⟩ := milli32'
  unfold nearA at hn
  have hd' := hd
  obtain ⟨b, eb, -⟩ := hd
  rw [eb] at hn hd'
  have hn' : ((FloatKind.f32.format.order b 981668463 == some .lt || FloatKind.f32.format.order b 981668463 == some .eq) && (FloatKind.f32.format.order b 3129152111 == some .gt || FloatKind.f32.format.order b 3129152111 == some .eq)) = true := hn
  rw [Bool.and_eq_true, Bool.or_eq_true, beq_iff_eq, beq_iff_eq] at hn'
  obtain ⟨o1, -, o3⟩ := vl_ordX hd' hc
  rw [o1, o3] at hn'
  rcases hn'.1 with h | h <;> grind
end Go.Proofs.Ytimpabceellihaa
