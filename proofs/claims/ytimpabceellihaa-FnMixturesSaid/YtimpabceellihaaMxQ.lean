/-
  What FnMixtures reckons of the two fits holds.
-/
import Derived.Test.YtimpabceellihaaMxP
import Derived.Test.YtimpabceellihaaFitK
namespace Go.Proofs.Ytimpabceellihaa
open Go.RowKit

theorem halves_take {xs : List Nat} (hx : Halves xs) (k : Nat) : Halves (xs.take k) := fun y hy => hx y (List.mem_of_mem_take hy)
theorem abs_l1 {y : List Nat} {w : Nat} (aw : absF .f32 w = some w) (h : absL y = absL [w]) : y = [w] := by
  have e : absL [w] = [some w] := by show [absF .f32 w] = _; rw [aw]
  rw [e] at h
  cases y with
  | nil => cases h
  | cons a t =>
    have h' : absF .f32 a :: absL t = [some w] := h
    injection h' with h1 h2
    cases t with
    | nil => rw [abs_some h1]
    | cons b t => cases h2
theorem abs_l2 {y : List Nat} {w v : Nat} (aw : absF .f32 w = some w) (av : absF .f32 v = some v) (h : absL y = absL [w, v]) : y = [w, v] := by
  have e : absL [w, v] = some w :: absL [v] := by show absF .f32 w :: absL [v] = _; rw [aw]
  rw [e] at h
  cases y with
  | nil => cases h
  | cons a t =>
    have h' : absF .f32 a :: absL t = some w :: absL [v] := h
    injection h' with h1 h2
    rw [abs_some h1, abs_l1 av h2]
structure MxS (xs : List Nat) (m s nW w M S mb wb g2 pw g3 h1 h2 : Nat) : Prop where
  fo : fitOk [1065353216] [m] [s] xs 3 = true
  fr : fitR [1065353216] [m] [s] xs 3 = ([w], [M], [S])
  aw : absF .f32 w = some w
  aM : absF .f32 M = some M
  aS : absF .f32 S = some S
  fM : (FloatKind.f32.decode M).isNaN = false
  fS : (FloatKind.f32.decode S).isNaN = false
  fy : ∀ y ∈ xs, (FloatKind.f32.decode y).isNaN = false
  ms : ∀ (k y : Nat), xs[k]? = some y → ∃ b q b', foldO (mT nW) (some 0) (xs.take k) = some b ∧ floatBits .quo .f64 (upBits y) nW = some q ∧ floatBits .add .f64 b q = some b' ∧ foldO (mT nW) (some 0) (xs.take (k + 1)) = some b'
  me : foldO (mT nW) (some 0) xs = some mb
  ws : ∀ (k y : Nat), xs[k]? = some y → ∃ b d p q b', foldO (wT mb nW) (some 4547007122018943789) (xs.take k) = some b ∧ floatBits .sub .f64 (upBits y) mb = some d ∧ floatBits .mul .f64 d d = some p ∧ floatBits .quo .f64 p nW = some q ∧ floatBits .add .f64 b q = some b' ∧ foldO (wT mb nW) (some 4547007122018943789) (xs.take (k + 1)) = some b'
  we : foldO (wT mb nW) (some 4547007122018943789) xs = some wb
  e2 : gapW (upBits M) mb = some g2
  l2 : (FloatKind.f64.format.order g2 4576918229304087675 == some .gt) = false
  e3 : floatBits .mul .f64 (upBits S) (upBits S) = some pw
  e4 : gapW pw wb = some g3
  e5 : floatBits .add .f64 4607182418800017408 wb = some h1
  e6 : floatBits .mul .f64 4576918229304087675 h1 = some h2
  l3 : (FloatKind.f64.format.order g3 h2 == some .gt) = false
theorem hlf_vl {v : Nat} (hv : v < 9) : Vl .f32 (some (hlf ((v : Int) - 4))) ((((v : Int) - 4 : Int) : Rat) / 2) := by
  obtain ⟨-, f, e⟩ := hlf_tab (v + 4) (by omega)
  rw [show ((v + 4 : Nat) : Int) - 8 = (v : Int) - 4 by omega] at f e
  have := fin_vl f
  rwa [e] at this
theorem qrt_vl {u : Nat} (hu : u < 7) : Vl .f32 (some (qrt (2 + (u : Int)))) (((2 + (u : Int) : Int) : Rat) / 4) := by
  obtain ⟨-, f, e⟩ := qrt_tab u hu
  have := fin_vl f
  rwa [e] at this
theorem one_start {xs : List Nat} (hx : Halves xs) {v u : Nat} (hv : v < 9) (hu : u < 7) : ∃ μ σ, One xs [1065353216] [hlf ((v : Int) - 4)] [qrt (2 + (u : Int))] μ σ := by
  have hm := hlf_vl hv
  have hs := qrt_vl hu
  have u1 : (2 : Rat) ≤ ((2 + (u : Int) : Int) : Rat) := Rat.intCast_le_intCast.2 (show (2 : Int) ≤ 2 + (u : Int) by omega)
  have u2 : ((2 + (u : Int) : Int) : Rat) ≤ 8 := Rat.intCast_le_intCast.2 (show 2 + (u : Int) ≤ 8 by omega)
  have v1 : (-4 : Rat) ≤ (((v : Int) - 4 : Int) : Rat) := Rat.intCast_le_intCast.2 (show (-4 : Int) ≤ (v : Int) - 4 by omega)
  have v2 : (((v : Int) - 4 : Int) : Rat) ≤ 4 := Rat.intCast_le_intCast.2 (show (v : Int) - 4 ≤ 4 by omega)
  refine ⟨_, _, ⟨_, _, _, rfl, rfl, rfl, one_vl, hm, hs⟩, by grind, by grind, fun y hy => ?_⟩
  obtain ⟨fy, z, z1, z2, vy⟩ := hx y hy
  have hyv := fin_vl fy
  have hb := (halves_bd hx hy).2
  rw [vy] at hyv hb
  have e : ((z - ((v : Int) - 4) : Int) : Rat) / 2 = (z : Rat) / 2 - (((v : Int) - 4 : Int) : Rat) / 2 := by rw [Rat.intCast_sub]; grind
  have hr := half_rep (z := z - ((v : Int) - 4)) (by omega)
  rw [e] at hr
  obtain ⟨r, hr', r1, r2⟩ := vx_sub' hyv hm hr hr Rat.le_refl Rat.le_refl
  rw [Rat.le_antisymm r2 r1] at hr'
  refine ⟨(z : Rat) / 2 - (((v : Int) - 4 : Int) : Rat) / 2, ?_, by grind, by grind⟩
  show Vl .f32 (opF .sub .f32 (absF .f32 y) (absF .f32 (hlf ((v : Int) - 4)))) _
  rw [abs_vl hyv, abs_vl hm]
  exact hr'
theorem one_facts {xs : List Nat} (hx : Halves xs) (n4 : 4 ≤ xs.length) (n15 : xs.length ≤ 15) {v u : Nat} (hv : v < 9) (hu : u < 7) (hmix : mixB [1065353216] [hlf ((v : Int) - 4)] [qrt (2 + (u : Int))] = true) :
    ∃ w M S mb wb g2 pw g3 h1 h2, MxS xs (hlf ((v : Int) - 4)) (qrt (2 + (u : Int))) (floatOfInt .f64 (xs.length : Int)) w M S mb wb g2 pw g3 h1 h2 := by
  have q43 : p2 (-43) = 1 / 8796093022208 := by have : p2 (-43) * 8796093022208 = 1 := p2m 43; grind
  have q37 : p2 (-37) = 1 / 137438953472 := by have : p2 (-37) * 137438953472 = 1 := p2m 37; grind
  have q31 : p2 (-31) = 1 / 2147483648 := by have : p2 (-31) * 2147483648 = 1 := p2m 31; grind
  have q22 : p2 (-22) = 1 / 4194304 := by have : p2 (-22) * 4194304 = 1 := p2m 22; grind
  have hn4 : (4 : Rat) ≤ (xs.length : Rat) := Rat.natCast_le_natCast.2 n4
  have hn15 : (xs.length : Rat) ≤ 15 := Rat.natCast_le_natCast.2 n15
  have hn0 : (0 : Rat) < (xs.length : Rat) := by grind
  obtain ⟨μ0, σ0, hO⟩ := one_start hx hv hu
  obtain ⟨f1, μ1, σ1, o1, -⟩ := hO.round hx n4 n15
  obtain ⟨f2, μ2, σ2, o2, -⟩ := o1.round hx n4 n15
  obtain ⟨f3, μ, σ, o3, M1, M2, S1, S2⟩ := o2.round hx n4 n15
  have hfit := fitN_yes (r := 2) f1
  rw [fitN_yes (r := 1) f2, fitN_yes (r := 0) f3] at hfit
  obtain ⟨w, M, S, ew, eM, eS, hw, hM, hS⟩ := o3.w
  rw [ew, eM, eS] at hfit
  have hfit3 : fitN xs 3 [1065353216] [hlf ((v : Int) - 4)] [qrt (2 + (u : Int))] = some ([w], [M], [S]) := hfit
  have hs1 := o3.s1
  have hs2 := o3.s2
  clear hfit o1 o2 o3 hO f1 f2 f3 ew eM eS
  have hsamp : sampB xs 2 = true := by
    unfold sampB
    rw [decide_eq_true (by omega), Bool.true_and, List.all_eq_true]
    exact fun y hy => (hx y hy).1
  have hfo : fitOk [1065353216] [hlf ((v : Int) - 4)] [qrt (2 + (u : Int))] xs 3 = true := by
    unfold fitOk
    rw [show ((3 : Int).toNat) = 3 from rfl, hfit3, hmix, hsamp]
    rfl
  have hfr : fitR [1065353216] [hlf ((v : Int) - 4)] [qrt (2 + (u : Int))] xs 3 = ([w], [M], [S]) := by
    unfold fitR
    rw [if_pos hfo, show ((3 : Int).toNat) = 3 from rfl, hfit3]
    rfl
  -- the sums in 64 bits
  have hn := vl_nat (k := .f64) (n := xs.length) (by show xs.length ≤ 9007199254740992; omega) (in64 (by omega) (by omega))
  generalize floatOfInt .f64 (xs.length : Int) = nW at *
  have hne : (xs.length : Rat) ≠ 0 := by grind
  obtain ⟨A1, A2, Q1, Q2⟩ := sum_bds xs hx
  obtain ⟨a, ha⟩ : ∃ a, a = sumV xs / (xs.length : Rat) := ⟨_, rfl⟩
  obtain ⟨q, hq⟩ : ∃ q, q = sumS 0 xs / (xs.length : Rat) := ⟨_, rfl⟩
  have ea : a * (xs.length : Rat) = sumV xs := by rw [ha]; exact Rat.div_mul_cancel hne
  have eq' : q * (xs.length : Rat) = sumS 0 xs := by rw [hq]; exact Rat.div_mul_cancel hne
  have a1 : -4 ≤ a := Rat.le_of_mul_le_mul_right (c := (xs.length : Rat)) (by rw [ea]; grind) hn0
  have a2 : a ≤ 4 := Rat.le_of_mul_le_mul_right (c := (xs.length : Rat)) (by rw [ea]; exact A2) hn0
  rw [← ha] at M1 M2
  rw [← ha, ← hq] at S1 S2
  have z0 : ((0 : Nat) : Rat) = 0 := rfl
  have pre : ∀ (k : Nat), k ≤ xs.length → ∃ b r, foldO (mT nW) (some 0) (xs.take k) = some b ∧ Vl .f64 (some b) r ∧ 0 + ((xs.take k).map fun y => val y / (xs.length : Rat)).sum - ((k : Nat) : Rat) * (p2 (-43) + p2 (-43)) ≤ r ∧ r ≤ 0 + ((xs.take k).map fun y => val y / (xs.length : Rat)).sum + ((k : Nat) : Rat) * (p2 (-43) + p2 (-43)) := by
    intro k hk
    have hlen : (xs.take k).length = k := by rw [List.length_take]; omega
    obtain ⟨r, hr, r1, r2⟩ := fold_vl (t := mT nW) (g := fun y => val y / (xs.length : Rat)) (ε := p2 (-43)) (by rw [q43]; decide +kernel) (by rw [q43]; decide +kernel) (xs.take k) (some 0) 0 0 0 (fun y hy => mT_vl hx hn hn4 (List.mem_of_mem_take hy)) (by omega) zero64 (by rw [z0]; grind) (by rw [z0]; grind) (by rw [z0]; grind) (by rw [z0]; grind)
    rw [hlen, Nat.zero_add] at r1 r2
    obtain ⟨b, eb, -⟩ := id hr
    exact ⟨b, r, eb, by rw [← eb]; exact hr, r1, r2⟩
  obtain ⟨mb, mv, emb, hmb, mb1, mb2⟩ := pre xs.length (Nat.le_refl _)
  rw [List.take_length] at emb mb1 mb2
  rw [sum_div] at mb1 mb2
  have esum : (xs.map fun y => val y).sum = sumV xs := rfl
  rw [esum, ← ha, q43] at mb1 mb2
  have mba : -p2 (-37) ≤ mv - a ∧ mv - a ≤ p2 (-37) := by rw [q37]; constructor <;> grind
  obtain ⟨c, hc, c1, c2⟩ := tiny64
  have hwt := fun y (hy : y ∈ xs) => wT_vl (a := a) hx hn hn4 hmb a1 a2 mba.1 mba.2 hy
  have prw : ∀ (k : Nat), k ≤ xs.length → ∃ b r, foldO (wT mb nW) (some 4547007122018943789) (xs.take k) = some b ∧ Vl .f64 (some b) r ∧ c + ((xs.take k).map fun y => (val y - a) * (val y - a) / (xs.length : Rat)).sum - ((k : Nat) : Rat) * (p2 (-31) + p2 (-43)) ≤ r ∧ r ≤ c + ((xs.take k).map fun y => (val y - a) * (val y - a) / (xs.length : Rat)).sum + ((k : Nat) : Rat) * (p2 (-31) + p2 (-43)) := by
    intro k hk
    have hlen : (xs.take k).length = k := by rw [List.length_take]; omega
    obtain ⟨r, hr, r1, r2⟩ := fold_vl (t := wT mb nW) (g := fun y => (val y - a) * (val y - a) / (xs.length : Rat)) (ε := p2 (-31)) (by rw [q31]; decide +kernel) (by rw [q31]; decide +kernel) (xs.take k) (some 4547007122018943789) c c 0 (fun y hy => hwt y (List.mem_of_mem_take hy)) (by omega) hc (by rw [z0]; grind) (by rw [z0]; grind) (by rw [z0]; grind) (by rw [z0]; grind)
    rw [hlen, Nat.zero_add] at r1 r2
    obtain ⟨b, eb, -⟩ := id hr
    exact ⟨b, r, eb, by rw [← eb]; exact hr, r1, r2⟩
  obtain ⟨wb, wv, ewb, hwb, wb1, wb2⟩ := prw xs.length (Nat.le_refl _)
  rw [List.take_length] at ewb wb1 wb2
  rw [sum_div] at wb1 wb2
  have esum2 : (xs.map fun y => (val y - a) * (val y - a)).sum = sumS a xs := rfl
  rw [esum2, q31, q43] at wb1 wb2
  obtain ⟨V, hV⟩ : ∃ V, V = q - a * a := ⟨_, rfl⟩
  have eS' : sumS a xs = V * (xs.length : Rat) := by rw [sumS_eq a xs, ← ea, ← eq', hV]; grind
  have eVq : sumS a xs / (xs.length : Rat) = V := by rw [eS', Rat.mul_div_cancel hne]
  rw [eVq] at wb1 wb2
  rw [← hV] at S1 S2
  have V0 : 0 ≤ V := by
    obtain ⟨y, hy⟩ := get_of_lt (xs := xs) (k := 0) (by omega)
    have h1 := sumS_ge a (List.mem_of_getElem? hy)
    have h2 : 0 ≤ (val y - a) * (val y - a) := by
      by_cases hp : 0 ≤ val y - a
      · exact Rat.mul_nonneg hp hp
      · have := Rat.mul_nonneg (a := -(val y - a)) (b := -(val y - a)) (by grind) (by grind)
        grind
    refine Rat.le_of_mul_le_mul_right (c := (xs.length : Rat)) ?_ hn0
    rw [← eS']
    grind
  have aa0 : 0 ≤ a * a := by
    by_cases hp : 0 ≤ a
    · exact Rat.mul_nonneg hp hp
    · have := Rat.mul_nonneg (a := -a) (b := -a) (by grind) (by grind)
      grind
  have q16 : q ≤ 16 := Rat.le_of_mul_le_mul_right (c := (xs.length : Rat)) (by rw [eq']; exact Q2) hn0
  have V16 : V ≤ 16 := by grind
  obtain ⟨g2, k2, eg2, hg2, -, kg2⟩ := gap64 (upW hM) hmb (D := 1 / 1000000) (by rw [q22] at M1; rw [q37] at mba; grind) (by rw [q22] at M2; rw [q37] at mba; grind) (by decide +kernel)
  obtain ⟨ce, hce, ce1, ce2⟩ := cent64
  have ss := mul_bd (a := σ) (A := 5) (by grind) hs2 (b := σ) (B := 5) (by grind) hs2
  obtain ⟨pw, kp, epw, hpw, kp1, kp2⟩ := m64 (upW hS) (upW hS) (by grind) (by grind)
  rw [q43] at kp1 kp2 kg2
  obtain ⟨D, hD⟩ : ∃ D, D = (1 + V) / 2000 + 1 / 10000000 := ⟨_, rfl⟩
  obtain ⟨g3, k3, eg3, hg3, -, kg3⟩ := gap64 hpw hwb (D := D) (by grind) (by grind) (by grind)
  obtain ⟨h1, k4, eh1, hh1, kh1, kh2⟩ := a64 one64 hwb (by grind) (by grind)
  rw [q43] at kh1 kh2 kg3
  have cm := mul_bd (a := ce) (A := 1) (by grind) (by grind) (b := k4) (B := 20) (by grind) (by grind)
  have cm2 := Rat.mul_le_mul_of_nonneg_right ce1 (show 0 ≤ k4 by grind)
  obtain ⟨h2, k5, eh2, hh2, kh3, kh4⟩ := m64 hce hh1 (by grind) (by grind)
  rw [q43] at kh3 kh4
  refine ⟨w, M, S, mb, wb, g2, pw, g3, h1, h2, hfo, hfr, abs_vl hw, abs_vl hM, abs_vl hS, nanX hM, nanX hS, fun y hy => nanX (halves_bd hx hy).1, ?_, emb, ?_, ewb, eg2, ngtX hg2 hce (by grind), epw, eg3, eh1, eh2, ngtX hg3 hh2 (by grind)⟩
  · intro k y hy
    have hk := lt_of_get hy
    obtain ⟨b, r, eb, -⟩ := pre k (by omega)
    obtain ⟨b', r', eb', -⟩ := pre (k + 1) (by omega)
    obtain ⟨t, ht, -⟩ := mT_vl hx hn hn4 (List.mem_of_getElem? hy)
    obtain ⟨q, eqq, -⟩ := id ht
    have hst := foldO_snoc (t := mT nW) (d := some 0) hy
    rw [eb, eb', eqq] at hst
    exact ⟨b, q, b', eb, eqq, hst.symm, eb'⟩
  · intro k y hy
    have hk := lt_of_get hy
    obtain ⟨b, r, eb, -⟩ := prw k (by omega)
    obtain ⟨b', r', eb', -⟩ := prw (k + 1) (by omega)
    obtain ⟨t, ht, -⟩ := hwt y (List.mem_of_getElem? hy)
    obtain ⟨q, eqq, -⟩ := id ht
    have hst := foldO_snoc (t := wT mb nW) (d := some 4547007122018943789) hy
    rw [eb, eb', eqq] at hst
    obtain ⟨hv', v1', v2'⟩ := halves_bd hx (List.mem_of_getElem? hy)
    rw [q37] at mba
    obtain ⟨d, dv, ed, hd, d1, d2, -⟩ := s64 (upW hv') hmb (by grind) (by grind)
    rw [q43] at d1 d2
    have dd := mul_bd (a := dv) (A := 9) (by grind) (by grind) (b := dv) (B := 9) (by grind) (by grind)
    obtain ⟨p, pv, ep, -⟩ := m64 hd hd (by grind) (by grind)
    have e3 : wT mb nW y = floatBits .quo .f64 p nW := by
      show opF .quo .f64 (opF .mul .f64 (floatBits .sub .f64 (upBits y) mb) (floatBits .sub .f64 (upBits y) mb)) (some nW) = _
      rw [ed]
      show opF .quo .f64 (floatBits .mul .f64 d d) (some nW) = _
      rw [ep]
      rfl
    rw [e3] at eqq
    exact ⟨b, d, p, q, b', eb, ed, ep, eqq, hst.symm, eb'⟩
/-! ### two parts -/
theorem two_mix : mixB [1056964608, 1056964608] [3221225472, 1073741824] [1065353216, 1065353216] = true := by decide +kernel
theorem two_facts {xs : List Nat} (hx : Halves xs) (n4 : 4 ≤ xs.length) (n15 : xs.length ≤ 15) {r : Int} (hok : fitOk [1056964608, 1056964608] [3221225472, 1073741824] [1065353216, 1065353216] xs r = true) :
    ∃ W0 W1 N0 N1 S0 S1 sw g, fitR [1056964608, 1056964608] [3221225472, 1073741824] [1065353216, 1065353216] xs r = ([W0, W1], [N0, N1], [S0, S1]) ∧ absF .f32 W0 = some W0 ∧ absF .f32 W1 = some W1 ∧ absF .f32 N0 = some N0 ∧ absF .f32 N1 = some N1 ∧ absF .f32 S0 = some S0 ∧ absF .f32 S1 = some S1 ∧
      mixB [W0, W1] [N0, N1] [S0, S1] = true ∧ (FloatKind.f32.decode W0).isNaN = false ∧ (FloatKind.f32.decode W1).isNaN = false ∧ floatBits .add .f64 (upBits W0) (upBits W1) = some sw ∧ gapW sw 4607182418800017408 = some g ∧ (FloatKind.f64.format.order g 4562254508917369340 == some .gt) = false ∧
      ∀ N ∈ [N0, N1], (FloatKind.f32.format.order N 3229635052 == some .lt) = false ∧ (FloatKind.f32.format.order N 1082151404 == some .gt) = false := by
  have q43 : p2 (-43) = 1 / 8796093022208 := by have : p2 (-43) * 8796093022208 = 1 := p2m 43; grind
  have hr : fitR [1056964608, 1056964608] [3221225472, 1073741824] [1065353216, 1065353216] xs r = (fitN xs r.toNat [1056964608, 1056964608] [3221225472, 1073741824] [1065353216, 1065353216]).getD ([], [], []) := by unfold fitR; rw [if_pos hok]
  have hso : (fitN xs r.toNat [1056964608, 1056964608] [3221225472, 1073741824] [1065353216, 1065353216]).isSome = true := by
    unfold fitOk at hok
    rw [Bool.and_eq_true] at hok
    exact hok.2
  cases hf : fitN xs r.toNat [1056964608, 1056964608] [3221225472, 1073741824] [1065353216, 1065353216] with
  | none => rw [hf] at hso; cases hso
  | some t =>
    obtain ⟨z0, z1, z2⟩ := t
    obtain ⟨hT, hM⟩ := two_fit hx n4 n15 _ _ _ _ _ _ _ two_start two_mix hf
    obtain ⟨W0, W1, N0, N1, S0, S1, rfl, rfl, rfl, hp, hq⟩ := hT.p
    obtain ⟨u, v, hu, hv, huv⟩ := hT.wt W0 W1 rfl
    obtain ⟨u', hu', u0, u2⟩ := hp.w
    obtain ⟨v', hv', v0, v2⟩ := hq.w
    rw [hu'.uniq hu] at u0 u2
    rw [hv'.uniq hv] at v0 v2
    obtain ⟨m0, hm0, m1, m2⟩ := hp.m
    obtain ⟨n0, hn0, n1, n2⟩ := hq.m
    obtain ⟨s0, hs0, -⟩ := hp.s
    obtain ⟨s1, hs1, -⟩ := hq.s
    have hnear : nearA (sumF (absL [W0, W1])) = true := by
      unfold mixB at hM
      simp only [Bool.and_eq_true] at hM
      exact hM.1.2.2
    have hup := two_weights hu hv u0 v0 u2 v2 hnear
    obtain ⟨sw, k, esw, hsw, k1, k2⟩ := a64 (upW hu) (upW hv) (by grind) (by grind)
    rw [q43] at k1 k2
    obtain ⟨mi, hmi, mi1, mi2⟩ := milliX
    obtain ⟨g, k3, eg, hg, -, kg⟩ := gap64 hsw one64 (D := 99999 / 100000000) (by grind) (by grind) (by decide +kernel)
    rw [q43] at kg
    obtain ⟨f4, hf4, hf4'⟩ := four32
    obtain ⟨e4, he4, he4'⟩ := mfour32
    refine ⟨W0, W1, N0, N1, S0, S1, sw, g, by rw [hr, hf]; rfl, abs_vl hu, abs_vl hv, abs_vl hm0, abs_vl hn0, abs_vl hs0, abs_vl hs1, hM, nanX hu, nanX hv, esw, eg, ngtX hg hmi (by grind), fun N hN => ?_⟩
    rcases List.mem_cons.1 hN with rfl | hN
    · exact ⟨nltX hm0 he4 (by grind), ngtX hm0 hf4 (by grind)⟩
    · rw [List.mem_singleton] at hN
      subst hN
      exact ⟨nltX hn0 he4 (by grind), ngtX hn0 hf4 (by grind)⟩
end Go.Proofs.Ytimpabceellihaa
