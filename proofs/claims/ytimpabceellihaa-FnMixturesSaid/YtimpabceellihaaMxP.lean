/-
  What FnMixtures reckons holds.
-/
import Derived.Test.YtimpabceellihaaMxD
import Derived.Test.YtimpabceellihaaMxT
namespace Go.Proofs.Ytimpabceellihaa
open Go.RowKit

/-! ### 64 bits -/
theorem a64 {a b : Nat} {u v : Rat} (ha : Vl .f64 (some a) u) (hb : Vl .f64 (some b) v) (h1 : -1024 ≤ u + v) (h2 : u + v ≤ 1024) : ∃ s r, floatBits .add .f64 a b = some s ∧ Vl .f64 (some s) r ∧ u + v - p2 (-43) ≤ r ∧ r ≤ u + v + p2 (-43) := by
  have q : p2 10 = 1024 := p2_nat 10
  obtain ⟨r, hr, hn⟩ := vl_add ha hb (lo := -p2 10) (hi := p2 10) (rep_neg (rep64 (by omega) (by omega))) (rep64 (by omega) (by omega)) (by rw [q]; grind) (by rw [q]; grind)
  have he := hn.err (e := -43) (in64 (by omega) (by omega)) (by rw [gB64, show (-43 : Int) + 53 = 10 by omega, q]; grind) (by rw [gB64, show (-43 : Int) + 53 = 10 by omega, q]; grind)
  obtain ⟨s, es, -⟩ := id hr
  have e2 : floatBits .add .f64 a b = some s := es
  exact ⟨s, r, e2, by rw [← es]; exact hr, he.1, he.2⟩
theorem s64 {a b : Nat} {u v : Rat} (ha : Vl .f64 (some a) u) (hb : Vl .f64 (some b) v) (h1 : -1024 ≤ u - v) (h2 : u - v ≤ 1024) : ∃ s r, floatBits .sub .f64 a b = some s ∧ Vl .f64 (some s) r ∧ u - v - p2 (-43) ≤ r ∧ r ≤ u - v + p2 (-43) ∧ (0 ≤ u - v → 0 ≤ r) := by
  have q : p2 10 = 1024 := p2_nat 10
  obtain ⟨r, hr, hn⟩ := vl_sub ha hb (lo := -p2 10) (hi := p2 10) (rep_neg (rep64 (by omega) (by omega))) (rep64 (by omega) (by omega)) (by rw [q]; grind) (by rw [q]; grind)
  have he := hn.err (e := -43) (in64 (by omega) (by omega)) (by rw [gB64, show (-43 : Int) + 53 = 10 by omega, q]; grind) (by rw [gB64, show (-43 : Int) + 53 = 10 by omega, q]; grind)
  obtain ⟨s, es, -⟩ := id hr
  have e2 : floatBits .sub .f64 a b = some s := es
  exact ⟨s, r, e2, by rw [← es]; exact hr, he.1, he.2, fun h => hn.1 0 rep0 h⟩
theorem m64 {a b : Nat} {u v : Rat} (ha : Vl .f64 (some a) u) (hb : Vl .f64 (some b) v) (h1 : -1024 ≤ u * v) (h2 : u * v ≤ 1024) : ∃ s r, floatBits .mul .f64 a b = some s ∧ Vl .f64 (some s) r ∧ u * v - p2 (-43) ≤ r ∧ r ≤ u * v + p2 (-43) := by
  have q : p2 10 = 1024 := p2_nat 10
  obtain ⟨r, hr, hn⟩ := vl_mul ha hb (lo := -p2 10) (hi := p2 10) (rep_neg (rep64 (by omega) (by omega))) (rep64 (by omega) (by omega)) (by rw [q]; grind) (by rw [q]; grind)
  have he := hn.err (e := -43) (in64 (by omega) (by omega)) (by rw [gB64, show (-43 : Int) + 53 = 10 by omega, q]; grind) (by rw [gB64, show (-43 : Int) + 53 = 10 by omega, q]; grind)
  obtain ⟨s, es, -⟩ := id hr
  have e2 : floatBits .mul .f64 a b = some s := es
  exact ⟨s, r, e2, by rw [← es]; exact hr, he.1, he.2⟩
theorem d64 {a b : Nat} {u v : Rat} (ha : Vl .f64 (some a) u) (hb : Vl .f64 (some b) v) (hv : 0 < v) (h1 : -1024 ≤ u / v) (h2 : u / v ≤ 1024) : ∃ s r, floatBits .quo .f64 a b = some s ∧ Vl .f64 (some s) r ∧ u / v - p2 (-43) ≤ r ∧ r ≤ u / v + p2 (-43) := by
  have q : p2 10 = 1024 := p2_nat 10
  obtain ⟨r, hr, hn⟩ := vl_quo ha hb hv (lo := -p2 10) (hi := p2 10) (rep_neg (rep64 (by omega) (by omega))) (rep64 (by omega) (by omega)) (by rw [q]; grind) (by rw [q]; grind)
  have he := hn.err (e := -43) (in64 (by omega) (by omega)) (by rw [gB64, show (-43 : Int) + 53 = 10 by omega, q]; grind) (by rw [gB64, show (-43 : Int) + 53 = 10 by omega, q]; grind)
  obtain ⟨s, es, -⟩ := id hr
  have e2 : floatBits .quo .f64 a b = some s := es
  exact ⟨s, r, e2, by rw [← es]; exact hr, he.1, he.2⟩
theorem gap64 {a b : Nat} {u v : Rat} (ha : Vl .f64 (some a) u) (hb : Vl .f64 (some b) v) {D : Rat} (h1 : -D ≤ u - v) (h2 : u - v ≤ D) (hD : D ≤ 1024) : ∃ g r, gapW a b = some g ∧ Vl .f64 (some g) r ∧ 0 ≤ r ∧ r ≤ D + p2 (-43) := by
  have key : ∀ {a b : Nat} {u v : Rat}, Vl .f64 (some a) u → Vl .f64 (some b) v → 0 ≤ u - v → u - v ≤ D → ∃ g r, floatBits .sub .f64 a b = some g ∧ Vl .f64 (some g) r ∧ 0 ≤ r ∧ r ≤ D + p2 (-43) := by
    intro a b u v ha hb h1 h2
    obtain ⟨s, r, es, hs, r1, r2, r3⟩ := s64 ha hb (by grind) (by grind)
    exact ⟨s, r, es, hs, r3 h1, by grind⟩
  unfold gapW
  by_cases h : u < v
  · rw [(vl_ordX ha hb).1.2 h, if_pos (beq_self_eq_true _)]
    exact key hb ha (by grind) (by grind)
  · have : (FloatKind.f64.format.order a b == some .lt) = false := by
      cases e : (FloatKind.f64.format.order a b == some .lt) with
      | false => rfl
      | true => exact absurd ((vl_ordX ha hb).1.1 (beq_iff_eq.1 e)) h
    rw [this, if_neg (by simp)]
    exact key ha hb (by grind) (by grind)
theorem ngtX {k : FloatKind} {g c : Nat} {r q : Rat} (hg : Vl k (some g) r) (hc : Vl k (some c) q) (h : r ≤ q) : (k.format.order g c == some .gt) = false := by
  cases e : (k.format.order g c == some .gt) with
  | false => rfl
  | true =>
    have := (vl_ordX hg hc).2.1.1 (beq_iff_eq.1 e)
    grind
theorem nltX {k : FloatKind} {g c : Nat} {r q : Rat} (hg : Vl k (some g) r) (hc : Vl k (some c) q) (h : q ≤ r) : (k.format.order g c == some .lt) = false := by
  cases e : (k.format.order g c == some .lt) with
  | false => rfl
  | true =>
    have := (vl_ordX hg hc).1.1 (beq_iff_eq.1 e)
    grind
theorem nanX {k : FloatKind} {a : Nat} {u : Rat} (ha : Vl k (some a) u) : (k.decode a).isNaN = false := by
  obtain ⟨a', e, ha⟩ := ha
  cases e
  obtain ⟨s, m, p, ea, -, -⟩ := ha.read
  have ea' : k.decode a = .number s m p := ea
  rw [ea']; rfl
theorem upW {b : Nat} {q : Rat} (h : Vl .f32 (some b) q) : Vl .f64 (some (upBits b)) q := vl_up h
theorem cent64 : ∃ q, Vl .f64 (some 4576918229304087675) q ∧ 99 / 10000 ≤ q ∧ q ≤ 101 / 10000 := by
  have h : p2 (-59) * 576460752303423488 = 1 := p2m 59
  refine ⟨_, vl_of (k := .f64) (b := 4576918229304087675) (s := false) (m := 5764607523034235) (p := -59) (by decide), ?_, ?_⟩
  · show _ ≤ (5764607523034235 : Rat) * p2 (-59)
    grind
  · show (5764607523034235 : Rat) * p2 (-59) ≤ _
    grind
theorem milliX : ∃ q, Vl .f64 (some 4562254508917369340) q ∧ 999999 / 1000000000 ≤ q ∧ 9999999 / 10000000000 ≤ q := by
  have h : p2 (-62) * 4611686018427387904 = 1 := p2m 62
  refine ⟨_, vl_of (k := .f64) (b := 4562254508917369340) (s := false) (m := 4611686018427388) (p := -62) (by decide), ?_, ?_⟩
  · show _ ≤ (4611686018427388 : Rat) * p2 (-62)
    grind
  · show _ ≤ (4611686018427388 : Rat) * p2 (-62)
    grind
theorem tiny64 : ∃ q, Vl .f64 (some 4547007122018943789) q ∧ 1 / 10000 - 1 / 1000000000 ≤ q ∧ q ≤ 1 / 10000 + 1 / 1000000000 := by
  have h : p2 (-66) * 73786976294838206464 = 1 := p2m 66
  refine ⟨_, vl_of (k := .f64) (b := 4547007122018943789) (s := false) (m := 7378697629483821) (p := -66) (by decide), ?_, ?_⟩
  · show _ ≤ (7378697629483821 : Rat) * p2 (-66)
    grind
  · show (7378697629483821 : Rat) * p2 (-66) ≤ _
    grind
theorem four32 : ∃ q, Vl .f32 (some 1082151404) q ∧ 4097 / 1024 ≤ q := by
  have h : p2 (-21) * 2097152 = 1 := p2m 21
  refine ⟨_, vl_of (k := .f32) (b := 1082151404) (s := false) (m := 8409580) (p := -21) (by decide), ?_⟩
  show _ ≤ (8409580 : Rat) * p2 (-21)
  grind
theorem mfour32 : ∃ q, Vl .f32 (some 3229635052) q ∧ q ≤ -(4097 / 1024) := by
  have h : p2 (-21) * 2097152 = 1 := p2m 21
  refine ⟨_, vl_of (k := .f32) (b := 3229635052) (s := true) (m := 8409580) (p := -21) (by decide), ?_⟩
  show -((8409580 : Rat) * p2 (-21)) ≤ _
  grind
theorem zero64 : Vl .f64 (some 0) 0 := by
  have := vl_of (k := .f64) (b := 0) (s := false) (m := 0) (p := -1074) (by decide)
  rwa [show vD (.number false 0 (-1074)) = 0 from mg_zero _] at this

/-! ### the mean and the spread in 64 bits -/
/-- What is added of a number to the mean, to the spread. -/
def mT (nW y : Nat) : Option Nat := opF .quo .f64 (some (upBits y)) (some nW)
def wT (mW nW y : Nat) : Option Nat := opF .quo .f64 (opF .mul .f64 (opF .sub .f64 (some (upBits y)) (some mW)) (opF .sub .f64 (some (upBits y)) (some mW))) (some nW)
def foldO (t : Nat → Option Nat) (d : Option Nat) (l : List Nat) : Option Nat := l.foldl (fun s y => opF .add .f64 s (t y)) d
theorem foldO_snoc {t : Nat → Option Nat} {d : Option Nat} {xs : List Nat} {k y : Nat} (h : xs[k]? = some y) : foldO t d (xs.take (k + 1)) = opF .add .f64 (foldO t d (xs.take k)) (t y) := by
  unfold foldO
  rw [take_snoc h, List.foldl_append]
  rfl
theorem fold_vl {t : Nat → Option Nat} {g : Nat → Rat} {ε : Rat} (he0 : 0 ≤ ε) (he : ε ≤ 1) : ∀ (l : List Nat) (d : Option Nat) (s t0 : Rat) (c : Nat), (∀ y ∈ l, ∃ q, Vl .f64 (t y) q ∧ g y - ε ≤ q ∧ q ≤ g y + ε ∧ -32 ≤ g y ∧ g y ≤ 32) → c + l.length ≤ 15 → Vl .f64 d s → t0 - (c : Rat) * (ε + p2 (-43)) ≤ s → s ≤ t0 + (c : Rat) * (ε + p2 (-43)) → -(32 * ((c : Rat) + 1)) ≤ t0 → t0 ≤ 32 * ((c : Rat) + 1) →
    ∃ r, Vl .f64 (foldO t d l) r ∧ t0 + (l.map g).sum - ((c + l.length : Nat) : Rat) * (ε + p2 (-43)) ≤ r ∧ r ≤ t0 + (l.map g).sum + ((c + l.length : Nat) : Rat) * (ε + p2 (-43))
  | [], d, s, t0, c, _, _, hd, h1, h2, _, _ => ⟨s, hd, by show t0 + 0 - _ ≤ s; rw [List.length_nil, Nat.add_zero]; grind, by show s ≤ t0 + 0 + _; rw [List.length_nil, Nat.add_zero]; grind⟩
  | y :: l, d, s, t0, c, h, hk, hd, h1, h2, h3, h4 => by
    rw [List.length_cons] at hk
    have q43 : p2 (-43) * 8796093022208 = 1 := p2m 43
    obtain ⟨q, hq, q1, q2, g1, g2⟩ := h y (by simp)
    have hc15 : ((c + 1 : Nat) : Rat) ≤ 15 := Rat.natCast_le_natCast.2 (show c + 1 ≤ 15 by omega)
    have ec : ((c + 1 : Nat) : Rat) = (c : Rat) + 1 := Rat.natCast_add _ _
    rw [ec] at hc15
    have hc0 : (0 : Rat) ≤ (c : Rat) := Rat.natCast_nonneg
    have hce := mul_bd (a := (c : Rat)) (A := 15) (by grind) (by grind) (b := ε + p2 (-43)) (B := 2) (by grind) (by grind)
    obtain ⟨sw, esw, -⟩ := id hd
    obtain ⟨qw, eqw, -⟩ := id hq
    rw [esw] at hd
    rw [eqw] at hq
    obtain ⟨r, rr, er, hr, r1, r2⟩ := a64 hd hq (by grind) (by grind)
    obtain ⟨R, hR, R1, R2⟩ := fold_vl he0 he l (some r) rr (t0 + g y) (c + 1) (fun x hx => h x (by simp [hx])) (by omega) hr (by rw [ec]; grind) (by rw [ec]; grind) (by rw [ec]; grind) (by rw [ec]; grind)
    have es : ((y :: l).map g).sum = g y + (l.map g).sum := by simp
    rw [es, List.length_cons, show c + (l.length + 1) = c + 1 + l.length by omega]
    refine ⟨R, ?_, by grind, by grind⟩
    have : foldO t d (y :: l) = foldO t (some r) l := by
      show foldO t (opF .add .f64 d (t y)) l = _
      rw [esw, eqw]
      show foldO t (floatBits .add .f64 sw qw) l = _
      rw [er]
    rw [this]
    exact hR
theorem halves_bd {xs : List Nat} (hx : Halves xs) {y : Nat} (hy : y ∈ xs) : Vl .f32 (some y) (val y) ∧ -4 ≤ val y ∧ val y ≤ 4 := by
  obtain ⟨fy, z, z1, z2, vy⟩ := hx y hy
  refine ⟨fin_vl fy, ?_⟩
  rw [vy]
  have a : (-8 : Rat) ≤ (z : Rat) := Rat.intCast_le_intCast.2 z1
  have b : (z : Rat) ≤ 8 := Rat.intCast_le_intCast.2 z2
  constructor <;> grind
theorem div_bd {u v b : Rat} (hv : 0 < v) (h1 : -b * v ≤ u) (h2 : u ≤ b * v) : -b ≤ u / v ∧ u / v ≤ b := by
  have e : u / v * v = u := Rat.div_mul_cancel (by grind)
  exact ⟨Rat.le_of_mul_le_mul_right (c := v) (by rw [e]; exact h1) hv, Rat.le_of_mul_le_mul_right (c := v) (by rw [e]; exact h2) hv⟩
theorem sum_div (n : Rat) (f : Nat → Rat) : ∀ l : List Nat, (l.map fun y => f y / n).sum = (l.map f).sum / n
  | [] => by show (0 : Rat) = 0 / n; grind
  | y :: l => by
    have e1 : ((y :: l).map fun y => f y / n).sum = f y / n + (l.map fun y => f y / n).sum := by simp
    have e2 : ((y :: l).map f).sum = f y + (l.map f).sum := by simp
    rw [e1, e2, sum_div n f l]
    grind
section
variable {xs : List Nat} {nW mW : Nat} {n : Rat}
theorem mT_vl (hx : Halves xs) (hn : Vl .f64 (some nW) n) (n4 : 4 ≤ n) {y : Nat} (hy : y ∈ xs) : ∃ q, Vl .f64 (mT nW y) q ∧ val y / n - p2 (-43) ≤ q ∧ q ≤ val y / n + p2 (-43) ∧ -32 ≤ val y / n ∧ val y / n ≤ 32 := by
  obtain ⟨hv, v1, v2⟩ := halves_bd hx hy
  obtain ⟨b1, b2⟩ := div_bd (u := val y) (v := n) (b := 1) (by grind) (by grind) (by grind)
  obtain ⟨s, r, es, hs, r1, r2⟩ := d64 (upW hv) hn (by grind) (by grind) (by grind)
  refine ⟨r, ?_, r1, r2, by grind, by grind⟩
  show Vl .f64 (floatBits .quo .f64 (upBits y) nW) r
  rw [es]; exact hs
theorem wT_vl {μ a : Rat} (hx : Halves xs) (hn : Vl .f64 (some nW) n) (n4 : 4 ≤ n) (hm : Vl .f64 (some mW) μ) (a1 : -4 ≤ a) (a2 : a ≤ 4) (ma1 : -p2 (-37) ≤ μ - a) (ma2 : μ - a ≤ p2 (-37)) {y : Nat} (hy : y ∈ xs) :
    ∃ q, Vl .f64 (wT mW nW y) q ∧ (val y - a) * (val y - a) / n - p2 (-31) ≤ q ∧ q ≤ (val y - a) * (val y - a) / n + p2 (-31) ∧ -32 ≤ (val y - a) * (val y - a) / n ∧ (val y - a) * (val y - a) / n ≤ 32 := by
  have q43 : p2 (-43) * 8796093022208 = 1 := p2m 43
  have q37 : p2 (-37) * 137438953472 = 1 := p2m 37
  have q33 : p2 (-31) * 2147483648 = 1 := p2m 31
  have e43 : p2 (-43) = 1 / 8796093022208 := by grind
  have e37 : p2 (-37) = 1 / 137438953472 := by grind
  have e33 : p2 (-31) = 1 / 2147483648 := by grind
  obtain ⟨hv, v1, v2⟩ := halves_bd hx hy
  obtain ⟨d, dv, ed, hd, d1, d2, -⟩ := s64 (upW hv) hm (by grind) (by grind)
  rw [e37] at ma1 ma2
  rw [e43] at d1 d2
  have db : -9 ≤ dv ∧ dv ≤ 9 := by constructor <;> grind
  have dd := mul_bd (a := dv) (A := 9) db.1 db.2 (b := dv) (B := 9) db.1 db.2
  obtain ⟨p, pv, ep, hp, p1, p2'⟩ := m64 hd hd (by grind) (by grind)
  rw [e43] at p1 p2'
  obtain ⟨t, ht⟩ : ∃ t, t = val y - a := ⟨_, rfl⟩
  have tb : -8 ≤ t ∧ t ≤ 8 := by constructor <;> grind
  have tt := mul_bd (a := t) (A := 8) tb.1 tb.2 (b := t) (B := 8) tb.1 tb.2
  have dif := mul_bd (a := dv - t) (A := 2 / 137438953472) (by grind) (by grind) (b := dv + t) (B := 17) (by grind) (by grind)
  have hpt : pv - t * t ≤ 35 / 137438953472 ∧ -(35 / 137438953472) ≤ pv - t * t := by
    have : dv * dv - t * t = (dv - t) * (dv + t) := by grind
    constructor <;> grind
  rw [← ht]
  obtain ⟨b1, b2⟩ := div_bd (u := pv) (v := n) (b := 32) (by grind) (by grind) (by grind)
  obtain ⟨c1, c2⟩ := div_bd (u := t * t) (v := n) (b := 32) (by grind) (by grind) (by grind)
  obtain ⟨e1, e2⟩ := div_bd (u := pv - t * t) (v := n) (b := 35 / 137438953472) (by grind) (by grind) (by grind)
  obtain ⟨s, r, es, hs, r1, r2⟩ := d64 hp hn (by grind) (by grind) (by grind)
  rw [e43] at r1 r2
  have esplit : (pv - t * t) / n = pv / n - t * t / n := by grind
  rw [esplit] at e1 e2
  refine ⟨r, ?_, by rw [e33]; grind, by rw [e33]; grind, c1, c2⟩
  show Vl .f64 (opF .quo .f64 (opF .mul .f64 (floatBits .sub .f64 (upBits y) mW) (floatBits .sub .f64 (upBits y) mW)) (some nW)) r
  rw [ed]
  show Vl .f64 (opF .quo .f64 (floatBits .mul .f64 d d) (some nW)) r
  rw [ep]
  show Vl .f64 (floatBits .quo .f64 p nW) r
  rw [es]; exact hs
end
end Go.Proofs.Ytimpabceellihaa
