/-
  Gaps of numbers in 64 bits, nearly; words of results.
-/
import Derived.Test.YtjajlddnhmbekaaMom
import Derived.Test.YtjajlddnhmbekaaB10A
namespace Go.Proofs.Ytjajlddnhmbekaa
open Go.RowKit

theorem vl_ord {k : FloatKind} {a b : Nat} {u v : Rat} (ha : Vl k (some a) u) (hb : Vl k (some b) v) : (k.format.order a b = some .lt ↔ u < v) ∧ (k.format.order a b = some .gt ↔ v < u) ∧ (k.format.order a b = some .eq ↔ u = v) := by
  obtain ⟨a', e, ha⟩ := ha
  cases e
  obtain ⟨b', e, hb⟩ := hb
  cases e
  obtain ⟨s, m, p, ea, a1, a2⟩ := ha.read
  obtain ⟨t, n, q, eb, b1, b2⟩ := hb.read
  have e1 : vD (.number s m p) = u := Rat.le_antisymm a2 a1
  have e2 : vD (.number t n q) = v := Rat.le_antisymm b2 b1
  unfold Ieee.Format.order
  rw [ea, eb, ← e1, ← e2]
  exact order_cmp _ _ _ _ _ _
theorem vl_nan {k : FloatKind} {a : Nat} {u : Rat} (ha : Vl k (some a) u) : (k.decode a).isNaN = false := by
  obtain ⟨a', e, ha⟩ := ha
  cases e
  obtain ⟨s, m, p, ea, -, -⟩ := ha.read
  have ea' : k.decode a = .number s m p := ea
  rw [ea']; rfl
/-- In 64 bits. -/
theorem add64 {a b : Nat} {u v : Rat} (ha : Vl .f64 (some a) u) (hb : Vl .f64 (some b) v) (h1 : -1024 ≤ u + v) (h2 : u + v ≤ 1024) : ∃ s r, floatBits .add .f64 a b = some s ∧ Vl .f64 (some s) r ∧ u + v - p2 (-43) ≤ r ∧ r ≤ u + v + p2 (-43) := by
  have q : p2 10 = 1024 := p2_nat 10
  obtain ⟨r, hr, hn⟩ := vl_add ha hb (lo := -p2 10) (hi := p2 10) (rep_neg (rep64 (by omega) (by omega))) (rep64 (by omega) (by omega)) (by rw [q]; grind) (by rw [q]; grind)
  have he := hn.err (e := -43) (in64 (by omega) (by omega)) (by rw [gB64, show (-43 : Int) + 53 = 10 by omega, q]; grind) (by rw [gB64, show (-43 : Int) + 53 = 10 by omega, q]; grind)
  have hr' := hr
  obtain ⟨s, es, -⟩ := hr
  have e2 : floatBits .add .f64 a b = some s := es
  exact ⟨s, r, e2, by rw [← es]; exact hr', he.1, he.2⟩
theorem mul64 {a b : Nat} {u v : Rat} (ha : Vl .f64 (some a) u) (hb : Vl .f64 (some b) v) (h1 : -1024 ≤ u * v) (h2 : u * v ≤ 1024) : ∃ s r, floatBits .mul .f64 a b = some s ∧ Vl .f64 (some s) r ∧ u * v - p2 (-43) ≤ r ∧ r ≤ u * v + p2 (-43) := by
  have q : p2 10 = 1024 := p2_nat 10
  obtain ⟨r, hr, hn⟩ := vl_mul ha hb (lo := -p2 10) (hi := p2 10) (rep_neg (rep64 (by omega) (by omega))) (rep64 (by omega) (by omega)) (by rw [q]; grind) (by rw [q]; grind)
  have he := hn.err (e := -43) (in64 (by omega) (by omega)) (by rw [gB64, show (-43 : Int) + 53 = 10 by omega, q]; grind) (by rw [gB64, show (-43 : Int) + 53 = 10 by omega, q]; grind)
  have hr' := hr
  obtain ⟨s, es, -⟩ := hr
  have e2 : floatBits .mul .f64 a b = some s := es
  exact ⟨s, r, e2, by rw [← es]; exact hr', he.1, he.2⟩
theorem gap64 {a b : Nat} {u v : Rat} (ha : Vl .f64 (some a) u) (hb : Vl .f64 (some b) v) {D : Rat} (h1 : -D ≤ u - v) (h2 : u - v ≤ D) (hD : D ≤ 1024) : ∃ g r, gapW a b = some g ∧ Vl .f64 (some g) r ∧ 0 ≤ r ∧ r ≤ D + p2 (-43) := by
  have q : p2 10 = 1024 := p2_nat 10
  have key : ∀ {a b : Nat} {u v : Rat}, Vl .f64 (some a) u → Vl .f64 (some b) v → 0 ≤ u - v → u - v ≤ D → ∃ g r, floatBits .sub .f64 a b = some g ∧ Vl .f64 (some g) r ∧ 0 ≤ r ∧ r ≤ D + p2 (-43) := by
    intro a b u v ha hb h1 h2
    obtain ⟨r, hr, hn⟩ := vl_sub ha hb (lo := -p2 10) (hi := p2 10) (rep_neg (rep64 (by omega) (by omega))) (rep64 (by omega) (by omega)) (by rw [q]; grind) (by rw [q]; grind)
    have he := hn.err (e := -43) (in64 (by omega) (by omega)) (by rw [gB64, show (-43 : Int) + 53 = 10 by omega, q]; grind) (by rw [gB64, show (-43 : Int) + 53 = 10 by omega, q]; grind)
    have h0 := hn.1 0 rep0 h1
    have hr' := hr
    obtain ⟨s, es, -⟩ := hr
    have e2 : floatBits .sub .f64 a b = some s := es
    exact ⟨s, r, e2, by rw [← es]; exact hr', h0, by grind⟩
  unfold gapW
  by_cases h : u < v
  · rw [(vl_ord ha hb).1.2 h, if_pos (beq_self_eq_true _)]
    exact key hb ha (by grind) (by grind)
  · have : (FloatKind.f64.format.order a b == some .lt) = false := by
      cases e : (FloatKind.f64.format.order a b == some .lt) with
      | false => rfl
      | true => exact absurd ((vl_ord ha hb).1.1 (beq_iff_eq.1 e)) h
    rw [this, if_neg (by simp)]
    exact key ha hb (by grind) (by grind)
theorem ngt64 {g c : Nat} {r q : Rat} (hg : Vl .f64 (some g) r) (hc : Vl .f64 (some c) q) (h : r ≤ q) : (FloatKind.f64.format.order g c == some .gt) = false := by
  cases e : (FloatKind.f64.format.order g c == some .gt) with
  | false => rfl
  | true =>
    have := (vl_ord hg hc).2.1.1 (beq_iff_eq.1 e)
    grind
theorem lt64 {g c : Nat} {r q : Rat} (hg : Vl .f64 (some g) r) (hc : Vl .f64 (some c) q) (h : r < q) : (FloatKind.f64.format.order g c == some .lt) = true := by
  rw [(vl_ord hg hc).1.2 h]; rfl
/-- 0.01 and 0.05. -/
theorem cent_vl : ∃ q, Vl .f64 (some 4576918229304087675) q ∧ p2 (-7) < q := by
  refine ⟨_, vl_of (k := .f64) (b := 4576918229304087675) (s := false) (m := 5764607523034235) (p := -59) (by decide), ?_⟩
  show p2 (-7) < mg 5764607523034235 (-59)
  rw [← mg_one, show mg 1 (-7) = mg (1 * 2 ^ 52) (-59) by rw [← mg_up]; congr 1, mg_lt]
  decide
theorem five_vl : ∃ q, Vl .f64 (some 4587366580439587226) q ∧ p2 (-5) + p2 (-6) < q := by
  refine ⟨_, vl_of (k := .f64) (b := 4587366580439587226) (s := false) (m := 7205759403792794) (p := -57) (by decide), ?_⟩
  show p2 (-5) + p2 (-6) < mg 7205759403792794 (-57)
  have e1 : p2 (-5) = mg (1 * 2 ^ 52) (-57) := by rw [← mg_one, ← mg_up]; congr 1
  have e2 : p2 (-6) = mg (1 * 2 ^ 51) (-57) := by rw [← mg_one, ← mg_up]; congr 1
  rw [e1, e2]
  unfold mg
  rw [← Rat.add_mul]
  exact (Rat.mul_lt_mul_right (p2_pos (-57))).2 (by decide +kernel)
theorem write_lt (d : Ieee.Datum) : FloatKind.f32.format.write d < 4294967296 := by
  have hw : ∀ (s : Bool) (r : Nat), r < 2147483648 → FloatKind.f32.format.word s r < 4294967296 := by
    intro s r hr
    unfold Ieee.Format.word
    cases s
    · rw [if_neg (by simp)]; omega
    · rw [if_pos rfl]
      have : FloatKind.f32.format.signWeight = 2147483648 := by decide
      omega
  have hi : FloatKind.f32.format.infRung = 2139095040 := by decide
  have hb : FloatKind.f32.format.binade = 8388608 := by decide
  cases d with
  | number s m p =>
    obtain ⟨r, e, hr, -⟩ := near_sign .f32 s m p
    show FloatKind.f32.format.nearest s m p < 4294967296
    rw [e]
    exact hw s r (by omega)
  | infinity s => exact hw s _ (by omega)
  | nan s t =>
    refine hw s _ ?_
    have := Nat.mod_lt t (show 0 < FloatKind.f32.format.binade by rw [hb]; decide)
    omega
theorem opF_lt {op : BinOp} {x y : Option Nat} {r : Nat} (h : opF op .f32 x y = some r) : r < 4294967296 := by
  cases x with
  | none => cases h
  | some a =>
    cases y with
    | none => cases h
    | some b =>
      have h' : floatBits op .f32 a b = some r := h
      unfold floatBits at h'
      split at h'
      · obtain ⟨d, -, rfl⟩ := Option.map_eq_some_iff.1 h'; exact write_lt d
      · obtain ⟨d, -, rfl⟩ := Option.map_eq_some_iff.1 h'; exact write_lt d
      · obtain ⟨d, -, rfl⟩ := Option.map_eq_some_iff.1 h'; exact write_lt d
      · obtain ⟨d, -, rfl⟩ := Option.map_eq_some_iff.1 h'; exact write_lt d
      · cases h'
end Go.Proofs.Ytjajlddnhmbekaa
