/-
  Chances below a number, nearly.
  Quantiles, nearly: the chance up to a quantile is its part.
-/
import Derived.Test.YtjajlddnhmbekaaGreatMom
import Derived.Test.YtjajlddnhmbekaaGreatQuant
import Derived.Test.YtjajlddnhmbekaaGreatApV
import Derived.Test.YtjajlddnhmbekaaGreatShM
namespace Go.Proofs.YtjajlddnhmbekaaGreat
section
open Go.RowKit

/-- 1 for what is at most q, else 0. -/
def ind (q v : Rat) : Rat := if v ≤ q then 1 else 0
theorem leB_val' {x t : Nat} (hx : finB x = true) (ht : finB t = true) : leB x t = decide (val x ≤ val t) := by
  have := le_val hx ht
  unfold leX at this
  unfold leB ord32
  rw [Bool.eq_iff_iff, decide_eq_true_iff, ← this]
theorem below_fold {t : Nat} (ht : finB t = true) : ∀ (G : List (Nat × Option Nat)) (d : Option Nat), OkC d → (∀ p ∈ G, OkC p.2 ∧ finB p.1 = true) → wo d + Ph one G + (G.length : Rat) * p2 (-23) ≤ 2 →
    OkC (G.foldl (fun s p => if leB p.1 t then opF .add .f32 s p.2 else s) d) ∧ wo d + Ph (ind (val t)) G - (G.length : Rat) * p2 (-23) ≤ wo (G.foldl (fun s p => if leB p.1 t then opF .add .f32 s p.2 else s) d) ∧ wo (G.foldl (fun s p => if leB p.1 t then opF .add .f32 s p.2 else s) d) ≤ wo d + Ph (ind (val t)) G + (G.length : Rat) * p2 (-23)
  | [], d, hd, _, _ => by
    have : ((([] : List (Nat × Option Nat)).length : Nat) : Rat) = 0 := rfl
    rw [this, ph_nil]
    refine ⟨hd, ?_, ?_⟩
    · show wo d + 0 - 0 * _ ≤ wo d; grind
    · show wo d ≤ wo d + 0 + 0 * _; grind
  | p :: G, d, hd, hG, h => by
    obtain ⟨hp, fp⟩ := hG p (by simp)
    have hG' : ∀ q ∈ G, OkC q.2 ∧ finB q.1 = true := fun q hq => hG q (by simp [hq])
    have hn := ph_nn (s := G) (fun q hq => (hG' q hq).1)
    have e : Ph one (p :: G) = 1 * wo p.2 + Ph one G := ph_cons _ _ _
    have hlen : (((p :: G).length : Nat) : Rat) = (G.length : Rat) + 1 := by rw [List.length_cons]; exact Rat.natCast_add _ _
    rw [e, hlen] at h
    rw [hlen, ph_cons]
    have hp0 := hp.2
    have h23 := p2_pos (-23)
    have hL := Rat.mul_nonneg (Rat.natCast_nonneg (a := G.length)) (Rat.le_of_lt h23)
    rw [List.foldl_cons, leB_val' fp ht]
    by_cases hv : val p.1 ≤ val t
    · rw [decide_eq_true hv, if_pos rfl]
      obtain ⟨a1, a2, a3⟩ := add_ok hd hp (by grind)
      obtain ⟨b1, b2, b3⟩ := below_fold ht G (opF .add .f32 d p.2) a1 hG' (by grind)
      have ei : ind (val t) (val p.1) = 1 := if_pos hv
      rw [ei]
      exact ⟨b1, by grind, by grind⟩
    · rw [decide_eq_false hv, if_neg (by simp)]
      obtain ⟨b1, b2, b3⟩ := below_fold ht G d hd hG' (by grind)
      have ei : ind (val t) (val p.1) = 0 := if_neg hv
      rw [ei]
      exact ⟨b1, by grind, by grind⟩
theorem GSh.below {G : List (Nat × Option Nat)} {x0 x1 : List Nat} (h : GSh G x0 x1) {t : Nat} (ht : finB t = true) :
    OkC (belowTo x0 x1 t x0.length) ∧ Ph (ind (val t)) G - (G.length : Rat) * p2 (-23) ≤ wo (belowTo x0 x1 t x0.length) ∧ wo (belowTo x0 x1 t x0.length) ≤ Ph (ind (val t)) G + (G.length : Rat) * p2 (-23) := by
  have e : belowTo x0 x1 t x0.length = G.foldl (fun s p => if leB p.1 t then opF .add .f32 s p.2 else s) (some 0) := by
    unfold belowTo
    rw [fold_zip (fun s a b => if leB a t then opF .add .f32 s (absF .f32 b) else s) x0 x1 0 0 (by rw [h.l0, h.l1]), fold_some (fun s a b => if leB a t then opF .add .f32 s b else s) x0 x1 _ h.abs1, h.zip]
  have q23 := p2_23
  have q11 : p2 (-11) * 2048 = 1 := p2m 11
  have t2 := h.t2
  have hn : (G.length : Rat) ≤ 64 := Rat.natCast_le_natCast.2 h.len
  have b := Rat.mul_le_mul_of_nonneg_right hn (p2_nn (-23))
  have w0 : wo (some 0) = 0 := vl_wo vl_zero
  obtain ⟨a1, a2, a3⟩ := below_fold ht G (some 0) (okC_of vl_zero Rat.le_refl) (fun p hp => ⟨h.ch p hp, h.fin p hp⟩) (by rw [w0]; grind)
  rw [w0] at a2 a3
  rw [e]
  exact ⟨a1, by grind, by grind⟩
end

section
open Go.RowKit
variable {G H : List (Nat × Option Nat)} {x0 x1 y0 y1 : List Nat}

theorem GSh.len1 (h : GSh G x0 x1) : x1.length = x0.length := by rw [h.l0, h.l1]
/-- The word of the number stands in the list of values. -/
theorem GSh.mem_of (h : GSh G x0 x1) {x : Nat} (hx : x ∈ x0) : ∃ p ∈ G, p.1 = x := by
  rw [h.e0] at hx
  obtain ⟨p, hp, e⟩ := List.mem_map.1 hx
  exact ⟨p, hp, e⟩
theorem qv_cases (v c : List Nat) (p : Option Nat → Bool) (hv : 1 ≤ v.length) : ∃ k x, v[k]? = some x ∧ qv v c p = x ∧ (p (qSum c k) = true ∨ k + 1 = v.length) := by
  unfold qv
  cases hf : (List.range v.length).find? (fun i => p (qSum c i)) with
  | some k =>
    rw [List.find?_range_eq_some] at hf
    obtain ⟨h1, h2, -⟩ := hf
    rw [List.mem_range] at h2
    obtain ⟨x, hx⟩ := get_of_lt h2
    exact ⟨k, x, hx, getD_of hx, .inl h1⟩
  | none =>
    obtain ⟨x, hx⟩ := get_of_lt (xs := v) (k := v.length - 1) (by omega)
    exact ⟨v.length - 1, x, hx, getD_of hx, .inr (by omega)⟩
theorem below_at {k x : Nat} (h : shareB x0 x1 = true) (hl : x1.length = x0.length) (hx : x0[k]? = some x) : belowTo x0 x1 x x0.length = qSum x1 k := by
  obtain ⟨hf, hr, -, -⟩ := shareB_parts h
  have fx := List.all_eq_true.1 hf x (List.mem_of_getElem? hx)
  rw [belowTo_val hf fx hl _ (Nat.le_refl _)]
  obtain ⟨j, hj, e, hi⟩ := belowQ_pre (q := val x) hf hr hl _ (Nat.le_refl x0.length)
  have hk := lt_of_get hx
  have hj1 : k < j := (hi k x hk hx).1 Rat.le_refl
  have hj2 : j = k + 1 := by
    by_cases hlt : k + 1 < j
    · obtain ⟨y, hy⟩ := get_of_lt (xs := x0) (k := k + 1) (by omega)
      have h1 := (hi (k + 1) y (by omega) hy).2 hlt
      have h2 := rise_stepV hr hf hx hy
      exact absurd h1 (by grind)
    · omega
  rw [e, hj2]
  rfl
theorem ph_mono {f g : Rat → Rat} : ∀ G : List (Nat × Option Nat), (∀ p ∈ G, f (val p.1) = g (val p.1)) → Ph f G = Ph g G
  | [], _ => rfl
  | p :: G, h => by rw [ph_cons, ph_cons, ph_mono G (fun q hq => h q (by simp [hq])), h p (by simp)]
/-- The quantile is one of the values, and the chance up to it is the part, nearly. -/
theorem DSh.quant (h : DSh G x0 x1) {P : Nat} {q : Rat} (hP : Vl .f32 (some P) q) (_q0 : 0 ≤ q) (q1 : q ≤ 1) (hp : partB P = true) :
    ∃ a B b, quantB x0 x1 P = true ∧ quantV x0 x1 P = a ∧ absF .f32 a = some a ∧ belowOk x0 x1 a = true ∧ belowV x0 x1 a = some B ∧ Vl .f32 (some B) b ∧ q - p2 (-12) ≤ b ∧ b ≤ 2 := by
  have hg := h.gsh
  have q23 := p2_23
  have q16 : p2 (-16) * 65536 = 1 := p2m 16
  have q12 := p2_12
  obtain ⟨e1, e2⟩ := quantB_t (p := P) hg.ok hp
  obtain ⟨k, x, hx, hq, hc⟩ := qv_cases x0 x1 (geA P) (by rw [hg.l0]; exact h.ge)
  obtain ⟨hf, hr, -, -⟩ := shareB_parts hg.ok
  have fx := List.all_eq_true.1 hf x (List.mem_of_getElem? hx)
  have hbo : belowOk x0 x1 x = true := by unfold belowOk; rw [hg.ok, fx]; rfl
  obtain ⟨hok, b1, b2⟩ := hg.below fx
  have vb := hok.1
  have vb' := vb
  obtain ⟨B, eB, -⟩ := vb
  rw [eB] at vb' b1 b2
  have n6' := n6 h (-23)
  have hle := ph_bd (ind (val x)) 1 G hg.ch (fun p _ => by unfold ind; split <;> constructor <;> grind)
  have t2 := h.t2
  have t1 := h.t1
  refine ⟨x, B, _, e1, e2.trans hq, (vl_fin (fin_vl fx)).2, hbo, by rw [belowV_yes hbo, eB], vb', ?_, by grind⟩
  rcases hc with hc | hc
  · rw [← below_at hg.ok hg.len1 hx, eB] at hc
    unfold geA at hc
    rw [(vl_fin hP).2, Bool.or_eq_true, beq_iff_eq, beq_iff_eq] at hc
    have ho := vl_ord vb' hP
    have hc' : FloatKind.f32.format.order B P = some .gt ∨ FloatKind.f32.format.order B P = some .eq := hc
    rw [ho.2.1, ho.2.2] at hc'
    rcases hc' with hc' | hc' <;> grind
  · have : Ph (ind (val x)) G = Ph one G := ph_mono G (fun p hp' => by
      show ind (val x) (val p.1) = 1
      refine if_pos ?_
      have hm : p.1 ∈ x0 := by rw [hg.e0]; exact List.mem_map_of_mem hp'
      obtain ⟨i, hi, ei⟩ := List.getElem_of_mem hm
      have hi' : x0[i]? = some p.1 := by rw [List.getElem?_eq_getElem hi, ei]
      obtain ⟨d, hd⟩ : ∃ d, k = i + d := ⟨k - i, by omega⟩
      exact rise_monoV hr hf hi' d (by rw [← hd]; exact hx))
    rw [this] at b1
    grind
/-- The chance of at most x. -/
theorem DSh.belowX (h : DSh G x0 x1) {X : Nat} (fx : finB X = true) : ∃ B b, belowOk x0 x1 X = true ∧ belowV x0 x1 X = some B ∧ Vl .f32 (some B) b ∧ Ph (ind (val X)) G - p2 (-20) ≤ b ∧ b ≤ Ph (ind (val X)) G + p2 (-20) ∧ 0 ≤ Ph (ind (val X)) G ∧ Ph (ind (val X)) G ≤ 1 + p2 (-16) := by
  have hg := h.gsh
  have q20 : p2 (-20) = 8 * p2 (-23) := by rw [show (-20 : Int) = -23 + ((3 : Nat) : Int) by omega, p2_add, p2_nat, Rat.mul_comm]; rfl
  have p23 := p2_pos (-23)
  obtain ⟨hok, b1, b2⟩ := hg.below fx
  have hbo : belowOk x0 x1 X = true := by unfold belowOk; rw [hg.ok, fx]; rfl
  have vb := hok.1
  have vb' := vb
  obtain ⟨B, eB, -⟩ := vb
  rw [eB] at vb' b1 b2
  have n6' := n6 h (-23)
  have hle := ph_bd (ind (val X)) 1 G hg.ch (fun p _ => by unfold ind; split <;> constructor <;> grind)
  have h0 : 0 ≤ Ph (ind (val X)) G := by
    have := ph_bd (fun v => ind (val X) v - 1 / 2) (1 / 2) G hg.ch (fun p _ => by unfold ind; split <;> constructor <;> grind)
    have e : ∀ L : List (Nat × Option Nat), Ph (fun v => ind (val X) v - 1 / 2) L = Ph (ind (val X)) L - 1 / 2 * Ph one L := fun L => by
      induction L with
      | nil => rw [ph_nil, ph_nil, ph_nil]; grind
      | cons p L ih => rw [ph_cons, ph_cons, ph_cons, ih]; unfold one; grind
    rw [e] at this
    grind
  have t2 := h.t2
  exact ⟨B, _, hbo, by rw [belowV_yes hbo, eB], vb', by grind, by grind, h0, by grind⟩

/-! ### the greater one -/
def mx (a b : Rat) : Rat := if a < b then b else a
theorem goodG_mx (ha : GSh G x0 x1) (hb : GSh H y0 y1) : GoodG (pairG false) mx G H := by
  intro p hp q hq
  have fp := ha.fin p hp
  have fq := hb.fin q hq
  have e : pairG false p.1 q.1 = absF .f32 (grW p.1 q.1) := rfl
  have hgt := gt_val fq fp
  by_cases hlt : val p.1 < val q.1
  · have e2 : grW p.1 q.1 = q.1 := by unfold grW; rw [hgt.2 hlt]; rfl
    exact ⟨q.1, by rw [e, e2]; exact (vl_fin (fin_vl fq)).2, fq, by unfold mx; rw [if_pos hlt]⟩
  · have e2 : grW p.1 q.1 = p.1 := by
      unfold grW
      rw [if_neg]
      rw [beq_iff_eq, hgt]; exact hlt
    exact ⟨p.1, by rw [e, e2]; exact (vl_fin (fin_vl fp)).2, fp, by unfold mx; rw [if_neg hlt]⟩
theorem ind_mx (t a b : Rat) : ind t (mx a b) = ind t a * ind t b := by
  unfold ind mx
  split <;> split <;> split <;> grind
theorem ind_one (t v : Rat) : -1 ≤ ind t v ∧ ind t v ≤ 1 := by unfold ind; split <;> constructor <;> grind
theorem greater_facts (ha : DSh G x0 x1) (hb : DSh H y0 y1) {X : Nat} (fx : finB X = true) :
    combOk (pairG false) x0 x1 y0 y1 = true ∧ ∀ z0 z1, absL z0 = absL ((gatS (combV (pairG false) x0 y0) (combC x1 y1)).map Prod.fst) → absL z1 = (gatS (combV (pairG false) x0 y0) (combC x1 y1)).map Prod.snd →
      z0.length ≤ 64 ∧ z1.length ≤ 64 ∧ ∃ R r, belowOk z0 z1 X = true ∧ belowV z0 z1 X = some R ∧ Vl .f32 (some R) r ∧ Ph (ind (val X)) G * Ph (ind (val X)) H - p2 (-15) ≤ r ∧ r ≤ Ph (ind (val X)) G * Ph (ind (val X)) H + p2 (-15) := by
  obtain ⟨hok, hK⟩ := comb_share ha.gsh hb.gsh ha.le hb.le ha.ge hb.ge ha.t1 ha.t2 hb.t1 hb.t2 (goodG_mx ha.gsh hb.gsh)
  refine ⟨hok, fun z0 z1 h0 h1 => ?_⟩
  obtain ⟨K, gK, lK, vK, nK⟩ := hK z0 z1 h0 h1
  obtain ⟨i1, i2⟩ := nK (ind (val X)) 1 (by decide) (fun p _ q _ => ind_one _ _)
  rw [PP_mul mx (ind (val X)) (ind (val X)) (ind (val X)) (fun a b => ind_mx _ a b)] at i1 i2
  obtain ⟨hk, b1, b2⟩ := gK.below fx
  have hbo : belowOk z0 z1 X = true := by unfold belowOk; rw [gK.ok, fx]; rfl
  have vb := hk.1
  have vb' := vb
  obtain ⟨B, eB, -⟩ := vb
  rw [eB] at vb' b1 b2
  have hKn : (K.length : Rat) ≤ 36 := Rat.natCast_le_natCast.2 lK
  have k23 := Rat.mul_le_mul_of_nonneg_right hKn (p2_nn (-23))
  have q16 : p2 (-16) = 128 * p2 (-23) := by rw [show (-16 : Int) = -23 + ((7 : Nat) : Int) by omega, p2_add, p2_nat, Rat.mul_comm]; rfl
  have q15 : p2 (-15) = 256 * p2 (-23) := by rw [show (-15 : Int) = -23 + ((8 : Nat) : Int) by omega, p2_add, p2_nat, Rat.mul_comm]; rfl
  exact ⟨by rw [gK.l0]; exact gK.len, by rw [gK.l1]; exact gK.len, B, _, hbo, by rw [belowV_yes hbo, eB], vb', by grind, by grind⟩
end
end Go.Proofs.YtjajlddnhmbekaaGreat
