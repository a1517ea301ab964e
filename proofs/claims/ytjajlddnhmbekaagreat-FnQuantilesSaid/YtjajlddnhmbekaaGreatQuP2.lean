/-
  Mixed shares, nearly: chances below are mixed.
  How far two shares are apart, nearly.
  The entropy of a drawn share, nearly: from 0 to 6.
  GivenAbove, walked in the program and in the reference.
  What FnQuantiles reckons of two drawn shares holds.
-/
import Derived.Test.YtjajlddnhmbekaaGreatQq2
import Derived.Test.YtjajlddnhmbekaaGreatMix
import Derived.Test.YtjajlddnhmbekaaGreatLogE
import Derived.Test.YtjajlddnhmbekaaGreatMixD
import Derived.Deep.RegionHeld3
import Derived.Deep.RegionLaw
namespace Go.Proofs.YtjajlddnhmbekaaGreat
section
open Go.RowKit
variable {G H : List (Nat × Option Nat)} {x0 x1 y0 y1 : List Nat}

/-- Every chance taken times u. -/
def scl (u : Option Nat) (G : List (Nat × Option Nat)) : List (Nat × Option Nat) := G.map fun r => (r.1, mulO u r.2)
theorem scl_near {u : Option Nat} (hu : OkC u) (hu1 : wo u ≤ 1) : ∀ G : List (Nat × Option Nat), (∀ p ∈ G, OkC p.2) → (∀ p ∈ G, wo p.2 ≤ 5 / 4) →
    (∀ p ∈ scl u G, OkC p.2) ∧ ∀ (f : Rat → Rat), (∀ v, -1 ≤ f v ∧ f v ≤ 1) → wo u * Ph f G - (G.length : Rat) * p2 (-23) ≤ Ph f (scl u G) ∧ Ph f (scl u G) ≤ wo u * Ph f G + (G.length : Rat) * p2 (-23)
  | [], _, _ => by
    refine ⟨fun p hp => (by cases hp), fun f _ => ?_⟩
    have e : ((([] : List (Nat × Option Nat)).length : Nat) : Rat) = 0 := rfl
    rw [e]
    show wo u * Ph f [] - _ ≤ Ph f [] ∧ Ph f [] ≤ _
    rw [ph_nil]
    constructor <;> grind
  | p :: G, h, h2 => by
    have hp := h p (by simp)
    have hp2 := h2 p (by simp)
    have hp0 := hp.2
    have hu0 := hu.2
    have hub := mul_bd (a := wo u) (A := 1) (by grind) hu1 (b := wo p.2) (B := 5 / 4) (by grind) hp2
    obtain ⟨m1, m2, m3⟩ := mul_ok hu hp (by grind)
    obtain ⟨i1, i2⟩ := scl_near hu hu1 G (fun q hq => h q (by simp [hq])) (fun q hq => h2 q (by simp [hq]))
    refine ⟨fun q hq => ?_, fun f hf => ?_⟩
    · rcases List.mem_cons.1 hq with rfl | hq
      · exact m1
      · exact i1 q hq
    · obtain ⟨a, b⟩ := i2 f hf
      have hlen : (((p :: G).length : Nat) : Rat) = (G.length : Rat) + 1 := by rw [List.length_cons]; exact Rat.natCast_add _ _
      obtain ⟨f1, f2⟩ := hf (val p.1)
      have hfb := mul_bd (a := f (val p.1)) (A := 1) f1 f2 (b := wo (mulO u p.2) - wo u * wo p.2) (B := p2 (-23)) (by grind) (by grind)
      show wo u * Ph f (p :: G) - _ ≤ Ph f ((p.1, mulO u p.2) :: scl u G) ∧ Ph f ((p.1, mulO u p.2) :: scl u G) ≤ _
      rw [ph_cons, ph_cons, hlen]
      dsimp only
      constructor <;> grind
theorem GSh.zip_scl (h : GSh G x0 x1) (u : Option Nat) (t : Nat → Option Nat) (ht : ∀ c, absF .f32 c = some c → t c = mulO u (some c)) : x0.zip (x1.map t) = scl u G ∧ (x1.map t).length = x0.length := by
  have e1 : x1.map t = (x1.map some).map (mulO u) := by
    rw [List.map_map]
    apply List.map_congr_left
    intro c hc
    exact ht c (h.abs1 c hc)
  refine ⟨?_, by rw [List.length_map, h.l0, h.l1]⟩
  rw [e1, h.e1, h.e0]
  unfold scl
  clear e1
  induction G with
  | nil => rfl
  | cons p G ih =>
    show _ :: _ = _ :: _
    congr 1
    clear ih h
    induction G with
    | nil => rfl
    | cons p G ih => show _ :: _ = _ :: _; congr 1
theorem one_abs : absF .f32 1065353216 = some 1065353216 := absF_of (by decide)
/-- Two shares mixed: the part is a number of sixteenths. -/
theorem mix_facts (ha : DSh G x0 x1) (hb : DSh H y0 y1) {P X k : Nat} (hk : k ≤ 16) (hP : Vl .f32 (some P) ((k : Rat) * p2 (-4))) (hp : partB P = true) (fx : finB X = true) :
    mixOk x0 x1 y0 y1 P = true ∧ ∀ z0 z1, absL z0 = absL ((gatS (x0 ++ y0) (mixC P x1 y1)).map Prod.fst) → absL z1 = (gatS (x0 ++ y0) (mixC P x1 y1)).map Prod.snd →
      z0.length ≤ 64 ∧ z1.length ≤ 64 ∧ ∃ R r, belowOk z0 z1 X = true ∧ belowV z0 z1 X = some R ∧ Vl .f32 (some R) r ∧ (1 - (k : Rat) * p2 (-4)) * Ph (ind (val X)) G + (k : Rat) * p2 (-4) * Ph (ind (val X)) H - p2 (-15) ≤ r ∧ r ≤ (1 - (k : Rat) * p2 (-4)) * Ph (ind (val X)) G + (k : Rat) * p2 (-4) * Ph (ind (val X)) H + p2 (-15) := by
  have q4 : p2 (-4) * 16 = 1 := p2m 4
  have q23 := p2_23
  have q16 : p2 (-16) = 128 * p2 (-23) := by rw [show (-16 : Int) = -23 + ((7 : Nat) : Int) by omega, p2_add, p2_nat, Rat.mul_comm]; rfl
  have q15 : p2 (-15) = 256 * p2 (-23) := by rw [show (-15 : Int) = -23 + ((8 : Nat) : Int) by omega, p2_add, p2_nat, Rat.mul_comm]; rfl
  have q12 : p2 (-12) = 2048 * p2 (-23) := by rw [show (-12 : Int) = -23 + ((11 : Nat) : Int) by omega, p2_add, p2_nat, Rat.mul_comm]; rfl
  have q17 := p2_17
  have p23 := p2_pos (-23)
  have hk' : (k : Rat) ≤ 16 := Rat.natCast_le_natCast.2 hk
  have hk0 : (0 : Rat) ≤ (k : Rat) := Rat.natCast_nonneg
  obtain ⟨q, hq⟩ : ∃ q, q = (k : Rat) * p2 (-4) := ⟨_, rfl⟩
  have hq0 : 0 ≤ q := by rw [hq]; exact Rat.mul_nonneg hk0 (p2_nn _)
  have hq1 : q ≤ 1 := by rw [hq]; have := Rat.mul_le_mul_of_nonneg_right hk' (p2_nn (-4)); grind
  have hrep : RepK .f32 (1 - q) := by
    have h := rep_grid (k := .f32) (e := -4) (in32 (by omega) (by omega)) (z := 16 - (k : Int)) (by show (16 - (k : Int)).natAbs ≤ 16777216; omega)
    have e : ((16 - (k : Int) : Int) : Rat) * p2 (-4) = 1 - q := by
      rw [Rat.intCast_sub, Rat.intCast_natCast, hq]
      have : ((16 : Int) : Rat) = 16 := rfl
      rw [this]
      grind
    rwa [e] at h
  rw [← hq] at hP ⊢
  obtain ⟨r, hr, hn⟩ := vl_sub one_vl hP hrep hrep Rat.le_refl Rat.le_refl
  have er := hn.exact hrep
  rw [er] at hr
  have hU : OkC (opF .sub .f32 (some 1065353216) (some P)) := okC_of hr (by grind)
  have wU : wo (opF .sub .f32 (some 1065353216) (some P)) = 1 - q := vl_wo hr
  have hV : OkC (some P) := okC_of hP hq0
  have wV : wo (some P) = q := vl_wo hP
  have absP := (vl_fin hP).2
  generalize hgU : opF .sub .f32 (some 1065353216) (some P) = U at *
  obtain ⟨za, la⟩ := ha.gsh.zip_scl U (mixL P) (fun c hc => by unfold mixL mulO; rw [one_abs, absP, hc, hgU])
  obtain ⟨zb, lb⟩ := hb.gsh.zip_scl (some P) (mixR P) (fun c hc => by unfold mixR mulO; rw [absP, hc])
  have eC : mixC P x1 y1 = x1.map (mixL P) ++ y1.map (mixR P) := by unfold mixC mixBo mixA; rw [List.take_length, List.take_length]
  have hz : (x0 ++ y0).zip (mixC P x1 y1) = scl U G ++ scl (some P) H := by
    rw [eC, List.zip_append la.symm, za, zb]
  have hl : (mixC P x1 y1).length = (x0 ++ y0).length := by rw [eC, List.length_append, List.length_append, la, lb]
  obtain ⟨oa, na⟩ := scl_near hU (by rw [wU]; grind) G ha.gsh.ch ha.gsh.small
  obtain ⟨ob, nb⟩ := scl_near hV (by rw [wV]; grind) H hb.gsh.ch hb.gsh.small
  rw [wU] at na
  rw [wV] at nb
  have n6a := n6 ha (-23)
  have n6b := n6 hb (-23)
  have ll : (x0 ++ y0).length = G.length + H.length := by rw [List.length_append, ha.gsh.l0, hb.gsh.l0]
  have hgl := ha.le
  have hhl := hb.le
  have hgl1 := ha.ge
  have one1 : ∀ v, -1 ≤ one v ∧ one v ≤ 1 := fun v => ⟨by show (-1 : Rat) ≤ 1; decide, by show (1 : Rat) ≤ 1; decide⟩
  obtain ⟨a1, a2⟩ := na one one1
  obtain ⟨b1, b2⟩ := nb one one1
  have A1 := ha.t1; have A2 := ha.t2; have B1 := hb.t1; have B2 := hb.t2
  have ta := mul_bd (a := 1 - q) (A := 1) (by grind) (by grind) (b := Ph one G - 1) (B := p2 (-16)) (by grind) (by grind)
  have tb := mul_bd (a := q) (A := 1) (by grind) (by grind) (b := Ph one H - 1) (B := p2 (-16)) (by grind) (by grind)
  have hone : Ph one ((x0 ++ y0).zip (mixC P x1 y1)) = Ph one (scl U G) + Ph one (scl (some P) H) := by rw [hz, ph_app]
  have hf : (x0 ++ y0).all finB = true := by rw [List.all_append, share_fin0 ha.gsh.ok, share_fin0 hb.gsh.ok]; rfl
  have hC : ∀ c ∈ mixC P x1 y1, OkC c := by
    intro c hc
    have : c ∈ ((x0 ++ y0).zip (mixC P x1 y1)).map Prod.snd := by rw [List.map_snd_zip (by omega)]; exact hc
    rw [hz] at this
    obtain ⟨p, hp', e⟩ := List.mem_map.1 this
    rw [← e]
    rcases List.mem_append.1 hp' with h | h
    · exact oa p h
    · exact ob p h
  have t1 : 1 - p2 (-12) ≤ Ph one ((x0 ++ y0).zip (mixC P x1 y1)) := by rw [hone]; grind
  have t2 : Ph one ((x0 ++ y0).zip (mixC P x1 y1)) ≤ 1 + p2 (-12) := by rw [hone]; grind
  obtain ⟨hok, hch, key⟩ := gat_good hl (by omega) (by omega) hf hC t1 t2
  refine ⟨by rw [mixOk_t ha.gsh.ok hb.gsh.ok hp]; exact hok, fun z0 z1 h0 h1 => ?_⟩
  have gK := gsh_of hl (by omega) (by omega) hf hC t1 t2 h0 h1
  obtain ⟨k1, k2⟩ := key (ind (val X)) 1 (fun x _ => ind_one _ _)
  rw [hz, ph_app] at k1 k2
  obtain ⟨c1, c2⟩ := na (ind (val X)) (ind_one _)
  obtain ⟨d1, d2⟩ := nb (ind (val X)) (ind_one _)
  obtain ⟨hkk, s1, s2⟩ := gK.below fx
  have hbo : belowOk z0 z1 X = true := by unfold belowOk; rw [gK.ok, fx]; rfl
  have vb := hkk.1
  have vb' := vb
  obtain ⟨B, eB, -⟩ := vb
  rw [eB] at vb' s1 s2
  have hKl : (gatS (x0 ++ y0) (mixC P x1 y1)).length ≤ 12 := by
    have := gAt_len (xs := x0 ++ y0) (C := mixC P x1 y1) (List.range (x0 ++ y0).length)
    rw [List.length_range] at this
    have h3 : (gatS (x0 ++ y0) (mixC P x1 y1)).length ≤ (x0 ++ y0).length := this
    omega
  have hKn : ((gatS (x0 ++ y0) (mixC P x1 y1)).length : Rat) ≤ 12 := Rat.natCast_le_natCast.2 hKl
  have k23 := Rat.mul_le_mul_of_nonneg_right hKn (p2_nn (-23))
  exact ⟨by rw [gK.l0]; exact gK.len, by rw [gK.l1]; exact gK.len, B, _, hbo, by rw [belowV_yes hbo, eB], vb', by grind, by grind⟩
end

section
open Go.RowKit

/-! ### the values of both -/
theorem two_filters (x : Nat) : ∀ zs : List Nat, (zs.filter (fun z => decide (val z < val x))).length + (zs.filter (fun z => decide (val x < val z))).length ≤ zs.length
  | [] => Nat.le_refl _
  | z :: zs => by
    have ih := two_filters x zs
    by_cases h1 : val z < val x
    · have h2 : ¬ val x < val z := by grind
      rw [List.filter_cons_of_pos (by simpa using h1), List.filter_cons_of_neg (by simpa using h2), List.length_cons, List.length_cons]
      omega
    · rw [List.filter_cons_of_neg (by simpa using h1), List.length_cons]
      by_cases h2 : val x < val z
      · rw [List.filter_cons_of_pos (by simpa using h2), List.length_cons]
        omega
      · rw [List.filter_cons_of_neg (by simpa using h2)]
        omega
theorem rising_of : ∀ l : List Nat, (∀ x ∈ l, finB x = true) → ∃ zs : List Nat, (zs.Pairwise fun a b => val a < val b) ∧ (∀ q, Vs zs q ↔ Vs l q) ∧ (∀ z ∈ zs, finB z = true) ∧ zs.length ≤ l.length
  | [], _ => ⟨[], List.Pairwise.nil, fun q => Iff.rfl, fun z hz => (by cases hz), Nat.le_refl _⟩
  | x :: l, h => by
    obtain ⟨zs, hp, hm, hf, hl⟩ := rising_of l (fun y hy => h y (by simp [hy]))
    have hc : ∀ q, Vs (x :: l) q ↔ val x = q ∨ Vs l q := fun q => by
      unfold Vs
      constructor
      · rintro ⟨y, hy, e⟩
        rcases List.mem_cons.1 hy with rfl | hy
        · exact .inl e
        · exact .inr ⟨y, hy, e⟩
      · rintro (e | ⟨y, hy, e⟩)
        · exact ⟨x, by simp, e⟩
        · exact ⟨y, by simp [hy], e⟩
    by_cases hx : Vs zs (val x)
    · refine ⟨zs, hp, fun q => ?_, hf, by rw [List.length_cons]; omega⟩
      rw [hc, ← hm]
      exact ⟨.inr, fun h => h.elim (fun e => e ▸ hx) id⟩
    · refine ⟨zs.filter (fun z => decide (val z < val x)) ++ x :: zs.filter (fun z => decide (val x < val z)), ?_, fun q => ?_, ?_, by have := two_filters x zs; rw [List.length_append, List.length_cons, List.length_cons]; omega⟩
      · refine List.pairwise_append.2 ⟨hp.filter _, List.pairwise_cons.2 ⟨fun b hb => ?_, hp.filter _⟩, fun a ha b hb => ?_⟩
        · have := (List.mem_filter.1 hb).2
          exact of_decide_eq_true this
        · have h1 := of_decide_eq_true (List.mem_filter.1 ha).2
          rcases List.mem_cons.1 hb with rfl | hb
          · exact h1
          · have h2 := of_decide_eq_true (List.mem_filter.1 hb).2
            grind
      · rw [hc, ← hm]
        constructor
        · rintro ⟨y, hy, e⟩
          rcases List.mem_append.1 hy with hy | hy
          · exact .inr ⟨y, (List.mem_filter.1 hy).1, e⟩
          · rcases List.mem_cons.1 hy with rfl | hy
            · exact .inl e
            · exact .inr ⟨y, (List.mem_filter.1 hy).1, e⟩
        · rintro (e | ⟨y, hy, e⟩)
          · exact ⟨x, by simp, e⟩
          · by_cases h1 : val y < val x
            · exact ⟨y, List.mem_append.2 (.inl (List.mem_filter.2 ⟨hy, decide_eq_true h1⟩)), e⟩
            · by_cases h2 : val x < val y
              · exact ⟨y, List.mem_append.2 (.inr (List.mem_cons.2 (.inr (List.mem_filter.2 ⟨hy, decide_eq_true h2⟩)))), e⟩
              · exact absurd ⟨y, hy, by grind⟩ hx
      · intro z hz
        rcases List.mem_append.1 hz with hz | hz
        · exact hf z (List.mem_filter.1 hz).1
        · rcases List.mem_cons.1 hz with rfl | hz
          · exact h z (by simp)
          · exact hf z (List.mem_filter.1 hz).1
/-- The values of both: rising, all of them, no others. -/
structure Vals (G H : List (Nat × Option Nat)) (qs : List Rat) : Prop where
  up : qs.Pairwise (· < ·)
  a : ∀ p ∈ G, val p.1 ∈ qs
  b : ∀ p ∈ H, val p.1 ∈ qs
  len : qs.length ≤ 12
  w : ∀ q ∈ qs, ∃ t, finB t = true ∧ val t = q
variable {G H : List (Nat × Option Nat)} {x0 x1 y0 y1 : List Nat}
theorem vb_ex (hx : x0.all finB = true) (hy : y0.all finB = true) : ∃ zs, VB x0 y0 zs ∧ zs.length ≤ x0.length + y0.length := by
  obtain ⟨zs, hp, hm, hf, hl⟩ := rising_of (x0 ++ y0) (fun x hx' => by
    rcases List.mem_append.1 hx' with h | h
    · exact List.all_eq_true.1 hx x h
    · exact List.all_eq_true.1 hy x h)
  refine ⟨zs, ⟨fun i j x y hij hi hj => ?_, fun q => by rw [hm, vs_app], hf⟩, by rwa [List.length_append] at hl⟩
  obtain ⟨h1, e1⟩ := List.getElem?_eq_some_iff.1 hi
  obtain ⟨h2, e2⟩ := List.getElem?_eq_some_iff.1 hj
  have := List.pairwise_iff_getElem.1 hp i j h1 h2 hij
  rwa [e1, e2] at this
theorem vb_sym {xs ys zs : List Nat} (h : VB xs ys zs) : VB ys xs zs := ⟨h.rise, fun q => by rw [h.mem]; exact Or.comm, h.fin⟩
theorem vals_of (ha : DSh G x0 x1) (hb : DSh H y0 y1) : ∃ qs, vbQ x0 y0 = qs ∧ vbQ y0 x0 = qs ∧ Vals G H qs := by
  obtain ⟨zs, hz, hl⟩ := vb_ex (share_fin0 ha.gsh.ok) (share_fin0 hb.gsh.ok)
  have hup : (zs.map val).Pairwise (· < ·) := by
    rw [List.pairwise_map, List.pairwise_iff_getElem]
    intro i j hi hj hij
    exact hz.rise i j _ _ hij (List.getElem?_eq_getElem hi) (List.getElem?_eq_getElem hj)
  refine ⟨zs.map val, vbQ_eq hz, vbQ_eq (vb_sym hz), hup, fun p hp => ?_, fun p hp => ?_, ?_, fun q hq => ?_⟩
  · obtain ⟨z, h1, h2⟩ := (hz.mem (val p.1)).2 (.inl ⟨p.1, by rw [ha.gsh.e0]; exact List.mem_map_of_mem hp, rfl⟩)
    rw [← h2]; exact List.mem_map_of_mem h1
  · obtain ⟨z, h1, h2⟩ := (hz.mem (val p.1)).2 (.inr ⟨p.1, by rw [hb.gsh.e0]; exact List.mem_map_of_mem hp, rfl⟩)
    rw [← h2]; exact List.mem_map_of_mem h1
  · rw [List.length_map]
    rw [ha.gsh.l0, hb.gsh.l0] at hl
    have h1 := ha.le
    have h2 := hb.le
    omega
  · obtain ⟨z, h1, h2⟩ := List.mem_map.1 hq
    exact ⟨z, hz.fin z h1, h2⟩

/-! ### the chance of a value -/
def eqv (q v : Rat) : Rat := if v = q then 1 else 0
theorem GSh.up (h : GSh G x0 x1) : G.Pairwise fun p q => val p.1 < val q.1 := by
  obtain ⟨hf, hr, -, -⟩ := shareB_parts h.ok
  rw [List.pairwise_iff_getElem]
  intro i j hi hj hij
  have a : x0[i]? = some (G[i].1) := by rw [h.e0, List.getElem?_map, List.getElem?_eq_getElem hi]; rfl
  have b : x0[j]? = some (G[j].1) := by rw [h.e0, List.getElem?_map, List.getElem?_eq_getElem hj]; rfl
  exact share_mono hf hr hij a b
theorem eqv_none {q : Rat} : ∀ G : List (Nat × Option Nat), (∀ p ∈ G, val p.1 ≠ q) → Ph (eqv q) G = 0
  | [], _ => rfl
  | p :: G, h => by
    rw [ph_cons, eqv_none G (fun x hx => h x (by simp [hx]))]
    have : eqv q (val p.1) = 0 := if_neg (h p (by simp))
    rw [this]; grind
theorem eqv_at {q : Rat} : ∀ G : List (Nat × Option Nat), (G.Pairwise fun p r => val p.1 < val r.1) → ∀ p ∈ G, val p.1 = q → Ph (eqv q) G = wo p.2
  | [], _, p, hp, _ => by cases hp
  | r :: G, hu, p, hp, e => by
    obtain ⟨h1, h2⟩ := List.pairwise_cons.1 hu
    rw [ph_cons]
    rcases List.mem_cons.1 hp with rfl | hp
    · rw [eqv_none G (fun x hx => by have := h1 x hx; grind)]
      have : eqv q (val p.1) = 1 := if_pos e
      rw [this]; grind
    · have h3 := h1 p hp
      have : eqv q (val r.1) = 0 := if_neg (by grind)
      rw [this, eqv_at G h2 p hp e]; grind
theorem GSh.chance (h : GSh G x0 x1) (q : Rat) : Vl .f32 (chanceQ x0 x1 q) (Ph (eqv q) G) ∧ 0 ≤ Ph (eqv q) G ∧ Ph (eqv q) G ≤ Ph one G := by
  obtain ⟨hf, hr, -, -⟩ := shareB_parts h.ok
  by_cases hex : ∃ p ∈ G, val p.1 = q
  · obtain ⟨p, hp, e⟩ := hex
    rw [eqv_at G h.up p hp e]
    have hp' := hp
    obtain ⟨i, hi, ei⟩ := List.getElem_of_mem hp'
    have a : x0[i]? = some p.1 := by rw [h.e0, List.getElem?_map, List.getElem?_eq_getElem hi, ei]; rfl
    have b : (x1.map some)[i]? = some p.2 := by rw [h.e1, List.getElem?_map, List.getElem?_eq_getElem hi, ei]; rfl
    rw [List.getElem?_map] at b
    cases hy : x1[i]? with
    | none => rw [hy] at b; cases b
    | some y =>
      rw [hy] at b
      have ep : some y = p.2 := by injection b
      have hc := chanceQ_at (q := q) a hy e (fun j u hj hu he => by
        have := share_mono hf hr hj hu a
        rw [he, e] at this
        exact absurd this Rat.lt_irrefl)
      rw [hc, h.abs1 y (List.mem_of_getElem? hy), ep]
      exact ⟨(h.ch p hp).1, (h.ch p hp).2, wo_le h.ch hp⟩
  · have hn : ∀ p ∈ G, val p.1 ≠ q := fun p hp e => hex ⟨p, hp, e⟩
    rw [eqv_none G hn, chanceQ_none (fun j u hu he => by
      obtain ⟨p, hp, e⟩ := h.mem_of (List.mem_of_getElem? hu)
      exact hn p hp (by rw [e]; exact he))]
    exact ⟨vl_zero, Rat.le_refl, ph_nn h.ch⟩

/-! ### sums over the values of both -/
theorem sum_zero {qs : List Rat} {f : Rat → Rat} (h : ∀ q ∈ qs, f q = 0) : (qs.map f).sum = 0 := by
  induction qs with
  | nil => rfl
  | cons q qs ih =>
    show f q + (qs.map f).sum = 0
    rw [h q (by simp), ih (fun x hx => h x (by simp [hx]))]; grind
theorem sum_one {qs : List Rat} (hu : qs.Pairwise (· < ·)) {v : Rat} (hv : v ∈ qs) (f : Rat → Rat) : (qs.map fun q => f q * eqv q v).sum = f v := by
  induction qs with
  | nil => cases hv
  | cons q qs ih =>
    obtain ⟨h1, h2⟩ := List.pairwise_cons.1 hu
    show f q * eqv q v + (qs.map fun q => f q * eqv q v).sum = f v
    rcases List.mem_cons.1 hv with rfl | hv
    · rw [sum_zero (fun x hx => by
        have h3 := h1 x hx
        have : eqv x v = 0 := if_neg (by grind)
        rw [this]; grind)]
      have : eqv v v = 1 := if_pos rfl
      rw [this]; grind
    · have h3 := h1 v hv
      have : eqv q v = 0 := if_neg (by grind)
      rw [this, ih h2 hv]; grind
theorem sum_add (qs : List Rat) (f g : Rat → Rat) : (qs.map fun q => f q + g q).sum = (qs.map f).sum + (qs.map g).sum := by
  induction qs with
  | nil => show (0 : Rat) = 0 + 0; grind
  | cons q qs ih =>
    show f q + g q + (qs.map fun q => f q + g q).sum = f q + (qs.map f).sum + (g q + (qs.map g).sum)
    rw [ih]; grind
theorem sum_mul (qs : List Rat) (f : Rat → Rat) (c : Rat) : (qs.map fun q => f q * c).sum = (qs.map f).sum * c := by
  induction qs with
  | nil => show (0 : Rat) = 0 * c; grind
  | cons q qs ih =>
    show f q * c + (qs.map fun q => f q * c).sum = (f q + (qs.map f).sum) * c
    rw [ih]; grind
theorem sum_congr (qs : List Rat) {f g : Rat → Rat} (h : ∀ q ∈ qs, f q = g q) : (qs.map f).sum = (qs.map g).sum := by rw [List.map_congr_left h]
/-- A weighed sum is one over the values. -/
theorem ph_vals {qs : List Rat} (hu : qs.Pairwise (· < ·)) (f : Rat → Rat) : ∀ G : List (Nat × Option Nat), (∀ p ∈ G, val p.1 ∈ qs) → (qs.map fun q => f q * Ph (eqv q) G).sum = Ph f G
  | [], _ => by
    rw [ph_nil]
    exact sum_zero (fun q _ => by rw [ph_nil]; grind)
  | p :: G, h => by
    rw [ph_cons, ← ph_vals hu f G (fun x hx => h x (by simp [hx])), ← sum_one hu (h p (by simp)) f, ← sum_mul, ← sum_add]
    exact sum_congr _ (fun q _ => by rw [ph_cons]; grind)
def aq (r : Rat) : Rat := if r ≤ 0 then -r else r
theorem aq_near {r s e : Rat} (h1 : -e ≤ r - s) (h2 : r - s ≤ e) : -e ≤ aq r - aq s ∧ aq r - aq s ≤ e := by
  unfold aq
  split <;> split <;> constructor <;> grind
theorem aq_nn (r : Rat) : 0 ≤ aq r := by unfold aq; split <;> grind
theorem size_vl {o : Option Nat} {r : Rat} (h : Vl .f32 o r) : Vl .f32 (sizeO o) (aq r) := by
  have h' := h
  obtain ⟨b, rfl, -⟩ := h
  obtain ⟨o1, o2, o3⟩ := vl_ord h' vl_zero
  show Vl .f32 (if (ord32 b 0 == some .lt || ord32 b 0 == some .eq) = true then floatBits .sub .f32 0 b else some b) (aq r)
  unfold aq
  by_cases hr : r ≤ 0
  · rw [if_pos hr, if_pos]
    · have hrep : RepK .f32 (0 - r) := by have := rep_neg h'.rep; rwa [show (0 : Rat) - r = -r by grind]
      obtain ⟨s, hs, hn⟩ := vl_sub vl_zero h' hrep hrep Rat.le_refl Rat.le_refl
      rw [hn.exact hrep] at hs
      rw [show -r = 0 - r by grind]
      exact hs
    · rw [Bool.or_eq_true, beq_iff_eq, beq_iff_eq, o1, o3]
      grind
  · rw [if_neg hr, if_neg]
    · exact h'
    · rw [Bool.or_eq_true, beq_iff_eq, beq_iff_eq, o1, o3]
      grind
/-- What the values of both are apart by. -/
def dq (G H : List (Nat × Option Nat)) (q : Rat) : Rat := Ph (eqv q) G - Ph (eqv q) H
def sumAp (G H : List (Nat × Option Nat)) (qs : List Rat) : Rat := (qs.map fun q => aq (dq G H q)).sum
theorem away_vl (ha : DSh G x0 x1) (hb : DSh H y0 y1) (q : Rat) : ∃ r, Vl .f32 (sizeO (awayQ x0 x1 y0 y1 q)) r ∧ aq (dq G H q) - p2 (-23) ≤ r ∧ r ≤ aq (dq G H q) + p2 (-23) := by
  obtain ⟨a, a0, a1⟩ := ha.gsh.chance q
  obtain ⟨b, b0, b1⟩ := hb.gsh.chance q
  have A2 := ha.t2
  have B2 := hb.t2
  have q16 : p2 (-16) * 65536 = 1 := p2m 16
  have e1 := p2_1
  obtain ⟨r, hr, hn⟩ := vl_sub a b (lo := -p2 1) (hi := p2 1) (rep_neg (rep32 (by omega) (by omega))) (rep32 (by omega) (by omega)) (by rw [e1]; grind) (by rw [e1]; grind)
  obtain ⟨r1, r2⟩ := hn.err (e := -23) (in32 (by omega) (by omega)) (by rw [gB32, show (-23 : Int) + 24 = 1 by omega, e1]; grind) (by rw [gB32, show (-23 : Int) + 24 = 1 by omega, e1]; grind)
  have := aq_near (r := r) (s := dq G H q) (e := p2 (-23)) (by unfold dq; grind) (by unfold dq; grind)
  exact ⟨_, size_vl hr, by grind, by grind⟩
theorem sumAp_le {qs : List Rat} (hv : Vals G H qs) (hG : ∀ q, 0 ≤ Ph (eqv q) G) (hH : ∀ q, 0 ≤ Ph (eqv q) H) : 0 ≤ sumAp G H qs ∧ sumAp G H qs ≤ Ph one G + Ph one H := by
  have e1 := ph_vals hv.up one G hv.a
  have e2 := ph_vals hv.up one H hv.b
  rw [← e1, ← e2, ← sum_add]
  clear e1 e2 hv
  unfold sumAp
  induction qs with
  | nil => exact ⟨Rat.le_refl, Rat.le_refl⟩
  | cons q qs ih =>
    have h1 := hG q
    have h2 := hH q
    have h3 := aq_nn (dq G H q)
    have h4 : aq (dq G H q) ≤ one q * Ph (eqv q) G + one q * Ph (eqv q) H := by
      unfold aq dq one
      split <;> grind
    show 0 ≤ aq (dq G H q) + (qs.map fun q => aq (dq G H q)).sum ∧ aq (dq G H q) + (qs.map fun q => aq (dq G H q)).sum ≤ (one q * Ph (eqv q) G + one q * Ph (eqv q) H) + (qs.map fun q => one q * Ph (eqv q) G + one q * Ph (eqv q) H).sum
    generalize (qs.map fun q => aq (dq G H q)).sum = A at *
    generalize (qs.map fun q => one q * Ph (eqv q) G + one q * Ph (eqv q) H).sum = B at *
    constructor <;> grind
theorem both_t (h : shareB x0 x1 = true) (k : shareB y0 y1 = true) : bothOk x0 x1 y0 y1 = true := by unfold bothOk; rw [h, k]; rfl
theorem half_vl : Vl .f32 (some 1056964608) (1 / 2) := by
  have := vl_of (k := .f32) (b := 1056964608) (s := false) (m := 8388608) (p := -24) (by decide)
  have e : vD (.number false 8388608 (-24)) = 1 / 2 := by
    show mg 8388608 (-24) = 1 / 2
    have := p2_24
    unfold mg
    show (8388608 : Rat) * p2 (-24) = 1 / 2
    grind
  rwa [e] at this
theorem apart_vl (ha : DSh G x0 x1) (hb : DSh H y0 y1) {qs : List Rat} (hv : Vals G H qs) (he : vbQ x0 y0 = qs) :
    ∃ B b, bothOk x0 x1 y0 y1 = true ∧ apartV x0 x1 y0 y1 = some B ∧ Vl .f32 (some B) b ∧ sumAp G H qs / 2 - p2 (-17) ≤ b ∧ b ≤ sumAp G H qs / 2 + p2 (-17) := by
  have A2 := ha.t2
  have B2 := hb.t2
  have q16 : p2 (-16) * 65536 = 1 := p2m 16
  have q22 : p2 (-22) * 4194304 = 1 := p2m 22
  have q17 : p2 (-17) * 131072 = 1 := p2m 17
  have q23 := p2_23
  have e2 : p2 2 = 4 := p2_nat 2
  obtain ⟨S0, S2⟩ := sumAp_le hv (fun q => (ha.gsh.chance q).2.1) (fun q => (hb.gsh.chance q).2.1)
  have hL : ((qs.length : Nat) : Rat) ≤ 12 := Rat.natCast_le_natCast.2 hv.len
  have hL0 : (0 : Rat) ≤ ((qs.length : Nat) : Rat) := Rat.natCast_nonneg
  have hLb := Rat.mul_le_mul_of_nonneg_right hL (c := p2 (-23) + p2 (-22)) (by grind)
  obtain ⟨r, hr, r1, r2⟩ := sum_near (E := 2) (in32 (by omega) (by omega)) (rep32 (by omega) (by omega)) (fun q => sizeO (awayQ x0 x1 y0 y1 q)) (fun q => aq (dq G H q)) (fun q => aq (dq G H q)) (p2 (-23)) (p2_nn _) qs (some 0) 0 0 0 0 Rat.le_refl vl_zero (by grind) (by grind) (by grind) (by grind)
    (fun q _ => away_vl ha hb q) (fun q _ => ⟨by have := aq_nn (dq G H q); grind, Rat.le_refl⟩) (by
      show 0 + sumAp G H qs + (0 + ((qs.length : Nat) : Rat)) * (p2 (-23) + p2 (2 - 24)) ≤ p2 2
      rw [show (2 : Int) - 24 = -22 by omega, e2]; grind)
  rw [show (2 : Int) - 24 = -22 by omega] at r1 r2
  have r1' : sumAp G H qs - 12 * (p2 (-23) + p2 (-22)) ≤ r := by
    have : 0 + sumAp G H qs - (0 + ((qs.length : Nat) : Rat)) * (p2 (-23) + p2 (-22)) ≤ r := r1
    grind
  have r2' : r ≤ sumAp G H qs + 12 * (p2 (-23) + p2 (-22)) := by
    have : r ≤ 0 + sumAp G H qs + (0 + ((qs.length : Nat) : Rat)) * (p2 (-23) + p2 (-22)) := r2
    grind
  obtain ⟨s, hs, hn⟩ := vl_mul half_vl hr (lo := -p2 1) (hi := p2 1) (rep_neg (rep32 (by omega) (by omega))) (rep32 (by omega) (by omega)) (by rw [p2_1]; grind) (by rw [p2_1]; grind)
  obtain ⟨s1, s2⟩ := hn.err (e := -23) (in32 (by omega) (by omega)) (by rw [gB32, show (-23 : Int) + 24 = 1 by omega, p2_1]; grind) (by rw [gB32, show (-23 : Int) + 24 = 1 by omega, p2_1]; grind)
  have hok : bothOk x0 x1 y0 y1 = true := both_t ha.gsh.ok hb.gsh.ok
  have hs' := hs
  obtain ⟨B, eB, -⟩ := hs
  rw [eB] at hs'
  refine ⟨B, s, hok, ?_, hs', by grind, by grind⟩
  unfold apartV
  rw [if_pos hok, he]
  exact eB
/-- A share is not apart from itself. -/
theorem apart_self (ha : DSh G x0 x1) : ∃ B, apartV x0 x1 x0 x1 = some B ∧ Vl .f32 (some B) 0 := by
  have hz : ∀ q, Vl .f32 (sizeO (awayQ x0 x1 x0 x1 q)) 0 := fun q => by
    obtain ⟨a, -, -⟩ := ha.gsh.chance q
    have e : Ph (eqv q) G - Ph (eqv q) G = 0 := by grind
    obtain ⟨r, hr, hn⟩ := vl_sub a a (lo := 0) (hi := 0) rep0 rep0 (by grind) (by grind)
    rw [e] at hn
    rw [hn.exact rep0] at hr
    have := size_vl hr
    have e2 : aq 0 = 0 := by unfold aq; split <;> grind
    rwa [e2] at this
  have hf : ∀ (qs : List Rat) (d : Option Nat), Vl .f32 d 0 → Vl .f32 (qs.foldl (fun m q => opF .add .f32 m (sizeO (awayQ x0 x1 x0 x1 q))) d) 0 := by
    intro qs
    induction qs with
    | nil => exact fun d h => h
    | cons q qs ih =>
      intro d hd
      obtain ⟨r, hr, hn⟩ := vl_add hd (hz q) (lo := 0) (hi := 0) rep0 rep0 (by grind) (by grind)
      have e : (0 : Rat) + 0 = 0 := by grind
      rw [e] at hn
      rw [hn.exact rep0] at hr
      exact ih _ hr
  have h := hf (vbQ x0 x0) (some 0) vl_zero
  obtain ⟨r, hr, hn⟩ := vl_mul half_vl h (lo := 0) (hi := 0) rep0 rep0 (by grind) (by grind)
  have e : (1 : Rat) / 2 * 0 = 0 := by grind
  rw [e] at hn
  rw [hn.exact rep0] at hr
  have hr' := hr
  obtain ⟨B, eB, -⟩ := hr
  rw [eB] at hr'
  refine ⟨B, ?_, hr'⟩
  unfold apartV
  rw [if_pos (both_t ha.gsh.ok ha.gsh.ok)]
  exact eB

/-! ### steps -/
theorem below_vlQ (h : DSh G x0 x1) {q : Rat} (hq : ∃ t, finB t = true ∧ val t = q) : ∃ r, Vl .f32 (belowQ x0 x1 q x0.length) r ∧ Ph (ind q) G - p2 (-20) ≤ r ∧ r ≤ Ph (ind q) G + p2 (-20) ∧ 0 ≤ Ph (ind q) G ∧ Ph (ind q) G ≤ 1 + p2 (-16) := by
  obtain ⟨t, ft, rfl⟩ := hq
  obtain ⟨B, b, h1, h2, h3, h4⟩ := h.belowX ft
  rw [belowV_yes h1, belowTo_val (share_fin0 h.gsh.ok) ft h.gsh.len1 _ (Nat.le_refl _)] at h2
  rw [h2]
  exact ⟨b, h3, h4⟩
theorem half_sum (g d : Rat → Rat) (hg : ∀ q, g q = 0 ∨ g q = 1) : ∀ qs : List Rat, 2 * (qs.map fun q => g q * d q).sum - (qs.map d).sum ≤ (qs.map fun q => aq (d q)).sum ∧ -(qs.map fun q => aq (d q)).sum ≤ 2 * (qs.map fun q => g q * d q).sum - (qs.map d).sum
  | [] => by
    show 2 * (0 : Rat) - 0 ≤ 0 ∧ -(0 : Rat) ≤ 2 * 0 - 0
    constructor <;> grind
  | q :: qs => by
    obtain ⟨h1, h2⟩ := half_sum g d hg qs
    have h3 : d q ≤ aq (d q) ∧ -d q ≤ aq (d q) := by unfold aq; split <;> constructor <;> grind
    show 2 * (g q * d q + (qs.map fun q => g q * d q).sum) - (d q + (qs.map d).sum) ≤ aq (d q) + (qs.map fun q => aq (d q)).sum ∧ -(aq (d q) + (qs.map fun q => aq (d q)).sum) ≤ 2 * (g q * d q + (qs.map fun q => g q * d q).sum) - (d q + (qs.map d).sum)
    generalize (qs.map fun q => g q * d q).sum = A at *
    generalize (qs.map fun q => aq (d q)).sum = B at *
    generalize (qs.map d).sum = C at *
    rcases hg q with e | e <;> rw [e] <;> constructor <;> grind
theorem steps_vl (ha : DSh G x0 x1) (hb : DSh H y0 y1) {qs : List Rat} (hv : Vals G H qs) (he : vbQ x0 y0 = qs) :
    ∃ B b, stepsV x0 x1 y0 y1 = some B ∧ Vl .f32 (some B) b ∧ 0 ≤ b ∧ b ≤ sumAp G H qs / 2 + p2 (-14) := by
  have A1 := ha.t1
  have B1 := hb.t1
  have A2 := ha.t2
  have B2 := hb.t2
  have q16 : p2 (-16) * 65536 = 1 := p2m 16
  have q14 : p2 (-14) * 16384 = 1 := p2m 14
  have q20 : p2 (-20) * 1048576 = 1 := p2m 20
  have q23 := p2_23
  have e1 := p2_1
  have eT : (qs.map fun q => dq G H q).sum = Ph one G - Ph one H := by
    rw [← ph_vals hv.up one G hv.a, ← ph_vals hv.up one H hv.b]
    have : ∀ l : List Rat, (l.map fun q => dq G H q).sum = (l.map fun q => one q * Ph (eqv q) G).sum - (l.map fun q => one q * Ph (eqv q) H).sum := by
      intro l
      induction l with
      | nil => show (0 : Rat) = 0 - 0; grind
      | cons q l ih =>
        show dq G H q + (l.map fun q => dq G H q).sum = (one q * Ph (eqv q) G + (l.map fun q => one q * Ph (eqv q) G).sum) - (one q * Ph (eqv q) H + (l.map fun q => one q * Ph (eqv q) H).sum)
        rw [ih]
        unfold dq one
        grind
    exact this qs
  have eI : ∀ t, (qs.map fun q => ind t q * dq G H q).sum = Ph (ind t) G - Ph (ind t) H := by
    intro t
    rw [← ph_vals hv.up (ind t) G hv.a, ← ph_vals hv.up (ind t) H hv.b]
    have : ∀ l : List Rat, (l.map fun q => ind t q * dq G H q).sum = (l.map fun q => ind t q * Ph (eqv q) G).sum - (l.map fun q => ind t q * Ph (eqv q) H).sum := by
      intro l
      induction l with
      | nil => show (0 : Rat) = 0 - 0; grind
      | cons q l ih =>
        show ind t q * dq G H q + (l.map fun q => ind t q * dq G H q).sum = (ind t q * Ph (eqv q) G + (l.map fun q => ind t q * Ph (eqv q) G).sum) - (ind t q * Ph (eqv q) H + (l.map fun q => ind t q * Ph (eqv q) H).sum)
        rw [ih]
        unfold dq
        grind
    exact this qs
  have hgap : ∀ q ∈ qs, ∃ r, Vl .f32 (sizeO (gapQ x0 x1 y0 y1 q)) r ∧ 0 ≤ r ∧ r ≤ sumAp G H qs / 2 + p2 (-14) := by
    intro q hq
    obtain ⟨a, va, a1, a2, a3, a4⟩ := below_vlQ ha (hv.w q hq)
    obtain ⟨b, vb, b1, b2, b3, b4⟩ := below_vlQ hb (hv.w q hq)
    obtain ⟨r, hr, hn⟩ := vl_sub va vb (lo := -p2 1) (hi := p2 1) (rep_neg (rep32 (by omega) (by omega))) (rep32 (by omega) (by omega)) (by rw [e1]; grind) (by rw [e1]; grind)
    obtain ⟨r1, r2⟩ := hn.err (e := -23) (in32 (by omega) (by omega)) (by rw [gB32, show (-23 : Int) + 24 = 1 by omega, e1]; grind) (by rw [gB32, show (-23 : Int) + 24 = 1 by omega, e1]; grind)
    obtain ⟨h1, h2⟩ := half_sum (ind q) (dq G H) (fun v => by unfold ind; split <;> simp) qs
    rw [eI q, eT] at h1 h2
    refine ⟨_, size_vl hr, aq_nn r, ?_⟩
    have hS : (qs.map fun q => aq (dq G H q)).sum = sumAp G H qs := rfl
    rw [hS] at h1 h2
    unfold aq
    split <;> grind
  have hf : ∀ (l : List Rat) (d : Option Nat), (∀ q ∈ l, q ∈ qs) → (∃ r, Vl .f32 d r ∧ 0 ≤ r ∧ r ≤ sumAp G H qs / 2 + p2 (-14)) → ∃ r, Vl .f32 (l.foldl (fun m q => bigO m (sizeO (gapQ x0 x1 y0 y1 q))) d) r ∧ 0 ≤ r ∧ r ≤ sumAp G H qs / 2 + p2 (-14) := by
    intro l
    induction l with
    | nil => exact fun d _ h => h
    | cons q l ih =>
      intro d hl hd
      refine ih _ (fun x hx => hl x (by simp [hx])) ?_
      unfold bigO
      dsimp only
      split
      · exact hgap q (hl q (by simp))
      · exact hd
  obtain ⟨S0, -⟩ := sumAp_le hv (fun q => (ha.gsh.chance q).2.1) (fun q => (hb.gsh.chance q).2.1)
  obtain ⟨r, hr, r1, r2⟩ := hf qs (some 0) (fun _ h => h) ⟨0, vl_zero, Rat.le_refl, by grind⟩
  have hr' := hr
  obtain ⟨B, eB, -⟩ := hr
  rw [eB] at hr'
  refine ⟨B, r, ?_, hr', r1, r2⟩
  unfold stepsV
  rw [if_pos (both_t ha.gsh.ok hb.gsh.ok), he]
  exact eB
end

section
open Go.RowKit
section
variable {k : FloatKind} {x y o : Option Nat} {u v lo hi : Rat}
theorem vx_mul (hx : Vl k x u) (hy : Vl k y v) (hlo : RepK k lo) (hhi : RepK k hi) (h1 : lo ≤ u * v) (h2 : u * v ≤ hi) : ∃ r, Vl k (opF .mul k x y) r ∧ lo ≤ r ∧ r ≤ hi := by
  obtain ⟨r, hr, hn⟩ := vl_mul hx hy hlo hhi h1 h2
  exact ⟨r, hr, hn.1 _ hlo h1, hn.2 _ hhi h2⟩
theorem vx_add (hx : Vl k x u) (hy : Vl k y v) (hlo : RepK k lo) (hhi : RepK k hi) (h1 : lo ≤ u + v) (h2 : u + v ≤ hi) : ∃ r, Vl k (opF .add k x y) r ∧ lo ≤ r ∧ r ≤ hi := by
  obtain ⟨r, hr, hn⟩ := vl_add hx hy hlo hhi h1 h2
  exact ⟨r, hr, hn.1 _ hlo h1, hn.2 _ hhi h2⟩
theorem vx_sub (hx : Vl k x u) (hy : Vl k y v) (hlo : RepK k lo) (hhi : RepK k hi) (h1 : lo ≤ u - v) (h2 : u - v ≤ hi) : ∃ r, Vl k (opF .sub k x y) r ∧ lo ≤ r ∧ r ≤ hi := by
  obtain ⟨r, hr, hn⟩ := vl_sub hx hy hlo hhi h1 h2
  exact ⟨r, hr, hn.1 _ hlo h1, hn.2 _ hhi h2⟩
theorem vx_quo (hx : Vl k x u) (hy : Vl k y v) (hv : 0 < v) (hlo : RepK k lo) (hhi : RepK k hi) (h1 : lo * v ≤ u) (h2 : u ≤ hi * v) : ∃ r, Vl k (opF .quo k x y) r ∧ lo ≤ r ∧ r ≤ hi := (bet_quoV hx hy hv hlo hhi h1 h2).vl
end
theorem rq64 (z : Int) (e : Int) (hz : z.natAbs ≤ 9007199254740992) (h1 : -1022 ≤ e) (h2 : e ≤ 900) : RepK .f64 ((z : Rat) * p2 e) := rep_grid (in64 h1 h2) hz
theorem rq32 (z : Int) (e : Int) (hz : z.natAbs ≤ 16777216) (h1 : -126 ≤ e) (h2 : e ≤ 100) : RepK .f32 ((z : Rat) * p2 e) := rep_grid (in32 h1 h2) hz
/-- A number of the format: a whole number over a power of two. -/
theorem r64 (z : Int) (n : Nat) {c : Rat} (hz : z.natAbs ≤ 9007199254740992) (hn : n ≤ 1000) (h : (z : Rat) = c * ((2 ^ n : Nat) : Rat)) : RepK .f64 c := by
  have := rq64 z (-(n : Int)) hz (by omega) (by omega)
  have e : (z : Rat) * p2 (-(n : Int)) = c := by
    have h2 := p2m n
    rw [h, Rat.mul_assoc, Rat.mul_comm ((2 ^ n : Nat) : Rat), h2, Rat.mul_one]
  rwa [e] at this
theorem r32 (z : Int) (n : Nat) {c : Rat} (hz : z.natAbs ≤ 16777216) (hn : n ≤ 120) (h : (z : Rat) = c * ((2 ^ n : Nat) : Rat)) : RepK .f32 c := by
  have := rq32 z (-(n : Int)) hz (by omega) (by omega)
  have e : (z : Rat) * p2 (-(n : Int)) = c := by
    have h2 := p2m n
    rw [h, Rat.mul_assoc, Rat.mul_comm ((2 ^ n : Nat) : Rat), h2, Rat.mul_one]
  rwa [e] at this
theorem one64 : Vl .f64 (some 4607182418800017408) 1 := by
  have := vl_of (k := .f64) (b := 4607182418800017408) (s := false) (m := 2 ^ 52) (p := -52) (by decide)
  simp only [vD, sg_f] at this
  rw [mg_pow] at this
  exact this
theorem two64 : Vl .f64 (some 4611686018427387904) 2 := by
  have := vl_of (k := .f64) (b := 4611686018427387904) (s := false) (m := 2 ^ 52) (p := -51) (by decide)
  simp only [vD, sg_f] at this
  rw [mg_pow] at this
  rwa [show (-51 : Int) + ((52 : Nat) : Int) = 1 by omega, p2_1] at this
theorem ln64 : ∃ L, Vl .f64 (some 4604418534313441775) L ∧ 693 / 1000 ≤ L ∧ L ≤ 710 / 1024 := by
  have q : p2 (-53) * 9007199254740992 = 1 := p2m 53
  refine ⟨_, vl_of (k := .f64) (b := 4604418534313441775) (s := false) (m := 6243314768165359) (p := -53) (by decide), ?_, ?_⟩
  · show _ ≤ (6243314768165359 : Rat) * p2 (-53)
    grind
  · show (6243314768165359 : Rat) * p2 (-53) ≤ 710 / 1024
    grind
theorem vl_int64 {z : Int} (h : z.natAbs ≤ 9007199254740992) : Vl .f64 (some (dI z)) (z : Rat) := by
  have hr : RepK .f64 (z : Rat) := by
    have := rq64 z 0 h (by omega) (by omega)
    rwa [p2_zero, Rat.mul_one] at this
  have hv : vD (.number (decide (z < 0)) z.natAbs 0) = (z : Rat) := by
    simp only [vD]
    unfold mg
    rw [p2_zero, Rat.mul_one, ← Rat.intCast_natCast]
    by_cases hz : z < 0
    · rw [decide_eq_true hz, sg_t, ← Rat.intCast_neg]
      congr 1
      omega
    · rw [decide_eq_false hz, sg_f]
      congr 1
      omega
  refine ⟨_, rfl, ?_⟩
  rw [show dI z = FloatKind.f64.encode (.number (decide (z < 0)) z.natAbs 0) from rfl]
  exact enc_bet hr hr (by rw [hv]; exact Rat.le_refl) (by rw [hv]; exact Rat.le_refl)
/-! ### Horner's rounds -/
theorem logQ_vl {U : Option Nat} {u : Rat} (hu : Vl .f64 U u) (u0 : 0 ≤ u) (u1 : u ≤ 1 / 16) : ∀ j : Nat, j ≤ 13 → ∃ q, Vl .f64 (logQ U j) q ∧ 0 ≤ q ∧ q ≤ 9 / 8
  | 0, _ => ⟨0, by
      have := vl_of (k := .f64) (b := 0) (s := false) (m := 0) (p := -1074) (by decide)
      rwa [show vD (.number false 0 (-1074)) = 0 from mg_zero _] at this, Rat.le_refl, by grind⟩
  | j + 1, hj => by
    obtain ⟨q, hq, q0, q1⟩ := logQ_vl hu u0 u1 j (by omega)
    have hk := vl_nat (k := .f64) (n := 25 - 2 * j) (by show 25 - 2 * j ≤ 9007199254740992; omega) (in64 (by omega) (by omega))
    have hk1 : (1 : Rat) ≤ ((25 - 2 * j : Nat) : Rat) := one_le_cast (by omega)
    obtain ⟨d, hd, d0, d1⟩ := vx_quo one64 hk (by grind) rep0 rep1 (by grind) (by grind)
    have hm := mul_bd (a := u) (A := 1 / 16) (by grind) (by grind) (b := q) (B := 9 / 8) (by grind) q1
    have hm0 := Rat.mul_nonneg u0 q0
    obtain ⟨m, hm', m0, m1⟩ := vx_mul hu hq (hi := 9 / 128) rep0 (r64 9 7 (by omega) (by omega) (by decide +kernel)) hm0 (by grind)
    obtain ⟨r, hr, r0, r1⟩ := vx_add hd hm' (hi := 9 / 8) rep0 (r64 9 3 (by omega) (by omega) (by decide +kernel)) (by grind) (by grind)
    refine ⟨r, ?_, r0, r1⟩
    show Vl .f64 (opF .add .f64 (opF .quo .f64 (some 4607182418800017408) (some (dI (25 - 2 * (j : Int))))) (opF .mul .f64 U (logQ U j))) r
    rw [show (25 - 2 * (j : Int)) = ((25 - 2 * j : Nat) : Int) by omega]
    exact hr
/-! ### the logarithm of a number from 0.75 to 1.5, and of a power of two -/
theorem logS_vl {Y : Nat} {y : Rat} (hY : Vl .f64 (some Y) y) (y1 : 3 / 4 ≤ y) (y2 : y < 3 / 2) :
    ∃ s, Vl .f64 (logS (some Y)) s ∧ -(5 / 32) ≤ s ∧ s ≤ 1 / 4 ∧ (1 ≤ y → 0 ≤ s) ∧ (y ≤ 1 + 1 / 65536 → s ≤ 1 / 65536) := by
  have e53 : p2 (-53) * 9007199254740992 = 1 := p2m 53
  have e45 : p2 (-45) * 35184372088832 = 1 := p2m 45
  have e0 := p2_zero
  have ep8 : p2 8 = 256 := p2_nat 8
  have rA : RepK .f64 (-(1 / 4)) := r64 (-1) 2 (by omega) (by omega) (by decide +kernel)
  have rB : RepK .f64 (1 / 2) := r64 1 1 (by omega) (by omega) (by decide +kernel)
  have rS : RepK .f64 (1 / 65536) := r64 1 16 (by omega) (by omega) (by decide +kernel)
  obtain ⟨a, ha, na⟩ := vl_sub hY one64 rA rB (by grind) (by grind)
  have a1 := na.1 _ rA (by grind)
  have aer := na.err (e := -53) (in64 (by omega) (by omega)) (by rw [gB64, show (-53 : Int) + 53 = 0 by omega]; grind) (by rw [gB64, show (-53 : Int) + 53 = 0 by omega]; grind)
  have rC : RepK .f64 (7 / 4) := r64 7 2 (by omega) (by omega) (by decide +kernel)
  have rD : RepK .f64 (5 / 2) := r64 5 1 (by omega) (by omega) (by decide +kernel)
  obtain ⟨b, hb, nb⟩ := vl_add hY one64 rC rD (by grind) (by grind)
  have b1 := nb.1 _ rC (by grind)
  have ber := nb.err (e := -45) (in64 (by omega) (by omega)) (by rw [gB64, show (-45 : Int) + 53 = 8 by omega]; grind) (by rw [gB64, show (-45 : Int) + 53 = 8 by omega]; grind)
  have rE : RepK .f64 (-(5 / 32)) := r64 (-5) 5 (by omega) (by omega) (by decide +kernel)
  have rF : RepK .f64 (1 / 4) := r64 1 2 (by omega) (by omega) (by decide +kernel)
  have hbq := bet_quoV ha hb (by grind) rE rF (by grind) (by grind)
  obtain ⟨s, hs, s1, s2⟩ := hbq.vl
  refine ⟨s, hs, s1, s2, fun h => (hs.le (bet_quoV ha hb (by grind) rep0 rF (by have := na.1 _ rep0 (by grind); grind) (by grind))).1, fun h => (hs.le (bet_quoV ha hb (by grind) rE rS (by grind) ?_)).2⟩
  have := na.2 _ rS (by grind)
  grind
theorem logB_vl {Y n : Nat} {y : Rat} (hY : Vl .f64 (some Y) y) (y1 : 3 / 4 ≤ y) (y2 : y < 3 / 2) (hn : n ≤ 300) :
    ∃ l, Vl .f64 (logB (some Y) (some (dI (-(n : Int))))) l ∧ (y < 1 → -(361 + 711 * (n : Rat)) / 1024 ≤ l) ∧ (1 ≤ y → -(1 + 711 * (n : Rat)) / 1024 ≤ l) ∧ (1 ≤ n → l ≤ 0) ∧ (n = 0 → y ≤ 1 + 1 / 65536 → l ≤ 5 / 131072) ∧ l ≤ 1 := by
  have e45 : p2 (-45) * 35184372088832 = 1 := p2m 45
  have ep8 : p2 8 = 256 := p2_nat 8
  obtain ⟨s, hs, s1, s2, spos, ssm⟩ := logS_vl hY y1 y2
  have ss := mul_bd (a := s) (A := 1 / 4) (by grind) (by grind) (b := s) (B := 1 / 4) (by grind) (by grind)
  have ss0 : 0 ≤ s * s := by
    by_cases h : 0 ≤ s
    · exact Rat.mul_nonneg h h
    · have := Rat.mul_nonneg (a := -s) (b := -s) (by grind) (by grind)
      grind
  obtain ⟨u, hu, u0, u1⟩ := vx_mul hs hs (hi := 1 / 16) rep0 (r64 1 4 (by omega) (by omega) (by decide +kernel)) ss0 (by grind)
  obtain ⟨q, hq, q0, q1⟩ := logQ_vl hu u0 u1 13 (by omega)
  -- t = s q
  have rH : RepK .f64 (-(45 / 256)) := r64 (-45) 8 (by omega) (by omega) (by decide +kernel)
  have rI : RepK .f64 (9 / 32) := r64 9 5 (by omega) (by omega) (by decide +kernel)
  have rJ : RepK .f64 (9 / 524288) := r64 9 19 (by omega) (by omega) (by decide +kernel)
  have tlo : -(45 / 256) ≤ s * q := by
    by_cases h : 0 ≤ s
    · have := Rat.mul_nonneg h q0; grind
    · have := mul_bd (a := s) (A := 5 / 32) (by grind) (by grind) (b := q) (B := 9 / 8) (by grind) q1
      grind
  have thi : s * q ≤ 9 / 32 := by
    have := mul_bd (a := s) (A := 1 / 4) (by grind) (by grind) (b := q) (B := 9 / 8) (by grind) q1
    grind
  obtain ⟨t, ht, nt⟩ := vl_mul hs hq rH rI tlo thi
  have t1 := nt.1 _ rH tlo
  have t2 := nt.2 _ rI thi
  have tpos : 1 ≤ y → 0 ≤ t := fun h => nt.1 _ rep0 (Rat.mul_nonneg (spos h) q0)
  have tsm : y ≤ 1 + 1 / 65536 → t ≤ 9 / 524288 := fun h => nt.2 _ rJ (by
    have h2 := ssm h
    by_cases h3 : 0 ≤ s
    · have := mul_bd (a := s) (A := 1 / 65536) (by grind) h2 (b := q) (B := 9 / 8) (by grind) q1
      grind
    · have := Rat.mul_nonneg (a := -s) (b := q) (by grind) q0
      grind)
  -- 2 t
  have rK : RepK .f64 (-(45 / 128)) := r64 (-45) 7 (by omega) (by omega) (by decide +kernel)
  have rL : RepK .f64 (9 / 16) := r64 9 4 (by omega) (by omega) (by decide +kernel)
  have rM : RepK .f64 (9 / 262144) := r64 9 18 (by omega) (by omega) (by decide +kernel)
  obtain ⟨w, hw, nw⟩ := vl_mul two64 ht rK rL (by grind) (by grind)
  have w1 := nw.1 _ rK (by grind)
  have w2 := nw.2 _ rL (by grind)
  have wpos : 1 ≤ y → 0 ≤ w := fun h => nw.1 _ rep0 (by have := tpos h; grind)
  have wsm : y ≤ 1 + 1 / 65536 → w ≤ 9 / 262144 := fun h => nw.2 _ rM (by have := tsm h; grind)
  -- n ln 2
  obtain ⟨L, hL, L1, L2⟩ := ln64
  have hE := vl_int64 (z := -(n : Int)) (by omega)
  have hnR : ((-(n : Int) : Int) : Rat) = -(n : Rat) := by rw [Rat.intCast_neg, Rat.intCast_natCast]
  rw [hnR] at hE
  have hn0 : (0 : Rat) ≤ (n : Rat) := Rat.natCast_nonneg
  have hn3 : (n : Rat) ≤ 300 := Rat.natCast_le_natCast.2 hn
  have nL1 := Rat.mul_le_mul_of_nonneg_left L1 hn0
  have nL2 := Rat.mul_le_mul_of_nonneg_left L2 hn0
  have rN : RepK .f64 (-256) := r64 (-256) 0 (by omega) (by omega) (by decide +kernel)
  obtain ⟨m, hm, nm⟩ := vl_mul hE hL rN rep0 (by grind) (by grind)
  have m0 := nm.2 _ rep0 (by grind)
  have mer := nm.err (e := -45) (in64 (by omega) (by omega)) (by rw [gB64, show (-45 : Int) + 53 = 8 by omega]; grind) (by rw [gB64, show (-45 : Int) + 53 = 8 by omega]; grind)
  -- the sum
  have rO : RepK .f64 (-512) := r64 (-512) 0 (by omega) (by omega) (by decide +kernel)
  obtain ⟨l, hl, nl⟩ := vl_add hw hm (lo := -512) (hi := 1) rO rep1 (by grind) (by grind)
  have cst : ∀ a : Int, ((-(a + 711 * (n : Int)) : Int) : Rat) = -((a : Rat) + 711 * (n : Rat)) := fun a => by
    rw [Rat.intCast_neg, Rat.intCast_add, Rat.intCast_mul, Rat.intCast_natCast]; rfl
  have rP : RepK .f64 (-(361 + 711 * (n : Rat)) / 1024) := r64 (-(361 + 711 * (n : Int))) 10 (by omega) (by omega) (by rw [cst]; show -((361 : Rat) + _) = _ * (1024 : Rat); grind)
  have rQ : RepK .f64 (-(1 + 711 * (n : Rat)) / 1024) := r64 (-(1 + 711 * (n : Int))) 10 (by omega) (by omega) (by rw [cst]; show -((1 : Rat) + _) = _ * (1024 : Rat); grind)
  have rR : RepK .f64 (5 / 131072) := r64 5 17 (by omega) (by omega) (by decide +kernel)
  refine ⟨l, hl, fun h => nl.1 _ rP (by grind), fun h => nl.1 _ rQ (by have := wpos h; grind), fun h => nl.2 _ rep0 ?_, fun h h' => nl.2 _ rR (by have := wsm h'; grind), nl.2 _ rep1 (by grind)⟩
  have : (1 : Rat) ≤ (n : Rat) := one_le_cast h
  grind

/-! ### the logarithm of a chance -/
theorem rV_twice {R : Nat} (h : 4503599627370496 ≤ R) : rV FloatKind.f64.format (R + 4503599627370496) = 2 * rV FloatKind.f64.format R := by
  obtain ⟨h1, h2⟩ := rung_next (f := FloatKind.f64.format) (R := R) h
  have hb : FloatKind.f64.format.binade = 4503599627370496 := by decide
  rw [hb] at h1 h2
  rw [rV_eq, rV_eq, h1, h2]
  unfold mg
  rw [show FloatKind.f64.format.leastPlace + ((rJ FloatKind.f64.format R + 1 : Nat) : Int) = FloatKind.f64.format.leastPlace + (rJ FloatKind.f64.format R : Int) + 1 by omega, p2_add _ 1, p2_1]
  grind
theorem rV_pow : ∀ (n R : Nat), 4503599627370496 ≤ R → rV FloatKind.f64.format (R + n * 4503599627370496) = ((2 ^ n : Nat) : Rat) * rV FloatKind.f64.format R
  | 0, R, _ => by
    rw [Nat.zero_mul, Nat.add_zero]
    show _ = ((1 : Nat) : Rat) * _
    rw [show ((1 : Nat) : Rat) = 1 from rfl, Rat.one_mul]
  | n + 1, R, h => by
    rw [show R + (n + 1) * 4503599627370496 = (R + n * 4503599627370496) + 4503599627370496 by omega, rV_twice (by omega), rV_pow n R h, Nat.pow_succ, Rat.natCast_mul]
    rw [show ((2 : Nat) : Rat) = 2 from rfl]
    grind
theorem rV_34 : rV FloatKind.f64.format 4604930618986332160 = 3 / 4 := by
  have e1 : rM FloatKind.f64.format 4604930618986332160 = 6755399441055744 := by decide
  have e2 : rJ FloatKind.f64.format 4604930618986332160 = 1021 := by decide
  rw [rV_eq, e1, e2]
  have q : p2 (-53) * 9007199254740992 = 1 := p2m 53
  show (6755399441055744 : Rat) * p2 (-53) = 3 / 4
  grind
theorem rV_32 : rV FloatKind.f64.format 4609434218613702656 = 3 / 2 := by
  have := rV_twice (R := 4604930618986332160) (by omega)
  rw [rV_34] at this
  rw [show (4604930618986332160 + 4503599627370496 : Nat) = 4609434218613702656 by omega] at this
  rw [this]; grind
theorem two_pow_ge : ∀ n : Nat, 1 ≤ n → 2 * n ≤ 2 ^ n
  | 1, _ => by decide
  | n + 2, _ => by
    have := two_pow_ge (n + 1) (by omega)
    rw [Nat.pow_succ]; omega
theorem log32_vl {c : Nat} (fc : finB c = true) (h0 : 0 < val c) (h1 : val c ≤ 1 + 1 / 65536) : ∃ l, Vl .f32 (log32 c) l ∧ -(67 / 128) ≤ val c * l ∧ val c * l ≤ 6 / 131072 := by
  have hp : posB c = true := by
    have f0 : finB 0 = true := by decide
    have v0 : val 0 = 0 := vl_val vl_zero
    unfold posB
    rw [fc, (gt_val fc f0).2 (by rw [v0]; exact h0)]
    rfl
  obtain ⟨x1, x2⟩ := pos_up hp
  have vx : Vl .f64 (some (upBits c)) (val c) := vl_up (fin_vl fc)
  rw [log32_pos hp]
  generalize upBits c = X at *
  generalize val c = v at *
  have hX : X < FloatKind.f64.format.infRung := by show X < 9218868437227405312; omega
  have ev : v = rV FloatKind.f64.format X := by
    have h2 := vl_of (k := .f64) (read_pos (k := .f64) hX)
    have h3 : vD (.number false (rM FloatKind.f64.format X) (FloatKind.f64.format.leastPlace + rJ FloatKind.f64.format X)) = rV FloatKind.f64.format X := (rV_eq _ _).symm
    rw [h3] at h2
    exact vx.uniq h2
  have hX2 : X < 4609434218613702656 := by
    refine (rV_iff (f := FloatKind.f64.format)).1 ?_
    rw [← ev, rV_32]; grind
  obtain ⟨n, hn⟩ : ∃ n : Nat, normE X = -(n : Int) ∧ n ≤ 300 := by
    have := normE_in (X := X) (by omega) (by omega)
    refine ⟨(-normE X).toNat, ?_, by omega⟩
    unfold normE at *
    omega
  obtain ⟨hE, hn3⟩ := hn
  have hYX : normY X = X + n * 4503599627370496 := by
    unfold normY
    unfold normE at hE
    omega
  obtain ⟨Y1, Y2⟩ := norm_in X
  have hYr : rV FloatKind.f64.format (normY X) = ((2 ^ n : Nat) : Rat) * v := by rw [hYX, rV_pow n X (by omega), ← ev]
  have yl : 3 / 4 ≤ rV FloatKind.f64.format (normY X) := by rw [← rV_34]; exact rV_le _ Y1
  have yh : rV FloatKind.f64.format (normY X) < 3 / 2 := by rw [← rV_32]; exact rV_lt Y2
  have vy : Vl .f64 (some (normY X)) (rV FloatKind.f64.format (normY X)) := by
    have h2 := vl_of (k := .f64) (read_pos (k := .f64) (R := normY X) (by show normY X < 9218868437227405312; omega))
    have h3 : vD (.number false (rM FloatKind.f64.format (normY X)) (FloatKind.f64.format.leastPlace + rJ FloatKind.f64.format (normY X))) = rV FloatKind.f64.format (normY X) := (rV_eq _ _).symm
    rwa [h3] at h2
  obtain ⟨l, vl, a1, a2, a3, a4, a5⟩ := logB_vl vy yl yh hn3
  rw [hE]
  generalize rV FloatKind.f64.format (normY X) = y at *
  clear hE hYX Y1 Y2 ev hX hX2 x1 x2 vx
  have cst : ∀ a : Int, ((-(a + 711 * (n : Int)) : Int) : Rat) = -((a : Rat) + 711 * (n : Rat)) := fun a => by
    rw [Rat.intCast_neg, Rat.intCast_add, Rat.intCast_mul, Rat.intCast_natCast]; rfl
  have rP : RepK .f32 (-(361 + 711 * (n : Rat)) / 1024) := r32 (-(361 + 711 * (n : Int))) 10 (by omega) (by omega) (by rw [cst]; show -((361 : Rat) + _) = _ * (1024 : Rat); grind)
  have rQ : RepK .f32 (-(1 + 711 * (n : Rat)) / 1024) := r32 (-(1 + 711 * (n : Int))) 10 (by omega) (by omega) (by rw [cst]; show -((1 : Rat) + _) = _ * (1024 : Rat); grind)
  have rR : RepK .f32 (5 / 131072) := r32 5 17 (by omega) (by omega) (by decide +kernel)
  have hn0 : (0 : Rat) ≤ (n : Rat) := Rat.natCast_nonneg
  by_cases hn1 : 1 ≤ n
  · have h2n : (2 : Rat) * (n : Rat) ≤ ((2 ^ n : Nat) : Rat) := by
      have := Rat.natCast_le_natCast.2 (two_pow_ge n hn1)
      rwa [Rat.natCast_mul] at this
    have hn1' : (1 : Rat) ≤ (n : Rat) := one_le_cast hn1
    generalize ((2 ^ n : Nat) : Rat) = T at *
    have b1 := Rat.mul_le_mul_of_nonneg_right h2n (Rat.le_of_lt h0)
    have b2 := Rat.mul_le_mul_of_nonneg_right (show (2 : Rat) ≤ T by grind) (Rat.le_of_lt h0)
    by_cases hy : y < 1
    · obtain ⟨r, hr, r1, r2⟩ := (bet_dn (vl.bet (a1 hy) (a3 hn1)) rP rep0).1.vl
      have m1 := Rat.mul_le_mul_of_nonneg_left r1 (Rat.le_of_lt h0)
      have m2 := Rat.mul_le_mul_of_nonneg_left r2 (Rat.le_of_lt h0)
      exact ⟨r, hr, by grind, by grind⟩
    · obtain ⟨r, hr, r1, r2⟩ := (bet_dn (vl.bet (a2 (by grind)) (a3 hn1)) rQ rep0).1.vl
      have m1 := Rat.mul_le_mul_of_nonneg_left r1 (Rat.le_of_lt h0)
      have m2 := Rat.mul_le_mul_of_nonneg_left r2 (Rat.le_of_lt h0)
      exact ⟨r, hr, by grind, by grind⟩
  · have hz : n = 0 := by omega
    subst hz
    have hyv : y = v := by
      rw [hYr]
      show ((1 : Nat) : Rat) * v = v
      rw [show ((1 : Nat) : Rat) = 1 from rfl, Rat.one_mul]
    have z0 : ((0 : Nat) : Rat) = 0 := rfl
    rw [z0] at *
    have a4' := a4 rfl (by rw [hyv]; exact h1)
    by_cases hy : y < 1
    · obtain ⟨r, hr, r1, r2⟩ := (bet_dn (vl.bet (a1 hy) a4') rP rR).1.vl
      have m1 := Rat.mul_le_mul_of_nonneg_left r1 (Rat.le_of_lt h0)
      have m2 := Rat.mul_le_mul_of_nonneg_left r2 (Rat.le_of_lt h0)
      exact ⟨r, hr, by grind, by grind⟩
    · obtain ⟨r, hr, r1, r2⟩ := (bet_dn (vl.bet (a2 (by grind)) a4') rQ rR).1.vl
      have m1 := Rat.mul_le_mul_of_nonneg_left r1 (Rat.le_of_lt h0)
      have m2 := Rat.mul_le_mul_of_nonneg_left r2 (Rat.le_of_lt h0)
      exact ⟨r, hr, by grind, by grind⟩
theorem lnf32 : ∃ L, Vl .f32 (some 1060205080) L ∧ 69 / 100 ≤ L ∧ L ≤ 70 / 100 := by
  have q := p2_24
  refine ⟨_, vl_of (k := .f32) (b := 1060205080) (s := false) (m := 11629080) (p := -24) (by decide), ?_, ?_⟩
  · show _ ≤ (11629080 : Rat) * p2 (-24)
    grind
  · show (11629080 : Rat) * p2 (-24) ≤ _
    grind
theorem entT_vl {c : Nat} (fc : finB c = true) (h0 : 0 < val c) (h1 : val c ≤ 1 + 1 / 65536) : ∃ t, Vl .f32 (entT c) t ∧ -(7 / 8) ≤ t ∧ t ≤ 9 / 131072 := by
  obtain ⟨l, hl, l1, l2⟩ := log32_vl fc h0 h1
  obtain ⟨L, hL, L1, L2⟩ := lnf32
  obtain ⟨m, hm, m1, m2⟩ := vx_mul (fin_vl fc) hl (lo := -(67 / 128)) (hi := 6 / 131072) (r32 (-67) 7 (by omega) (by omega) (by decide +kernel)) (r32 6 17 (by omega) (by omega) (by decide +kernel)) l1 l2
  obtain ⟨t, ht, t1, t2⟩ := vx_quo hm hL (by grind) (lo := -(7 / 8)) (hi := 9 / 131072) (r32 (-7) 3 (by omega) (by omega) (by decide +kernel)) (r32 9 17 (by omega) (by omega) (by decide +kernel)) (by grind) (by grind)
  refine ⟨t, ?_, t1, t2⟩
  unfold entT
  rw [(vl_fin (fin_vl fc)).2]
  exact ht
theorem ent_fold : ∀ (cs : List Nat) (d : Option Nat) (s : Rat) (k : Nat), k + cs.length ≤ 6 → (∀ c ∈ cs, finB c = true ∧ 0 ≤ val c ∧ val c ≤ 1 + 1 / 65536) → Vl .f32 d s → -(7 * (k : Rat)) / 8 ≤ s → s ≤ 9 * (k : Rat) / 131072 →
    ∃ r, Vl .f32 (cs.foldl entStep d) r ∧ -(42 / 8) ≤ r ∧ r ≤ 54 / 131072
  | [], d, s, k, hk, _, hd, h1, h2 => by
    have : (k : Rat) ≤ 6 := Rat.natCast_le_natCast.2 (by simpa using hk)
    exact ⟨s, hd, by grind, by grind⟩
  | c :: cs, d, s, k, hk, hc, hd, h1, h2 => by
    rw [List.length_cons] at hk
    obtain ⟨fc, c0, c1⟩ := hc c (by simp)
    have hk0 : (0 : Rat) ≤ (k : Rat) := Rat.natCast_nonneg
    have ek : ((k + 1 : Nat) : Rat) = (k : Rat) + 1 := Rat.natCast_add _ _
    have hc' : ∀ x ∈ cs, finB x = true ∧ 0 ≤ val x ∧ val x ≤ 1 + 1 / 65536 := fun x hx => hc x (by simp [hx])
    rw [List.foldl_cons]
    unfold entStep
    by_cases hg : posG c = true
    · rw [if_pos hg]
      have hv : 0 < val c := by
        have f0 : finB 0 = true := by decide
        have v0 : val 0 = 0 := vl_val vl_zero
        have := (gt_val fc f0).1 (eq_of_beq hg)
        rwa [v0] at this
      obtain ⟨t, ht, t1, t2⟩ := entT_vl fc hv c1
      have rA : RepK .f32 (-(7 * ((k + 1 : Nat) : Rat)) / 8) := r32 (-(7 * ((k + 1 : Nat) : Int))) 3 (by omega) (by omega) (by
        rw [Rat.intCast_neg, Rat.intCast_mul, Rat.intCast_natCast]; show -((7 : Rat) * _) = _ * (8 : Rat); grind)
      have rB : RepK .f32 (9 * ((k + 1 : Nat) : Rat) / 131072) := r32 (9 * ((k + 1 : Nat) : Int)) 17 (by omega) (by omega) (by
        rw [Rat.intCast_mul, Rat.intCast_natCast]; show (9 : Rat) * _ = _ * (131072 : Rat); grind)
      obtain ⟨r, hr, r1, r2⟩ := vx_add hd ht rA rB (by rw [ek]; grind) (by rw [ek]; grind)
      exact ent_fold cs _ r (k + 1) (by omega) hc' hr r1 r2
    · rw [if_neg hg]
      exact ent_fold cs _ s (k + 1) (by omega) hc' hd (by rw [ek]; grind) (by rw [ek]; grind)
variable {G : List (Nat × Option Nat)} {x0 x1 : List Nat}
theorem ent_vl (h : DSh G x0 x1) : ∃ B b, entR x0 x1 = some B ∧ Vl .f32 (some B) b ∧ -(54 / 131072) ≤ b ∧ b ≤ 42 / 8 := by
  have q16 : p2 (-16) * 65536 = 1 := p2m 16
  have hcs : ∀ c ∈ x1, finB c = true ∧ 0 ≤ val c ∧ val c ≤ 1 + 1 / 65536 := by
    intro c hc
    have : some c ∈ G.map Prod.snd := by rw [← h.gsh.e1]; exact List.mem_map_of_mem hc
    obtain ⟨p, hp, e⟩ := List.mem_map.1 this
    have hk := h.gsh.ch p hp
    have hw := wo_le h.gsh.ch hp
    have ht := h.t2
    rw [e] at hk hw
    have ew : wo (some c) = val c := rfl
    rw [ew] at hw
    exact ⟨(vl_fin hk.1).1, hk.2, by grind⟩
  obtain ⟨r, hr, r1, r2⟩ := ent_fold x1 (some 0) 0 0 (by rw [h.gsh.l1, Nat.zero_add]; exact h.le) hcs vl_zero (by show -(7 * ((0 : Nat) : Rat)) / 8 ≤ 0; rw [show ((0 : Nat) : Rat) = 0 from rfl]; grind) (by show (0 : Rat) ≤ 9 * ((0 : Nat) : Rat) / 131072; rw [show ((0 : Nat) : Rat) = 0 from rfl]; grind)
  have e : entTo x1 x1.length = x1.foldl entStep (some 0) := by unfold entTo; rw [List.take_length]
  rw [← e] at hr
  have hr' := hr
  obtain ⟨b, eb, -⟩ := hr
  rw [eb] at hr'
  have hab := (vl_fin hr').2
  obtain ⟨o1, o2, o3⟩ := ent_out h.gsh.ok (hab.trans eb.symm)
  have hn := (vl_fin (fin_vl o1)).2
  rw [hn] at o3
  refine ⟨_, _, o3.symm, fin_vl o1, ?_, ?_⟩ <;>
    (have ev : val (Op.negFloat .f32 b) = -val b := (by
      obtain ⟨s, m, p, er⟩ := fin_num (vl_fin hr').1
      unfold val
      rw [read_neg, er]
      exact opp_val s m p)
     have ev2 := vl_val hr'
     rw [ev, ev2]
     grind)
end

section
open Go.RowKit
attribute [local go_sem] run_fl_add run_fl_sub run_fl_mul run_fl_quo run_up_ run_store_float

section
variable (x0 x1 : List Nat) (x : Nat)
def givS : Option Nat := sumF (absL (x1.drop (cutK x x0)))
def givQ : List (Option Nat) := qTo (givS x0 x1 x) (absL (x1.drop (cutK x x0))) (x1.length - cutK x x0)
def givOk : Bool := (shareB x0 x1 && finB x) && ((ordF .f32 (givS x0 x1 x) (some 0) == some .gt) && shareAB (x0.drop (cutK x x0)) (givQ x0 x1 x))
def RetGivenAbove (w : World) (e : Ending) (w' : World) : Prop := RetSh (givOk x0 x1 x) (absL (x0.drop (cutK x x0))) (givQ x0 x1 x) w e w'
end
variable {x0 x1 : List Nat} {x : Nat}
theorem giv_f1 (h : shareB x0 x1 = false) : givOk x0 x1 x = false := by unfold givOk; rw [h]; rfl
theorem giv_f2 (h : finB x = false) : givOk x0 x1 x = false := by unfold givOk; rw [h]; simp
theorem giv_f3 {b : Nat} (hb : absF .f32 b = givS x0 x1 x) (h : (FloatKind.f32.format.order b 0 == some .gt) = false) : givOk x0 x1 x = false := by
  have h0 : absF .f32 0 = some 0 := abs_zero
  rw [ord_abs .f32, hb, h0] at h
  unfold givOk
  rw [h]; simp
theorem giv_t {b : Nat} {zs : List Nat} (h1 : shareB x0 x1 = true) (h2 : finB x = true) (hb : absF .f32 b = givS x0 x1 x) (h : (FloatKind.f32.format.order b 0 == some .gt) = true) (hz : absL zs = givQ x0 x1 x) : shareB (x0.drop (cutK x x0)) zs = givOk x0 x1 x := by
  have h0 : absF .f32 0 = some 0 := abs_zero
  rw [ord_abs .f32, hb, h0] at h
  unfold givOk
  rw [h1, h2, h, shareB_abs, hz]; rfl
theorem shareB_rise {v c : List Nat} (h : shareB v c = true) : v.all finB = true ∧ riseTo v v.length = true := by
  unfold shareB at h
  simp only [Bool.and_eq_true] at h
  exact ⟨h.1.1.2, h.1.2⟩

theorem grow_step0 {wr w' : World} {S v : Nat} {v0 v1 v' : Value} {xs ys : List Nat} {o : Obj} (hG : Grow wr (S + 1) S v0 v1 xs ys) (ho : Own fV 28 w' (S + 1) v' (xs ++ [v])) (hg : (wr.alloc o).drew.grownBy w' v0.ownBlock)
    (hbb : Below (S + 1) (wr.alloc o).drew w') (hp : v'.ownBlock = v0.ownBlock ∨ v'.ownBlock = some (wr.alloc o).drew.heap.size) :
    Grow (w'.setCell ⟨S, 0, none⟩ v') (S + 1) S v' v1 (xs ++ [v]) ys ∧ Below S wr (w'.setCell ⟨S, 0, none⟩ v') := by
  have hS := hG.box.lt
  refine ⟨((hG.alloc o).below (Below.refl _ _).drew).app0 ho hg hp, ?_⟩
  exact ((((Below.refl S wr).alloc (by omega) o).drew).trans (hbb.mono (by omega))).setCell (p := ⟨S, 0, none⟩) (Nat.le_refl _) _
theorem grow_step1 {wr w' : World} {S v : Nat} {v0 v1 v' : Value} {xs ys : List Nat} {o : Obj} (hG : Grow wr (S + 1) S v0 v1 xs ys) (ho : Own fV 28 w' (S + 1) v' (ys ++ [v])) (hg : (wr.alloc o).drew.grownBy w' v1.ownBlock)
    (hbb : Below (S + 1) (wr.alloc o).drew w') (hp : v'.ownBlock = v1.ownBlock ∨ v'.ownBlock = some (wr.alloc o).drew.heap.size) :
    Grow (w'.setCell ⟨S, 1, none⟩ v') (S + 1) S v0 v' xs (ys ++ [v]) ∧ Below S wr (w'.setCell ⟨S, 1, none⟩ v') := by
  have hS := hG.box.lt
  refine ⟨((hG.alloc o).below (Below.refl _ _).drew).app1 ho hg hp, ?_⟩
  exact ((((Below.refl S wr).alloc (by omega) o).drew).trans (hbb.mono (by omega))).setCell (p := ⟨S, 1, none⟩) (Nat.le_refl _) _

set_option maxHeartbeats 3200000 in
theorem specGivenAbove_any (s0 : Value) (x0 : List Nat) (s1 : Value) (x1 : List Nat) (hn0 : x0.length ≤ 1099511627776) (hn1 : x1.length ≤ 1099511627776) (x : Nat) (w : World) (hr0 : Rd fV w s0 x0) (hr1 : Rd fV w s1 x1) :
    Calls Tryz.prog 13 #[shV s0 s1, fV x] w (RetGivenAbove x0 x1 x w) := by
  have HR0 := Lib.hid hr0
  obtain ⟨A0, cap0, rfl, hcap0, hA0⟩ := hr0
  have HA0 := Lib.hid hA0
  clear hA0
  have HR1 := Lib.hid hr1
  obtain ⟨A1, cap1, rfl, hcap1, hA1⟩ := hr1
  have HA1 := Lib.hid hA1
  clear hA1
  go_enter Tryz.func13, Tryz.ntmps13
  go_wp2_with fail
  have B0 : BoxAt ((w.alloc (.cells ([.slice A0 x0.length cap0, .slice A1 x1.length cap1] : List Value).toArray 26)).alloc (.cells ([.slice none 0 0, .slice none 0 0] : List Value).toArray 26)) w.heap.size [.slice A0 x0.length cap0, .slice A1 x1.length cap1] := (BoxAt.new w _ _).alloc _
  have B1 : BoxAt ((w.alloc (.cells ([.slice A0 x0.length cap0, .slice A1 x1.length cap1] : List Value).toArray 26)).alloc (.cells ([.slice none 0 0, .slice none 0 0] : List Value).toArray 26)) (w.heap.size + 1) [.slice none 0 0, .slice none 0 0] := by
    have := BoxAt.new (w.alloc (.cells ([.slice A0 x0.length cap0, .slice A1 x1.length cap1] : List Value).toArray 26)) [.slice none 0 0, .slice none 0 0] 26
    rwa [size_alloc] at this
  have hT : Below w.heap.size w ((w.alloc (.cells ([.slice A0 x0.length cap0, .slice A1 x1.length cap1] : List Value).toArray 26)).alloc (.cells ([.slice none 0 0, .slice none 0 0] : List Value).toArray 26)) := ((Below.refl _ _).alloc (Nat.le_refl _) _).alloc (by simp) _
  generalize hg : (w.alloc _).alloc _ = W0 at *
  clear hg
  refine (l05Is_any _ _ _ x0 x1 hn0 hn1 _ B0 (HR0.out.below hT) (HR1.out.below hT)).mono ?_
  rintro e w1 ⟨rfl, hb⟩
  replace B0 := B0.below hb
  replace B1 := B1.below hb
  replace hT := below_to hT hb hT.size
  clear hb
  cases hs : shareB x0 x1
  · have Ho := Lib.hid (giv_f1 (x := x) hs)
    have Hs := Lib.hid hs
    clear hs
    have d0 := B1.cell 0 _ rfl
    have d1 := B1.cell 1 _ rfl
    have f0 := B1.free 0
    have f1 := B1.free 1
    have HT := Lib.hid hT
    clear hT
    go_wp2
    refine bodyPost_ret (v := .tuple #[shV (.slice none 0 0) (.slice none 0 0), .bool false]) (by simp [results, Tryz.results13, go_sem, *]) rfl ?_
    unfold RetGivenAbove
    rw [Ho.out]
    exact RetSh.none ((HT.out.setCell (by simp) _).setCell (by simp) _)
  have hl := shareB_len hs
  have hrise := shareB_rise hs
  have Hs := Lib.hid hs
  clear hs
  go_wp2_with fail
  refine (l01Finite_any _ _).mono ?_
  rintro e w2 ⟨rfl, hd⟩
  have hb := below_of_drew hd
  clear hd
  replace B0 := B0.below hb
  replace B1 := B1.below hb
  replace hT := below_to hT hb hT.size
  clear hb
  cases hf : finB x
  · have Ho := Lib.hid (giv_f2 (x0 := x0) (x1 := x1) hf)
    have Hf := Lib.hid hf
    clear hf
    have d0 := B1.cell 0 _ rfl
    have d1 := B1.cell 1 _ rfl
    have f0 := B1.free 0
    have f1 := B1.free 1
    have HT := Lib.hid hT
    clear hT
    go_wp2
    refine bodyPost_ret (v := .tuple #[shV (.slice none 0 0) (.slice none 0 0), .bool false]) (by simp [results, Tryz.results13, go_sem, *]) rfl ?_
    unfold RetGivenAbove
    rw [Ho.out]
    exact RetSh.none ((HT.out.setCell (by simp) _).setCell (by simp) _)
  have HGT : Hid (∀ (k v : Nat), x0[k]? = some v → gtX x v = decide (cutK x x0 ≤ k)) := fun k v hv => gt_cut hrise.2 hrise.1 hf hv
  have hlen : x1.length = x0.length := hl.2
  have h64 : x0.length ≤ 64 := hl.1.2
  have HLEN := Lib.hid hlen
  have Hf := Lib.hid hf
  clear hf
  clear hl hrise hlen
  have G0 : Grow (w2.alloc (.cells #[.slice none 0 0, .slice none 0 0] 26)) (w2.heap.size + 1) w2.heap.size (.slice none 0 0) (.slice none 0 0) [] [] :=
    ⟨BoxAt.new w2 [.slice none 0 0, .slice none 0 0] 26, Own.nil, Own.nil, by simp [Value.ownBlock], by simp [Value.ownBlock], .inl rfl⟩
  have hz := B1.lt
  have hT3 := hT.alloc hT.size (.cells #[.slice none 0 0, .slice none 0 0] 26)
  replace B0 := B0.alloc (.cells #[.slice none 0 0, .slice none 0 0] 26)
  replace B1 := B1.alloc (.cells #[.slice none 0 0, .slice none 0 0] 26)
  have hz3 := size_alloc w2 (.cells #[.slice none 0 0, .slice none 0 0] 26)
  have c0 := B0.cell 0 _ rfl
  have c1 := B0.cell 1 _ rfl
  go_wp2
  obtain ⟨S, hS⟩ : ∃ S, S = w2.heap.size := ⟨_, rfl⟩
  obtain ⟨W3, hW3⟩ : ∃ W3, W3 = w2.alloc (.cells #[.slice none 0 0, .slice none 0 0] 26) := ⟨_, rfl⟩
  rw [← hW3] at G0 B0 B1 hT3 hz3 ⊢
  rw [← hS] at G0 hz hz3 ⊢
  clear hS hW3 hT c0 c1
  go_loopw [7, 22] (fun ss si wr => ∃ (k b : Nat) (v0 v1 : Value), k ≤ x0.length ∧ si = .int .i64 k ∧ ss = fV b ∧ Grow wr (S + 1) S v0 v1 ((x0.take k).drop (cutK x x0)) ((x1.take k).drop (cutK x x0)) ∧ Hid (absF .f32 b = sumF (absL ((x1.take k).drop (cutK x x0)))) ∧ Below S W3 wr) (fun _ si _ => x0.length - (intOf si).toNat)
  case atStart => exact ⟨0, 0, _, _, by omega, rfl, rfl, by simpa using G0, by unfold Hid; simpa [sumF, absL] using abs_zero, Below.refl _ _⟩
  case round =>
    obtain ⟨k, b, v0, v1, hk, rfl, rfl, hG, hs, hb⟩ := hrel
    have hB0 := B0.below' hb (by omega) (by omega)
    have hB1 := B1.below' hb (by omega) (by omega)
    have hT : Below w.heap.size w wr := hT3.trans (hb.mono (by omega))
    have hsz := hb.size
    by_cases hlt : k < x0.length
    · obtain ⟨v, hv⟩ := get_of_lt hlt
      obtain ⟨c, hc⟩ := get_of_lt (xs := x1) (k := k) (by rw [HLEN.out]; exact hlt)
      obtain ⟨ad0, rfl, hbl0, hcell0⟩ := HA0.out k v hv
      obtain ⟨ad1, rfl, hbl1, hcell1⟩ := HA1.out k c hc
      have e0 : wr.cell? (ad0.add k) = some (fV v) := by rw [hT.cell (by rw [add_block]; exact hbl0)]; exact hcell0
      have e1 : wr.cell? (ad1.add k) = some (fV c) := by rw [hT.cell (by rw [add_block]; exact hbl1)]; exact hcell1
      have HK0 := Lib.hid (cut_keep (c := cutK x x0) hv)
      have HK1 := Lib.hid (cut_keep (c := cutK x x0) hc)
      have hgt := HGT.out k v hv
      have hk0 : (0 : Int) ≤ (k : Int) := by omega
      have hk1 : (k : Int) < (x0.length : Int) := by omega
      have hk2 : (k : Int) < (x1.length : Int) := by rw [HLEN.out]; omega
      have HC1 := Lib.hid hcell1
      have hkl : k ≤ x1.length := by rw [HLEN.out]; omega
      have hL0 : ((x0.take k).drop (cutK x x0)).length = k - cutK x x0 := by simp; omega
      have hL1 : ((x1.take k).drop (cutK x x0)).length = k - cutK x x0 := by have := HLEN.out; simp; omega
      have HL0 := Lib.hid hL0
      have HL1 := Lib.hid hL1
      clear hv hc hcell0 hcell1 hL0 hL1
      by_cases hcut : cutK x x0 ≤ k
      · rw [decide_eq_true hcut] at hgt
        have hgt' : (FloatKind.f32.format.order v x == some .gt) = true := hgt
        rw [if_pos hcut] at HK0 HK1
        clear hgt
        have c0 := hB0.cell 0 _ rfl
        have c1 := hB0.cell 1 _ rfl
        have d0 := hG.box.cell 0 _ rfl
        have d1 := hG.box.cell 1 _ rfl
        have hl0 : ((x0.take k).drop (cutK x x0)).length ≤ 64 := by simp; omega
        have hl1 : ((x1.take k).drop (cutK x x0)).length ≤ 64 := by simp; omega
        have f0 := hG.box.free 0
        have f1 := (hG.box.alloc (.cells #[fV v] 28)).free 0
        have g0 := (hG.box.alloc (.cells #[fV v] 28)).cell 0 _ rfl
        have hGH := Lib.hid hG
        clear hG
        go_wp2
        go_region_law ((go_loud (refine elF_.app_step (fun _ => rfl) _ (by rfl) _ _ (by rfl) (S + 1) _ ((x0.take k).drop (cutK x x0)) (by rfl) (Own.drew1 (hGH.out.alloc _).o0) _ [v] (by rfl) (Rd.drew1 (rd_one fV _ _ _)) (by omega) (by simp; omega) (by simp; omega) ?_); intro v' w' ho hg hbb hp; have f2 := (World.frozen?_of_block (hbb.block S (by omega))).trans f1; have e2 := ((hbb.cell (p := ⟨S, 0, none⟩) (by dsimp only; omega)).trans (hGH.out.box.alloc _ |>.cell 0 _ rfl)); obtain ⟨g0', c0', rfl, -, -, -⟩ := ho.form (by simp)))
        all_goals
          obtain ⟨hG2, hb2⟩ := grow_step0 hGH.out ho hg hbb hp
          rw [List.length_append, HL0.out] at hG2 hb2
          have hb2' : Below S wr (w'.setCell ⟨S, 0, none⟩ (.slice (some ⟨g0', 0, none⟩) (k - cutK x x0 + 1) c0')) := hb2
          have hG2' : Grow (w'.setCell ⟨S, 0, none⟩ (.slice (some ⟨g0', 0, none⟩) (k - cutK x x0 + 1) c0')) (S + 1) S (.slice (some ⟨g0', 0, none⟩) (k - cutK x x0 + 1) c0') v1 _ _ := hG2
          generalize w'.setCell ⟨S, 0, none⟩ (.slice (some ⟨g0', 0, none⟩) (k - cutK x x0 + 1) c0') = W1 at hb2' hG2' ⊢
          clear hG2 hb2 ho hg hbb hp f2 e2 f0 f1 g0 hGH d0 d1 c0 c1 e0
          have hB0' := hB0.below' hb2' (by omega) (by omega)
          have e1' : W1.cell? (ad1.add k) = some (fV c) := by rw [hb2'.cell (by rw [add_block]; omega)]; exact e1
          have c0 := hB0'.cell 0 _ rfl
          have c1 := hB0'.cell 1 _ rfl
          have d1 := hG2'.box.cell 1 _ rfl
          have f1 := (hG2'.box.alloc (.cells #[fV c] 28)).free 1
          have g1 := (hG2'.box.alloc (.cells #[fV c] 28)).cell 1 _ rfl
          have hGH := Lib.hid hG2'
          have hz1 := hb2'.size
          clear hG2' e1
          go_wp2
          go_region_law ((go_loud (refine elF_.app_step (fun _ => rfl) _ (by rfl) _ _ (by rfl) (S + 1) _ ((x1.take k).drop (cutK x x0)) (by rfl) (Own.drew1 (hGH.out.alloc _).o1) _ [c] (by rfl) (Rd.drew1 (rd_one fV _ _ _)) (by omega) (by simp; omega) (by simp; omega) ?_); intro v' w' ho hg hbb hp; have f2 := (World.frozen?_of_block (hbb.block S (by omega))).trans f1; have e2 := ((hbb.cell (p := ⟨S, 1, none⟩) (by dsimp only; omega)).trans (hGH.out.box.alloc _ |>.cell 1 _ rfl)); obtain ⟨g1', c1', rfl, -, -, -⟩ := ho.form (by simp)))
          all_goals
            obtain ⟨hG3, hb3⟩ := grow_step1 hGH.out ho hg hbb hp
            rw [List.length_append, HL1.out] at hG3 hb3
            have hb3' : Below S W1 (w'.setCell ⟨S, 1, none⟩ (.slice (some ⟨g1', 0, none⟩) (k - cutK x x0 + 1) c1')) := hb3
            have hG3' : Grow (w'.setCell ⟨S, 1, none⟩ (.slice (some ⟨g1', 0, none⟩) (k - cutK x x0 + 1) c1')) (S + 1) S _ (.slice (some ⟨g1', 0, none⟩) (k - cutK x x0 + 1) c1') _ _ := hG3
            generalize w'.setCell ⟨S, 1, none⟩ (.slice (some ⟨g1', 0, none⟩) (k - cutK x x0 + 1) c1') = W2 at hb3' hG3' ⊢
            clear hG3 hb3 ho hg hbb hp f2 e2 f1 g1 hGH d1 c0 c1
            have hB0'' := hB0'.below' hb3' (by omega) (by omega)
            have e1'' : W2.cell? (ad1.add k) = some (fV c) := by rw [hb3'.cell (by rw [add_block]; omega)]; exact e1'
            have c0 := hB0''.cell 0 _ rfl
            have c1 := hB0''.cell 1 _ rfl
            have HGG := Lib.hid hG3'
            have HBB := Lib.hid (hb.trans (hb2'.trans hb3'))
            clear hG3' e1' hb2' hb3'
            go_wp2
            go_roundw
            case rel => exact ⟨k + 1, _, _, _, by omega, by go_num, rfl, by rw [HK0.out, HK1.out]; exact HGG.out.below (below_drewN_ (Below.refl _ _)), by unfold Hid; rw [HK1.out, abs_flR .add rfl, hs.out, ← sumF_snoc]; simp [absL], below_drewN_ HBB.out⟩
            case measure => simp [intOf]; omega
      · rw [decide_eq_false hcut] at hgt
        have hgt' : (FloatKind.f32.format.order v x == some .gt) = false := hgt
        rw [if_neg hcut] at HK0 HK1
        clear hgt
        have c0 := hB0.cell 0 _ rfl
        have c1 := hB0.cell 1 _ rfl
        go_wp2
        go_roundw
        case rel => exact ⟨k + 1, b, v0, v1, by omega, by go_num, rfl, by rw [HK0.out, HK1.out]; exact hG, by unfold Hid; rw [HK1.out]; exact hs.out, hb⟩
        case measure => simp [intOf]; omega
    · have hke : k = x0.length := by omega
      subst hke
      rw [List.take_length] at hG
      rw [show (x1.take x0.length).drop (cutK x x0) = x1.drop (cutK x x0) by rw [← HLEN.out, List.take_length]] at hG hs
      have hsS : absF .f32 b = givS x0 x1 x := hs.out
      cases hg : (FloatKind.f32.format.order b 0 == some .gt)
      · have Ho := Lib.hid (giv_f3 hsS hg)
        have d0 := hB1.cell 0 _ rfl
        have d1 := hB1.cell 1 _ rfl
        have f0 := hB1.free 0
        have f1 := hB1.free 1
        have HT := Lib.hid hT
        clear hT hG
        go_wp2
        refine bodyPost_ret (v := .tuple #[shV (.slice none 0 0) (.slice none 0 0), .bool false]) (by simp [results, Tryz.results13, go_sem, *]) rfl ?_
        unfold RetGivenAbove
        rw [Ho.out]
        exact RetSh.none ((HT.out.setCell (by simp) _).setCell (by simp) _)
      have hn1' : cutK x x0 < x1.length := by
        refine Nat.lt_of_not_le fun hle => ?_
        have h0 : absF .f32 b = some 0 := by rw [hs.out, List.drop_eq_nil_of_le hle]; rfl
        obtain ⟨rfl, -⟩ := absF_some h0
        revert hg
        decide
      have HSS := Lib.hid hsS
      have HGB := Lib.hid hg
      obtain ⟨n, hn⟩ : ∃ n, n = x1.length - cutK x x0 := ⟨_, rfl⟩
      have hnL : n ≤ 64 := by have := HLEN.out; omega
      have hl0 : (x0.drop (cutK x x0)).length = n := by have := HLEN.out; simp; omega
      have hl1 : (x1.drop (cutK x x0)).length = n := by simp; omega
      obtain ⟨g0, c0, rfl, _, _, _⟩ := hG.o0.form (by omega)
      obtain ⟨g1, c1, rfl, _, _, _⟩ := hG.o1.form (by omega)
      rw [hl0, hl1] at hG
      have HL0 := Lib.hid hl0
      have HL1 := Lib.hid hl1
      have HN := Lib.hid hn
      have d1 := hG.box.cell 1 _ rfl
      have hGH := Lib.hid hG
      have hn0' : 1 ≤ n := by omega
      clear hG hl0 hl1 hn hsS
      go_wp2
      go_loopw [67] (fun si wr' => ∃ (j : Nat) (zs : List Nat), j ≤ n ∧ si = .int .i64 j ∧ Hid (zs.length = n) ∧ Grow wr' (S + 1) S (.slice (some ⟨g0, 0, none⟩) n c0) (.slice (some ⟨g1, 0, none⟩) n c1) (x0.drop (cutK x x0)) zs ∧ Hid (absL zs = qTo (givS x0 x1 x) (absL (x1.drop (cutK x x0))) j) ∧ BoxAt wr' (w.heap.size + 1) [.slice none 0 0, .slice none 0 0] ∧ Below w.heap.size w wr') (fun si _ => n - (intOf si).toNat)
      case atStart => exact ⟨0, _, by omega, rfl, HL1, hGH.out, by unfold Hid; rw [qTo_zero], hB1, hT⟩
      case round =>
        obtain ⟨j, zs, hj, rfl, hzl, hG, hz, hB, hb'⟩ := hrel
        clear d1
        have hg1 := hG.o1.lt g1 rfl
        by_cases hlt : j < n
        · obtain ⟨a0, ha0⟩ := get_of_lt (xs := absL (x1.drop (cutK x x0))) (k := j) (by have := HL1.out; simp [absL] at this ⊢; omega)
          obtain ⟨a, ha, haa⟩ := absl_get (xs := zs) (i := j) (a := a0) (by rw [hz.out, qTo_at _ (lt_of_get ha0)]; exact ha0)
          have e1 := hG.at1 ha
          have f1 := hG.free1 j
          have d1 := hG.box.cell 1 _ rfl
          have HSt := Lib.hid (fun x => hG.put1 j x)
          have HA := Lib.hid haa
          have HA0' := Lib.hid ha0
          have hp0 : (0 : Int) ≤ (j : Int) := by omega
          have hp1 : (j : Int) < (n : Int) := by omega
          clear ha haa ha0 hG
          go_wp2
          refine wp_region_fq 11 (fun _ _ _ => True) (by kernel_rfl) (by kernel_rfl) ?_
          simp only [List.take, List.drop]
          repeat (first | (refine wpFq_one (by rfl) ?_; go_big_quiet_step (fail); refine wpQuiet_nil ?_) | (refine wpFq_nilc (by rfl) _ rfl _ (by rfl) ?_; simp only [Act.put, List.setIfInBounds_toArray, List.set_cons_zero, List.set_cons_succ]) | (refine wpFq_fl (by rfl) _ _ _ _ _ rfl (by rfl) _ _ _ (by rfl) (by rfl) ?_; intro fb hfb; simp only [Act.put, List.setIfInBounds_toArray, List.set_cons_zero, List.set_cons_succ]) | (refine wpFq_up (by rfl) _ _ _ rfl (by kernel_rfl) (by kernel_rfl) _ (by rfl) ?_; intro fb hfb; simp only [Act.put, List.setIfInBounds_toArray, List.set_cons_zero, List.set_cons_succ]))
          refine wpFq_nil ?_
          intro nq
          have HF : Hid (absF .f32 fb = opF .quo .f32 a0 (givS x0 x1 x)) := by
            unfold Hid
            rw [hfb, HA.out, HSS.out]
          clear hfb
          go_wp2
          go_roundw
          case rel =>
            refine ⟨j + 1, zs.set j fb, by omega, by go_num, by unfold Hid; rw [List.length_set]; exact hzl.out, (HSt.out fb).below (below_drewN_ (Below.refl _ _)), ?_, (hB.other (p := ⟨g1, j, none⟩) (by show g1 ≠ _; omega) _).below (below_drewN_ (Below.refl _ _)), below_drewN_ (hb'.setCell (p := ⟨g1, j, none⟩) (by show _ ≤ g1; omega) _)⟩
            unfold Hid
            rw [absl_set, hz.out, HF.out]
            exact qTo_set _ HA0'.out
          case measure => simp [intOf]; omega
        · have hke : j = n := by omega
          subst hke
          have hgz := hG.o0.lt g0 rfl
          have hgz1 := hG.o1.lt g1 rfl
          have hzq : absL zs = givQ x0 x1 x := by rw [hz.out, HN.out]; rfl
          go_wp2_with (go_at_call 36; refine (l05Is_any _ _ _ (x0.drop (cutK x x0)) zs (by rw [HL0.out]; omega) (by rw [hzl.out]; omega) _ hG.box hG.o0.rd hG.o1.rd).mono ?_)
          rintro e w3 ⟨rfl, hb3⟩
          replace hG := hG.below hb3
          replace hB := hB.below hb3
          have HT := Lib.hid (hb'.trans (hb3.mono hb'.size))
          have hsok := giv_t Hs.out Hf.out HSS.out HGB.out hzq
          have HZQ := Lib.hid hzq
          clear hb' hb3 hzq hT
          have d0 := hB.cell 0 _ rfl
          have d1 := hB.cell 1 _ rfl
          have f0 := hB.free 0
          have f1 := hB.free 1
          have r0 := hG.box.cell 0 _ rfl
          have r1 := hG.box.cell 1 _ rfl
          have hGH := Lib.hid hG
          clear hG
          cases hs' : shareB (x0.drop (cutK x x0)) zs
          all_goals
            rw [hs'] at hsok
            have HS := Lib.hid hsok
            have HS' := Lib.hid hs'
            clear hsok hs'
            go_wp2
          · refine bodyPost_ret (v := .tuple #[shV (.slice none 0 0) (.slice none 0 0), .bool false]) (by simp [results, Tryz.results13, go_sem, *]) rfl ?_
            unfold RetGivenAbove
            rw [← HS.out]
            exact RetSh.none ((HT.out.setCell (by simp) _).setCell (by simp) _)
          · refine bodyPost_ret (v := .tuple #[shV (.slice (some ⟨g0, 0, none⟩) j c0) (.slice (some ⟨g1, 0, none⟩) j c1), .bool true]) (by simp [results, Tryz.results13, go_sem, *]) rfl ?_
            unfold RetGivenAbove
            rw [← HS.out]
            have o0 := Own.other (Own.other hGH.out.o0 (p := ⟨w.heap.size + 1, 0, none⟩) (fun e => by have := (hGH.out.o0.lt _ e).1; simp at this; omega) (.slice (some ⟨g0, 0, none⟩) j c0)) (p := ⟨w.heap.size + 1, 1, none⟩) (fun e => by have := (hGH.out.o0.lt _ e).1; simp at this; omega) (.slice (some ⟨g1, 0, none⟩) j c1)
            have o1 := Own.other (Own.other hGH.out.o1 (p := ⟨w.heap.size + 1, 0, none⟩) (fun e => by have := (hGH.out.o1.lt _ e).1; simp at this; omega) (.slice (some ⟨g0, 0, none⟩) j c0)) (p := ⟨w.heap.size + 1, 1, none⟩) (fun e => by have := (hGH.out.o1.lt _ e).1; simp at this; omega) (.slice (some ⟨g1, 0, none⟩) j c1)
            exact ⟨_, x0.drop (cutK x x0), _, zs, rfl, o0.base_ (by omega), o1.base_ (by omega), hGH.out.ap, by rw [HL0.out]; omega, by rw [hzl.out]; omega, rfl, by rw [HZQ.out]; rfl, (HT.out.setCell (by simp) _).setCell (by simp) _⟩
end

section
open Go.RowKit

/-- The words of a number of sixteenths, and of quarters. -/
def sxd (v : Nat) : Nat := (floatBits .quo .f32 (floatOfInt .f32 (v : Int)) 1098907648).getD 0
def qtr (u : Nat) : Nat := (floatBits .quo .f32 (floatOfInt .f32 ((u : Int) - 16)) 1082130432).getD 0
theorem sxd_tab : ∀ v : Nat, v < 17 → floatBits .quo .f32 (floatOfInt .f32 (v : Int)) 1098907648 = some (sxd v) ∧ partB (sxd v) = true ∧ finB (sxd v) = true ∧ val (sxd v) = (v : Rat) / 16 := by decide +kernel
theorem qtr_tab : ∀ u : Nat, u < 33 → floatBits .quo .f32 (floatOfInt .f32 ((u : Int) - 16)) 1082130432 = some (qtr u) ∧ finB (qtr u) = true := by decide +kernel
theorem milli64 : ∃ q, Vl .f64 (some 4562254508917369340) q ∧ 1 / 1024 < q ∧ q < 1 / 512 := by
  have h : p2 (-62) * 4611686018427387904 = 1 := p2m 62
  refine ⟨_, vl_of (k := .f64) (b := 4562254508917369340) (s := false) (m := 4611686018427388) (p := -62) (by decide), ?_, ?_⟩
  · show _ < (4611686018427388 : Rat) * p2 (-62)
    grind
  · show (4611686018427388 : Rat) * p2 (-62) < _
    grind
theorem mmilli64 : ∃ q, Vl .f64 (some 13785626545772145148) q ∧ q < -(1 / 1024) := by
  have h : p2 (-62) * 4611686018427387904 = 1 := p2m 62
  refine ⟨_, vl_of (k := .f64) (b := 13785626545772145148) (s := true) (m := 4611686018427388) (p := -62) (by decide), ?_⟩
  show -((4611686018427388 : Rat) * p2 (-62)) < _
  grind
theorem onemil64 : ∃ q, Vl .f64 (some 4607186922399644778) q ∧ 1 + 1 / 1024 < q := by
  have h : p2 (-52) * 4503599627370496 = 1 := p2m 52
  refine ⟨_, vl_of (k := .f64) (b := 4607186922399644778) (s := false) (m := 4508103226997866) (p := -52) (by decide), ?_⟩
  show _ < (4508103226997866 : Rat) * p2 (-52)
  grind
theorem six64 : ∃ q, Vl .f64 (some 4618442543768350491) q ∧ 6 < q := by
  have h : p2 (-50) * 1125899906842624 = 1 := p2m 50
  refine ⟨_, vl_of (k := .f64) (b := 4618442543768350491) (s := false) (m := 6756525340962587) (p := -50) (by decide), ?_⟩
  show _ < (6756525340962587 : Rat) * p2 (-50)
  grind
theorem sub64 {a b : Nat} {u v : Rat} (ha : Vl .f64 (some a) u) (hb : Vl .f64 (some b) v) (h1 : -1024 ≤ u - v) (h2 : u - v ≤ 1024) : ∃ s r, floatBits .sub .f64 a b = some s ∧ Vl .f64 (some s) r ∧ u - v - p2 (-43) ≤ r ∧ r ≤ u - v + p2 (-43) := by
  have q : p2 10 = 1024 := p2_nat 10
  obtain ⟨r, hr, hn⟩ := vl_sub ha hb (lo := -p2 10) (hi := p2 10) (rep_neg (rep64 (by omega) (by omega))) (rep64 (by omega) (by omega)) (by rw [q]; grind) (by rw [q]; grind)
  have he := hn.err (e := -43) (in64 (by omega) (by omega)) (by rw [gB64, show (-43 : Int) + 53 = 10 by omega, q]; grind) (by rw [gB64, show (-43 : Int) + 53 = 10 by omega, q]; grind)
  have hr' := hr
  obtain ⟨s, es, -⟩ := hr
  have e2 : floatBits .sub .f64 a b = some s := es
  exact ⟨s, r, e2, by rw [← es]; exact hr', he.1, he.2⟩
theorem nlt64 {g c : Nat} {r q : Rat} (hg : Vl .f64 (some g) r) (hc : Vl .f64 (some c) q) (h : q ≤ r) : (FloatKind.f64.format.order g c == some .lt) = false := by
  cases e : (FloatKind.f64.format.order g c == some .lt) with
  | false => rfl
  | true =>
    have := (vl_ord hg hc).1.1 (beq_iff_eq.1 e)
    grind
theorem le64 {g c : Nat} {r q : Rat} (hg : Vl .f64 (some g) r) (hc : Vl .f64 (some c) q) (h : r ≤ q) : (FloatKind.f64.format.order g c == some .lt || FloatKind.f64.format.order g c == some .eq) = true := by
  obtain ⟨o1, -, o3⟩ := vl_ord hg hc
  rw [Bool.or_eq_true, beq_iff_eq, beq_iff_eq, o1, o3]
  grind
theorem ge64 {g c : Nat} {r q : Rat} (hg : Vl .f64 (some g) r) (hc : Vl .f64 (some c) q) (h : q ≤ r) : (FloatKind.f64.format.order g c == some .gt || FloatKind.f64.format.order g c == some .eq) = true := by
  obtain ⟨-, o2, o3⟩ := vl_ord hg hc
  rw [Bool.or_eq_true, beq_iff_eq, beq_iff_eq, o2, o3]
  grind
theorem vl_upW {b : Nat} {q : Rat} (h : Vl .f32 (some b) q) : Vl .f64 (some (upBits b)) q := vl_up h
variable {G H : List (Nat × Option Nat)} {x0 x1 y0 y1 : List Nat}
theorem DSh.wlt (h : DSh G x0 x1) : ∀ x ∈ x0, x < 4294967296 := by
  intro x hx
  rw [h.gsh.e0] at hx
  obtain ⟨p, hp, rfl⟩ := List.mem_map.1 hx
  obtain ⟨z, z1, z2, e, -⟩ := h.half p hp
  rw [e]
  have := hwd_lt (z + 8).toNat (by omega)
  rwa [show (((z + 8).toNat : Nat) : Int) - 8 = z by omega] at this
theorem given_gt (h : GSh G x0 x1) {X : Nat} (fx : finB X = true) {z0 : List Nat} (hz : absL z0 = absL (x0.drop (cutK X x0))) {k y : Nat} (hy : z0[k]? = some y) : (FloatKind.f32.format.order y X == some .lt || FloatKind.f32.format.order y X == some .eq) = false := by
  obtain ⟨hf, hr, -, -⟩ := shareB_parts h.ok
  have hfd : (x0.drop (cutK X x0)).all finB = true := by
    rw [List.all_eq_true]
    intro v hv
    exact List.all_eq_true.1 hf v (List.mem_of_mem_drop hv)
  have e : z0 = x0.drop (cutK X x0) := (absL_fin hz.symm hfd).symm
  rw [e, List.getElem?_drop] at hy
  have hg := gt_cut hr hf fx hy
  rw [decide_eq_true (by omega)] at hg
  have fy := List.all_eq_true.1 hf y (List.mem_of_getElem? hy)
  have hlt := (gtX_val fy fx).1 hg
  rw [Bool.or_eq_false_iff]
  have o1 := lt_val fy fx
  have o2 := eq_val fy fx
  constructor
  · rw [beq_eq_false_iff_ne]
    intro h
    have := o1.1 h
    grind
  · rw [beq_eq_false_iff_ne]
    intro h
    have := o2.1 h
    grind
structure QuP (x0 x1 y0 y1 : List Nat) (P X a B Pc Qc d1 m1 s1 m2 m3 s2 A A' St N E g3 s3 : Nat) : Prop where
  qb : quantB x0 x1 P = true
  qv : quantV x0 x1 P = a
  qa : absF .f32 a = some a
  bo : belowOk x0 x1 a = true
  bv : belowV x0 x1 a = some B
  po : belowOk x0 x1 X = true
  pv : belowV x0 x1 X = some Pc
  qo : belowOk y0 y1 X = true
  qw : belowV y0 y1 X = some Qc
  fP : (FloatKind.f32.decode P).isNaN = false
  fB : (FloatKind.f32.decode B).isNaN = false
  fPc : (FloatKind.f32.decode Pc).isNaN = false
  fQc : (FloatKind.f32.decode Qc).isNaN = false
  fA : (FloatKind.f32.decode A).isNaN = false
  fA' : (FloatKind.f32.decode A').isNaN = false
  fSt : (FloatKind.f32.decode St).isNaN = false
  fE : (FloatKind.f32.decode E).isNaN = false
  e1 : floatBits .sub .f64 (upBits P) 4562254508917369340 = some d1
  l1 : (FloatKind.f64.format.order (upBits B) d1 == some .lt) = false
  e2 : floatBits .mul .f64 (upBits Pc) (upBits Qc) = some m1
  e3 : floatBits .sub .f64 4607182418800017408 (upBits P) = some s1
  e4 : floatBits .mul .f64 s1 (upBits Pc) = some m2
  e5 : floatBits .mul .f64 (upBits P) (upBits Qc) = some m3
  e6 : floatBits .add .f64 m2 m3 = some s2
  c1 : combOk (pairG false) x0 x1 y0 y1 = true
  c2 : mixOk x0 x1 y0 y1 P = true
  gr : ∀ z0 z1 : List Nat, absL z0 = absL ((gatS (combV (pairG false) x0 y0) (combC x1 y1)).map Prod.fst) → absL z1 = (gatS (combV (pairG false) x0 y0) (combC x1 y1)).map Prod.snd →
    z0.length ≤ 64 ∧ z1.length ≤ 64 ∧ ∃ R g1, belowOk z0 z1 X = true ∧ belowV z0 z1 X = some R ∧ (FloatKind.f32.decode R).isNaN = false ∧ gapW (upBits R) m1 = some g1 ∧ (FloatKind.f64.format.order g1 4576918229304087675 == some .gt) = false
  mi : ∀ z0 z1 : List Nat, absL z0 = absL ((gatS (x0 ++ y0) (mixC P x1 y1)).map Prod.fst) → absL z1 = (gatS (x0 ++ y0) (mixC P x1 y1)).map Prod.snd →
    z0.length ≤ 64 ∧ z1.length ≤ 64 ∧ ∃ R g2, belowOk z0 z1 X = true ∧ belowV z0 z1 X = some R ∧ (FloatKind.f32.decode R).isNaN = false ∧ gapW (upBits R) s2 = some g2 ∧ (FloatKind.f64.format.order g2 4576918229304087675 == some .gt) = false
  gv : ∀ z0 : List Nat, absL z0 = absL (x0.drop (cutK X x0)) → ∀ (k y : Nat), z0[k]? = some y → (FloatKind.f32.format.order y X == some .lt || FloatKind.f32.format.order y X == some .eq) = false
  sh : shareB x0 x1 = true
  w0 : ∀ x ∈ x0, x < 4294967296
  b1 : bothOk x0 x1 y0 y1 = true
  b2 : bothOk y0 y1 x0 x1 = true
  b3 : bothOk x0 x1 x0 x1 = true
  av : apartV x0 x1 y0 y1 = some A
  aw : apartV y0 y1 x0 x1 = some A'
  sv : stepsV x0 x1 y0 y1 = some St
  nv : apartV x0 x1 x0 x1 = some N
  n0 : (FloatKind.f32.format.order N 0 == some .eq) = true
  e7 : gapW (upBits A) (upBits A') = some g3
  l3 : (FloatKind.f64.format.order g3 4562254508917369340 == some .lt) = true
  l4 : (FloatKind.f64.format.order (upBits A) 4607186922399644778 == some .lt || FloatKind.f64.format.order (upBits A) 4607186922399644778 == some .eq) = true
  e8 : floatBits .add .f64 (upBits A) 4562254508917369340 = some s3
  l5 : (FloatKind.f64.format.order (upBits St) s3 == some .lt || FloatKind.f64.format.order (upBits St) s3 == some .eq) = true
  ev : entR x0 x1 = some E
  l6 : (FloatKind.f64.format.order (upBits E) 13785626545772145148 == some .gt || FloatKind.f64.format.order (upBits E) 13785626545772145148 == some .eq) = true
  l7 : (FloatKind.f64.format.order (upBits E) 4618442543768350491 == some .lt || FloatKind.f64.format.order (upBits E) 4618442543768350491 == some .eq) = true
theorem sumAp_sym {qs : List Rat} : sumAp H G qs = sumAp G H qs := by
  unfold sumAp
  congr 1
  apply List.map_congr_left
  intro q _
  unfold aq dq
  split <;> split <;> grind
theorem Vals.sym {qs : List Rat} (h : Vals G H qs) : Vals H G qs := ⟨h.up, h.b, h.a, h.len, h.w⟩
theorem quP_of (ha : DSh G x0 x1) (hb : DSh H y0 y1) {v u : Nat} (hv : v < 17) (hu : u < 33) : ∃ a B Pc Qc d1 m1 s1 m2 m3 s2 A A' St N E g3 s3, QuP x0 x1 y0 y1 (sxd v) (qtr u) a B Pc Qc d1 m1 s1 m2 m3 s2 A A' St N E g3 s3 := by
  have q43 : p2 (-43) * 8796093022208 = 1 := p2m 43
  have q20 : p2 (-20) * 1048576 = 1 := p2m 20
  have q17 : p2 (-17) * 131072 = 1 := p2m 17
  have q16 : p2 (-16) * 65536 = 1 := p2m 16
  have q15 : p2 (-15) * 32768 = 1 := p2m 15
  have q14 : p2 (-14) * 16384 = 1 := p2m 14
  have q12 := p2_12
  have q10 := p2_10
  have q7 : p2 (-7) * 128 = 1 := p2m 7
  have q4 : p2 (-4) * 16 = 1 := p2m 4
  obtain ⟨-, hp, fp, vp⟩ := sxd_tab v hv
  obtain ⟨-, fx⟩ := qtr_tab u hu
  have hv' : (v : Rat) ≤ 16 := Rat.natCast_le_natCast.2 (show v ≤ 16 by omega)
  have hv0 : (0 : Rat) ≤ (v : Rat) := Rat.natCast_nonneg
  have vP : Vl .f32 (some (sxd v)) ((v : Rat) * p2 (-4)) := by
    have := fin_vl fp
    rw [vp] at this
    rwa [show (v : Rat) * p2 (-4) = (v : Rat) / 16 by grind]
  have epq : (v : Rat) * p2 (-4) = (v : Rat) / 16 := by grind
  obtain ⟨c1, hgr⟩ := greater_facts ha hb fx
  obtain ⟨c2, hmi⟩ := mix_facts ha hb (k := v) (by omega) vP hp fx
  rw [epq] at vP hmi
  generalize sxd v = P at *
  generalize qtr u = X at *
  obtain ⟨q, hq⟩ : ∃ q, q = (v : Rat) / 16 := ⟨_, rfl⟩
  have hq0 : 0 ≤ q := by grind
  have hq1 : q ≤ 1 := by grind
  rw [← hq] at vP hmi
  clear hq epq vp hv' hv0
  obtain ⟨a, B, b, qb, qv, qa, bo, bv, vB, b1, b2⟩ := ha.quant vP hq0 hq1 hp
  obtain ⟨Pc, pc, po, pv, vPc, p1, p2', p3, p4⟩ := ha.belowX fx
  obtain ⟨Qc, qc, qo, qw, vQc, r1, r2, r3, r4⟩ := hb.belowX fx
  generalize Ph (ind (val X)) G = F at *
  generalize Ph (ind (val X)) H = K at *
  obtain ⟨c, vc, hc1, hc2⟩ := milli64
  obtain ⟨ce, vce, hce⟩ := cent_vl
  obtain ⟨d1, k1, e1, vd1, kd1, kd2⟩ := sub64 (vl_upW vP) vc (by grind) (by grind)
  have pqb := mul_bd (a := pc) (A := 2) (by grind) (by grind) (b := qc) (B := 2) (by grind) (by grind)
  obtain ⟨m1, k2, e2, vm1, km1, km2⟩ := mul64 (vl_upW vPc) (vl_upW vQc) (by grind) (by grind)
  obtain ⟨s1, k3, e3, vs1, ks1, ks2⟩ := sub64 one64 (vl_upW vP) (by grind) (by grind)
  have spb := mul_bd (a := k3) (A := 2) (by grind) (by grind) (b := pc) (B := 2) (by grind) (by grind)
  obtain ⟨m2, k4, e4, vm2, km3, km4⟩ := mul64 vs1 (vl_upW vPc) (by grind) (by grind)
  have qqb := mul_bd (a := q) (A := 1) (by grind) hq1 (b := qc) (B := 2) (by grind) (by grind)
  obtain ⟨m3, k5, e5, vm3, km5, km6⟩ := mul64 (vl_upW vP) (vl_upW vQc) (by grind) (by grind)
  obtain ⟨s2, k6, e6, vs2, ks3, ks4⟩ := add64 vm2 vm3 (by grind) (by grind)
  obtain ⟨qs, hqs, hqs', hval⟩ := vals_of ha hb
  obtain ⟨A, al, b1', av, vA, a1, a2⟩ := apart_vl ha hb hval hqs
  obtain ⟨A', al', b2', aw, vA', a1', a2'⟩ := apart_vl hb ha hval.sym hqs'
  rw [sumAp_sym] at a1' a2'
  obtain ⟨St, st, sv, vSt, st1, st2⟩ := steps_vl ha hb hval hqs
  obtain ⟨N, nv, vN⟩ := apart_self ha
  obtain ⟨S0, S1⟩ := sumAp_le hval (fun q => (ha.gsh.chance q).2.1) (fun q => (hb.gsh.chance q).2.1)
  generalize sumAp G H qs = S at *
  have A2 := ha.t2
  have B2 := hb.t2
  obtain ⟨g3, k7, e7, vg3, -, kg3⟩ := gap64 (vl_upW vA) (vl_upW vA') (D := p2 (-16)) (by grind) (by grind) (by grind)
  obtain ⟨s3, k8, e8, vs3, ks5, ks6⟩ := add64 (vl_upW vA) vc (by grind) (by grind)
  obtain ⟨E, en, ev, vE, en1, en2⟩ := ent_vl ha
  obtain ⟨c', vc', hc'⟩ := mmilli64
  obtain ⟨o, vo, ho⟩ := onemil64
  obtain ⟨si, vsi, hsi⟩ := six64
  have d1' := mul_bd (a := pc - F) (A := p2 (-20)) (by grind) (by grind) (b := qc) (B := 2) (by grind) (by grind)
  have d2' := mul_bd (a := F) (A := 2) (by grind) (by grind) (b := qc - K) (B := p2 (-20)) (by grind) (by grind)
  have d3' := mul_bd (a := k3 - (1 - q)) (A := p2 (-43)) (by grind) (by grind) (b := pc) (B := 2) (by grind) (by grind)
  have d4' := mul_bd (a := 1 - q) (A := 1) (by grind) (by grind) (b := pc - F) (B := p2 (-20)) (by grind) (by grind)
  have d5' := mul_bd (a := q) (A := 1) (by grind) (by grind) (b := qc - K) (B := p2 (-20)) (by grind) (by grind)
  refine ⟨a, B, Pc, Qc, d1, m1, s1, m2, m3, s2, A, A', St, N, E, g3, s3, qb, qv, qa, bo, bv, po, pv, qo, qw, vl_nan vP, vl_nan vB, vl_nan vPc, vl_nan vQc, vl_nan vA, vl_nan vA', vl_nan vSt, vl_nan vE, e1, nlt64 (vl_upW vB) vd1 (by grind), e2, e3, e4, e5, e6, c1, c2, ?_, ?_, fun z0 hz k y hy => given_gt ha.gsh fx hz hy, ha.gsh.ok, ha.wlt, b1', b2', both_t ha.gsh.ok ha.gsh.ok, av, aw, sv, nv, ?_, e7, lt64 vg3 vc (by grind), le64 (vl_upW vA) vo (by grind), e8, le64 (vl_upW vSt) vs3 (by grind), ev, ge64 (vl_upW vE) vc' (by grind), le64 (vl_upW vE) vsi (by grind)⟩
  · intro z0 z1 h0 h1
    obtain ⟨l0, l1, R, r, ro, rv, vR, t1, t2⟩ := hgr z0 z1 h0 h1
    obtain ⟨g, k, eg, vg, -, kg⟩ := gap64 (vl_upW vR) vm1 (D := p2 (-7) * (1 / 2)) (by grind) (by grind) (by grind)
    exact ⟨l0, l1, R, g, ro, rv, vl_nan vR, eg, ngt64 vg vce (by grind)⟩
  · intro z0 z1 h0 h1
    obtain ⟨l0, l1, R, r, ro, rv, vR, t1, t2⟩ := hmi z0 z1 h0 h1
    obtain ⟨g, k, eg, vg, -, kg⟩ := gap64 (vl_upW vR) vs2 (D := p2 (-7) * (1 / 2)) (by grind) (by grind) (by grind)
    exact ⟨l0, l1, R, g, ro, rv, vl_nan vR, eg, ngt64 vg vce (by grind)⟩
  · rw [(vl_ord vN vl_zero).2.2.2 rfl]; rfl
end
end Go.Proofs.YtjajlddnhmbekaaGreat
