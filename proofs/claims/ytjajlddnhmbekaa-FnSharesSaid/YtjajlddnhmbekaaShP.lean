/-
  A drawn share that is moved: its mean, nearly.
  What FnShares reckons, nearly: every comparison of it holds.
-/
import Derived.Test.YtjajlddnhmbekaaShM
import Derived.Test.YtjajlddnhmbekaaShift
import Derived.Test.YtjajlddnhmbekaaSumSh
namespace Go.Proofs.Ytjajlddnhmbekaa
section
open Go.RowKit

def aff (a c v : Rat) : Rat := v * a + c
theorem ph_aff (a c : Rat) : ∀ G : List (Nat × Option Nat), Ph (aff a c) G = a * Ph idq G + c * Ph one G
  | [] => by rw [ph_nil, ph_nil, ph_nil]; grind
  | p :: G => by rw [ph_cons, ph_cons, ph_cons, ph_aff a c G]; unfold aff idq one; grind
theorem ph_map (f : Rat → Rat) (φ : Rat → Rat) (g : Nat → Nat) : ∀ G : List (Nat × Option Nat), (∀ p ∈ G, val (g p.1) = φ (val p.1)) → Ph f (G.map fun p => (g p.1, p.2)) = Ph (fun v => f (φ v)) G
  | [], _ => rfl
  | p :: G, h => by
    rw [List.map_cons, ph_cons, ph_cons, ph_map f φ g G (fun x hx => h x (by simp [hx]))]
    dsimp only
    rw [h p (by simp)]
theorem map_fst_snd (g : Nat → Nat) : ∀ G : List (Nat × Option Nat), ((G.map Prod.fst).map g).zip (G.map Prod.snd) = G.map fun p => (g p.1, p.2)
  | [] => rfl
  | p :: G => by simp only [List.map_cons, List.zip_cons_cons, map_fst_snd g G]
theorem dif_mul {b z : Int} : ((z : Rat) / 2) * ((b : Rat) / 2) = ((z * b : Int) : Rat) * p2 (-2) := by
  have q2 : p2 (-2) * 4 = 1 := p2m 2
  rw [Rat.intCast_mul]; grind
theorem shift_one {z b c : Int} (h1 : -8 ≤ z) (h2 : z ≤ 8) (b1 : -4 ≤ b) (b2 : b ≤ 4) (c1 : -4 ≤ c) (c2 : c ≤ 4) : ∃ w, shiftA (hwd b) (hwd c) (hwd z) = some w ∧ finB w = true ∧ val w = (z : Rat) / 2 * ((b : Rat) / 2) + (c : Rat) / 2 := by
  obtain ⟨fz, vz⟩ := hwd_vl h1 h2
  obtain ⟨fb, vb⟩ := hwd_vl (z := b) (by omega) (by omega)
  obtain ⟨fc, vc⟩ := hwd_vl (z := c) (by omega) (by omega)
  have lz := fin_vl fz
  have lb := fin_vl fb
  have lc := fin_vl fc
  rw [vz] at lz
  rw [vb] at lb
  rw [vc] at lc
  have q2 : p2 (-2) * 4 = 1 := p2m 2
  have hzb : (z * b).natAbs ≤ 32 := by
    rw [Int.natAbs_mul]
    have := Nat.mul_le_mul (show z.natAbs ≤ 8 by omega) (show b.natAbs ≤ 4 by omega)
    exact this
  have r1 : RepK .f32 ((z : Rat) / 2 * ((b : Rat) / 2)) := by
    rw [dif_mul]
    exact rep_grid (in32 (by omega) (by omega)) (by show (z * b).natAbs ≤ 16777216; omega)
  obtain ⟨r, hr, hn⟩ := vl_mul lz lb r1 r1 Rat.le_refl Rat.le_refl
  rw [hn.exact r1] at hr
  have e2 : (z : Rat) / 2 * ((b : Rat) / 2) + (c : Rat) / 2 = ((z * b + 2 * c : Int) : Rat) * p2 (-2) := by
    rw [dif_mul, Rat.intCast_add, Rat.intCast_mul 2 c]
    have : ((2 : Int) : Rat) = 2 := rfl
    rw [this]; grind
  have r2 : RepK .f32 ((z : Rat) / 2 * ((b : Rat) / 2) + (c : Rat) / 2) := by
    rw [e2]
    exact rep_grid (in32 (by omega) (by omega)) (by show (z * b + 2 * c).natAbs ≤ 16777216; omega)
  obtain ⟨r', hr', hn'⟩ := vl_add hr lc r2 r2 Rat.le_refl Rat.le_refl
  rw [hn'.exact r2] at hr'
  have hr2 := hr'
  obtain ⟨w, ew, -⟩ := hr'
  rw [ew] at hr2
  refine ⟨w, ?_, (vl_fin hr2).1, vl_val hr2⟩
  unfold shiftA
  rw [(vl_fin lz).2, (vl_fin lb).2, (vl_fin lc).2]
  exact ew
section
variable {G : List (Nat × Option Nat)} {x0 x1 : List Nat}
theorem shift_facts (ha : DSh G x0 x1) {b c : Int} (b1 : -4 ≤ b) (b2 : b ≤ 4) (c1 : -4 ≤ c) (c2 : c ≤ 4) :
    shiftOk x0 x1 (hwd b) (hwd c) = true ∧ ∀ z0 z1, absL z0 = absL ((gatS (gatW (shiftTo x0 (hwd b) (hwd c) x0.length)) (absL x1)).map Prod.fst) → absL z1 = (gatS (gatW (shiftTo x0 (hwd b) (hwd c) x0.length)) (absL x1)).map Prod.snd →
      ∃ E e, Vl .f32 (some E) e ∧ meanOk z0 z1 = true ∧ meanV z0 z1 = some E ∧ (b : Rat) / 2 * Ph idq G + (c : Rat) / 2 - p2 (-10) ≤ e ∧ e ≤ (b : Rat) / 2 * Ph idq G + (c : Rat) / 2 + p2 (-10) := by
  have q19 : p2 (-19) * 524288 = 1 := p2m 19
  have q17 : p2 (-17) * 131072 = 1 := p2m 17
  have q16 : p2 (-16) * 65536 = 1 := p2m 16
  have q12 : p2 (-12) * 4096 = 1 := p2m 12
  have q10 : p2 (-10) * 1024 = 1 := p2m 10
  have ba := half_bd (z := b) (by omega) (by omega)
  have ca := half_bd (z := c) (by omega) (by omega)
  have ba2 : -2 ≤ (b : Rat) / 2 ∧ (b : Rat) / 2 ≤ 2 := by
    have a := Rat.intCast_le_intCast.2 b1
    have d := Rat.intCast_le_intCast.2 b2
    have e1 : ((-4 : Int) : Rat) = -4 := rfl
    have e2 : ((4 : Int) : Rat) = 4 := rfl
    rw [e1] at a; rw [e2] at d
    constructor <;> grind
  have ca2 : -2 ≤ (c : Rat) / 2 ∧ (c : Rat) / 2 ≤ 2 := by
    have a := Rat.intCast_le_intCast.2 c1
    have d := Rat.intCast_le_intCast.2 c2
    have e1 : ((-4 : Int) : Rat) = -4 := rfl
    have e2 : ((4 : Int) : Rat) = 4 := rfl
    rw [e1] at a; rw [e2] at d
    constructor <;> grind
  have hval : ∀ p ∈ G, ∃ w, shiftA (hwd b) (hwd c) p.1 = some w ∧ finB w = true ∧ val w = aff ((b : Rat) / 2) ((c : Rat) / 2) (val p.1) := fun p hp => by
    obtain ⟨z, z1, z2, e, v⟩ := ha.half p hp
    rw [e, (hwd_vl z1 z2).2]
    exact shift_one z1 z2 b1 b2 c1 c2
  have hxs : gatW (shiftTo x0 (hwd b) (hwd c) x0.length) = (G.map Prod.fst).map fun v => wordOf (shiftA (hwd b) (hwd c) v) := by
    unfold gatW shiftTo
    rw [List.take_length, ha.gsh.e0, List.map_map, List.map_map, List.map_map]; rfl
  have hzip : (gatW (shiftTo x0 (hwd b) (hwd c) x0.length)).zip (absL x1) = G.map fun p => (wordOf (shiftA (hwd b) (hwd c) p.1), p.2) := by
    rw [hxs, ha.gsh.absl]
    exact map_fst_snd _ G
  have hv : ∀ p ∈ G, val (wordOf (shiftA (hwd b) (hwd c) p.1)) = aff ((b : Rat) / 2) ((c : Rat) / 2) (val p.1) := fun p hp => by
    obtain ⟨w, e, -, hw⟩ := hval p hp
    rw [e]; exact hw
  have hlx : (gatW (shiftTo x0 (hwd b) (hwd c) x0.length)).length = G.length := by rw [hxs, List.length_map, List.length_map]
  have hl : (absL x1).length = (gatW (shiftTo x0 (hwd b) (hwd c) x0.length)).length := by rw [hlx, ha.gsh.absl, List.length_map]
  have hge := ha.ge
  have hle := ha.le
  have hf : (gatW (shiftTo x0 (hwd b) (hwd c) x0.length)).all finB = true := by
    rw [hxs, List.all_eq_true]
    intro x hx
    obtain ⟨v, hv', rfl⟩ := List.mem_map.1 hx
    obtain ⟨p, hp, rfl⟩ := List.mem_map.1 hv'
    obtain ⟨w, e, fw, -⟩ := hval p hp
    rw [e]; exact fw
  have hC : ∀ d ∈ absL x1, OkC d := fun d hd => by
    rw [ha.gsh.absl] at hd
    obtain ⟨p, hp, rfl⟩ := List.mem_map.1 hd
    exact ha.gsh.ch p hp
  have hone : Ph one ((gatW (shiftTo x0 (hwd b) (hwd c) x0.length)).zip (absL x1)) = Ph one G := by
    rw [hzip, ph_map one (aff ((b : Rat) / 2) ((c : Rat) / 2)) (fun v => wordOf (shiftA (hwd b) (hwd c) v)) G hv]; rfl
  have hidq : Ph idq ((gatW (shiftTo x0 (hwd b) (hwd c) x0.length)).zip (absL x1)) = (b : Rat) / 2 * Ph idq G + (c : Rat) / 2 * Ph one G := by
    rw [hzip, ph_map idq (aff ((b : Rat) / 2) ((c : Rat) / 2)) (fun v => wordOf (shiftA (hwd b) (hwd c) v)) G hv]
    exact ph_aff _ _ G
  have t1 := ha.t1
  have t2 := ha.t2
  obtain ⟨hok, hch, key⟩ := gat_good hl (by omega) (by omega) hf hC (by rw [hone]; grind) (by rw [hone]; grind)
  obtain ⟨fb, -⟩ := hwd_vl (z := b) (by omega) (by omega)
  obtain ⟨fc, -⟩ := hwd_vl (z := c) (by omega) (by omega)
  have hb12 : ∀ p ∈ G, -12 ≤ aff ((b : Rat) / 2) ((c : Rat) / 2) (val p.1) ∧ aff ((b : Rat) / 2) ((c : Rat) / 2) (val p.1) ≤ 12 := fun p hp => by
    have v := ha.val4 p hp
    have := mul_bd v.1 v.2 ba2.1 ba2.2
    unfold aff
    constructor <;> grind
  have hmem : ∀ x ∈ gatW (shiftTo x0 (hwd b) (hwd c) x0.length), -12 ≤ val x ∧ val x ≤ 12 := fun x hx => by
    rw [hxs] at hx
    obtain ⟨v, hv', rfl⟩ := List.mem_map.1 hx
    obtain ⟨p, hp, rfl⟩ := List.mem_map.1 hv'
    rw [hv p hp]
    exact hb12 p hp
  refine ⟨by rw [shiftOk_t (by unfold shiftG; rw [ha.gsh.ok, fb, fc]; rfl)]; exact hok, fun z0 z1 h0 h1 => ?_⟩
  have gK := gsh_of hl (by omega) (by omega) hf hC (by rw [hone]; grind) (by rw [hone]; grind) h0 h1
  obtain ⟨E, e, -, vE, mo, mv, m1, m2⟩ := gK.mean (fun p hp => by
    obtain ⟨i, hi, e⟩ := gAt_mem (l := List.range (gatW (shiftTo x0 (hwd b) (hwd c) x0.length)).length) hp
    rw [List.mem_range] at hi
    obtain ⟨x, hx⟩ := get_of_lt hi
    rw [hx] at e
    rw [← e]
    exact hmem x (List.mem_of_getElem? hx))
  obtain ⟨i1, i2⟩ := key idq 12 hmem
  rw [hidq] at i1 i2
  have hKl : (gatS (gatW (shiftTo x0 (hwd b) (hwd c) x0.length)) (absL x1)).length ≤ 6 := by
    have := gAt_len (xs := gatW (shiftTo x0 (hwd b) (hwd c) x0.length)) (C := absL x1) (List.range (gatW (shiftTo x0 (hwd b) (hwd c) x0.length)).length)
    rw [List.length_range] at this
    exact Nat.le_trans this (by omega)
  have hKn : ((gatS (gatW (shiftTo x0 (hwd b) (hwd c) x0.length)) (absL x1)).length : Rat) ≤ 6 := Rat.natCast_le_natCast.2 hKl
  have k19 := Rat.mul_le_mul_of_nonneg_right hKn (p2_nn (-19))
  have ct := mul_bd ca2.1 ca2.2 (b := Ph one G - 1) (B := p2 (-16)) (by grind) (by grind)
  exact ⟨E, e, vE, mo, mv, by grind, by grind⟩
end
end

section
open Go.RowKit

theorem hwd4 {v : Nat} (h : v < 9) : floatBits .quo .f32 (floatOfInt .f32 ((v : Int) - 4)) 1073741824 = some (hwd ((v : Int) - 4)) := by
  have := hwd_eq (x := v + 4) (by omega)
  rwa [show ((v + 4 : Nat) : Int) - 8 = (v : Int) - 4 by omega] at this
section
variable {G H : List (Nat × Option Nat)} {x0 x1 y0 y1 : List Nat}
theorem DSh.w0 (h : DSh G x0 x1) : ∀ x ∈ x0, x < 4294967296 := by
  intro x hx
  rw [h.gsh.e0] at hx
  obtain ⟨p, hp, rfl⟩ := List.mem_map.1 hx
  obtain ⟨z, z1, z2, e, -⟩ := h.half p hp
  rw [e]
  have := hwd_lt (z + 8).toNat (by omega)
  rwa [show (((z + 8).toNat : Nat) : Int) - 8 = z by omega] at this
theorem combV_lt (ha : DSh G x0 x1) (hb : DSh H y0 y1) {z0 z1 : List Nat} (h0 : absL z0 = absL ((gatS (combV (pairG true) x0 y0) (combC x1 y1)).map Prod.fst)) (h1 : absL z1 = (gatS (combV (pairG true) x0 y0) (combC x1 y1)).map Prod.snd) : (∀ c ∈ z0, c < 4294967296) ∧ (∀ c ∈ z1, c < 4294967296) ∧ combOk (pairG true) x0 x1 y0 y1 = true ∧ ∀ p ∈ gatS (combV (pairG true) x0 y0) (combC x1 y1), OkC p.2 := by
  obtain ⟨hok, hK⟩ := comb_share ha.gsh hb.gsh ha.le hb.le ha.ge hb.ge ha.t1 ha.t2 hb.t1 hb.t2 (goodG_plus ha hb)
  have hok' := hok
  rw [combOk_t (by unfold combG; rw [ha.gsh.ok, hb.gsh.ok]; rfl)] at hok'
  have hf : (combV (pairG true) x0 y0).all finB = true := by
    cases e : (combV (pairG true) x0 y0).all finB with
    | true => rfl
    | false => rw [gatOk_f e] at hok'; cases hok'
  rw [gatOk_t hf] at hok'
  have hl : ∀ p ∈ gatS (combV (pairG true) x0 y0) (combC x1 y1), OkC p.2 := by
    intro p hp
    unfold shareAB at hok'
    simp only [Bool.and_eq_true] at hok'
    have := List.all_eq_true.1 hok'.2.1 p.2 (List.mem_map_of_mem hp)
    cases e : p.2 with
    | none => rw [e] at this; cases this
    | some b =>
      rw [e] at this
      have hb : leastB b = true := this
      unfold leastB at hb
      rw [Bool.and_eq_true] at hb
      have fb := fin_vl hb.1
      refine okC_of fb ?_
      have f0 : finB 0 = true := by decide
      have v0 : val 0 = 0 := vl_val vl_zero
      have h2 := hb.2
      unfold ord32 at h2
      rw [Bool.or_eq_true, beq_iff_eq, beq_iff_eq, gt_val hb.1 f0, eq_val hb.1 f0, v0] at h2
      rcases h2 with h2 | h2 <;> grind
  refine ⟨value_lt hf (fun x hx => ?_) h0, chance_lt hl h1, hok, hl⟩
  unfold combV gatW at hx
  obtain ⟨o, ho, rfl⟩ := List.mem_map.1 hx
  unfold fullP at ho
  obtain ⟨a, -, ho⟩ := List.mem_flatMap.1 ho
  obtain ⟨b, -, rfl⟩ := List.mem_map.1 ho
  cases e : pairG true a b with
  | none => show (2143289344 : Nat) < 4294967296; decide
  | some w =>
    show w < 4294967296
    unfold pairG addW at e
    rw [if_pos rfl] at e
    exact opF_lt e
structure ShP (x0 x1 y0 y1 : List Nat) (v u X Y P Q N s1 s2 t1 t2 g4 : Nat) : Prop where
  mx : meanOk x0 x1 = true
  vx : meanV x0 x1 = some X
  my : meanOk y0 y1 = true
  vy : meanV y0 y1 = some Y
  px : momOk x0 x1 2 = true
  vp : momV x0 x1 2 = some P
  qy : momOk y0 y1 2 = true
  vq : momV y0 y1 2 = some Q
  nx : momOk x0 x1 1 = true
  vn : momV x0 x1 1 = some N
  fX : (FloatKind.f32.decode X).isNaN = false
  fY : (FloatKind.f32.decode Y).isNaN = false
  fP : (FloatKind.f32.decode P).isNaN = false
  fQ : (FloatKind.f32.decode Q).isNaN = false
  fN : (FloatKind.f32.decode N).isNaN = false
  fb : (FloatKind.f32.decode (hwd ((v : Int) - 4))).isNaN = false
  fc : (FloatKind.f32.decode (hwd ((u : Int) - 4))).isNaN = false
  c1 : combOk (pairG true) x0 x1 y0 y1 = true
  c2 : combOk (pairG true) x0 x1 x0 x1 = true
  sh : shareB x0 x1 = true
  sm : sumOk x0 x1 2 = true
  sf : shiftOk x0 x1 (hwd ((v : Int) - 4)) (hwd ((u : Int) - 4)) = true
  w0 : ∀ x ∈ x0, x < 4294967296
  w1 : ∀ x ∈ x1, x < 4294967296
  a1 : floatBits .add .f64 (upBits X) (upBits Y) = some s1
  a2 : floatBits .add .f64 (upBits P) (upBits Q) = some s2
  m1 : floatBits .mul .f64 (upBits (hwd ((v : Int) - 4))) (upBits X) = some t1
  m2 : floatBits .add .f64 t1 (upBits (hwd ((u : Int) - 4))) = some t2
  d4 : gapW (upBits N) 0 = some g4
  l4 : (FloatKind.f64.format.order g4 4576918229304087675 == some .lt) = true
  own : ∀ z0 z1, absL z0 = absL ((gatS (combV (pairG true) x0 y0) (combC x1 y1)).map Prod.fst) → absL z1 = (gatS (combV (pairG true) x0 y0) (combC x1 y1)).map Prod.snd →
    (∀ c ∈ z0, c < 4294967296) ∧ (∀ c ∈ z1, c < 4294967296) ∧ ∃ M V g1 g2, meanOk z0 z1 = true ∧ meanV z0 z1 = some M ∧ momOk z0 z1 2 = true ∧ momV z0 z1 2 = some V ∧ (FloatKind.f32.decode M).isNaN = false ∧ (FloatKind.f32.decode V).isNaN = false ∧
      gapW (upBits M) s1 = some g1 ∧ (FloatKind.f64.format.order g1 4576918229304087675 == some .gt) = false ∧ gapW (upBits V) s2 = some g2 ∧ (FloatKind.f64.format.order g2 4587366580439587226 == some .gt) = false
  mov : ∀ z0 z1, absL z0 = absL ((gatS (gatW (shiftTo x0 (hwd ((v : Int) - 4)) (hwd ((u : Int) - 4)) x0.length)) (absL x1)).map Prod.fst) → absL z1 = (gatS (gatW (shiftTo x0 (hwd ((v : Int) - 4)) (hwd ((u : Int) - 4)) x0.length)) (absL x1)).map Prod.snd →
    ∃ E g3, meanOk z0 z1 = true ∧ meanV z0 z1 = some E ∧ (FloatKind.f32.decode E).isNaN = false ∧ gapW (upBits E) t2 = some g3 ∧ (FloatKind.f64.format.order g3 4576918229304087675 == some .lt) = true
  dbl : ∀ z0 z1 w0 w1, absL z0 = absL (sumV x0 x1 2) → absL z1 = absL (sumC x0 x1 2) → absL w0 = absL ((gatS (combV (pairG true) x0 x0) (combC x1 x1)).map Prod.fst) → absL w1 = (gatS (combV (pairG true) x0 x0) (combC x1 x1)).map Prod.snd →
    (∀ c ∈ z0, c < 4294967296) ∧ (∀ c ∈ z1, c < 4294967296) ∧ (∀ c ∈ w0, c < 4294967296) ∧ (∀ c ∈ w1, c < 4294967296) ∧ absL z0 = absL w0 ∧ absL z1 = absL w1
theorem vl_up' {b : Nat} {q : Rat} (h : Vl .f32 (some b) q) : Vl .f64 (some (upBits b)) q := vl_up h
theorem zero64 : Vl .f64 (some 0) 0 := by
  have := vl_of (k := .f64) (b := 0) (s := false) (m := 0) (p := -1074) (by decide)
  rwa [show vD (.number false 0 (-1074)) = 0 from mg_zero _] at this
theorem shP_of (ha : DSh G x0 x1) (hb : DSh H y0 y1) {v u : Nat} (hv : v < 9) (hu : u < 9) : ∃ X Y P Q N s1 s2 t1 t2 g4, ShP x0 x1 y0 y1 v u X Y P Q N s1 s2 t1 t2 g4 := by
  have q43 : p2 (-43) * 8796093022208 = 1 := p2m 43
  have q19 : p2 (-19) * 524288 = 1 := p2m 19
  have q16 : p2 (-16) * 65536 = 1 := p2m 16
  have q11 : p2 (-11) * 2048 = 1 := p2m 11
  have q10 : p2 (-10) * 1024 = 1 := p2m 10
  have q8 : p2 (-8) * 256 = 1 := p2m 8
  have q7 : p2 (-7) * 128 = 1 := p2m 7
  have q6 : p2 (-6) * 64 = 1 := p2m 6
  have q5 : p2 (-5) * 32 = 1 := p2m 5
  obtain ⟨A1, A2, A3, A4⟩ := ha.sums
  obtain ⟨B1, B2, B3, B4⟩ := hb.sums
  obtain ⟨X, x, vX, mx, vx, ex1, ex2⟩ := ha.mean
  obtain ⟨Y, y, vY, my, vy, ey1, ey2⟩ := hb.mean
  obtain ⟨P, p, vP, px, vp, ep1, ep2⟩ := ha.mom2 vX mx vx (by grind) (by grind)
  obtain ⟨Q, q, vQ, qy, vq, eq1, eq2⟩ := hb.mom2 vY my vy (by grind) (by grind)
  obtain ⟨N, n, vN, nx, vn, en1, en2⟩ := ha.mom1 vX mx vx (by grind) (by grind)
  have hP : -200 ≤ p ∧ p ≤ 200 := by
    rw [ph_sqd] at ep1 ep2
    have t1 := ha.t1
    have t2 := ha.t2
    have xa := mul_bd (a := x) (A := 6) (by grind) (by grind) (b := Ph idq G) (B := 5) A1 A2
    have xx := mul_bd (a := x) (A := 6) (by grind) (by grind) (b := x) (B := 6) (by grind) (by grind)
    have xxs := mul_bd xx.1 xx.2 (b := Ph one G - 1) (B := p2 (-16)) (by grind) (by grind)
    constructor <;> grind
  have hQ : -200 ≤ q ∧ q ≤ 200 := by
    rw [ph_sqd] at eq1 eq2
    have t1 := hb.t1
    have t2 := hb.t2
    have xa := mul_bd (a := y) (A := 6) (by grind) (by grind) (b := Ph idq H) (B := 5) B1 B2
    have xx := mul_bd (a := y) (A := 6) (by grind) (by grind) (b := y) (B := 6) (by grind) (by grind)
    have xxs := mul_bd xx.1 xx.2 (b := Ph one H - 1) (B := p2 (-16)) (by grind) (by grind)
    constructor <;> grind
  have hN : -p2 (-8) ≤ n ∧ n ≤ p2 (-8) := by
    rw [ph_dif] at en1 en2
    have t1 := ha.t1
    have t2 := ha.t2
    have xs := mul_bd (a := x) (A := 6) (by grind) (by grind) (b := Ph one G - 1) (B := p2 (-16)) (by grind) (by grind)
    constructor <;> grind
  obtain ⟨s1, r1, es1, vs1, rs1, rs1'⟩ := add64 (vl_up' vX) (vl_up' vY) (by grind) (by grind)
  obtain ⟨s2, r2, es2, vs2, rs2, rs2'⟩ := add64 (vl_up' vP) (vl_up' vQ) (by grind) (by grind)
  obtain ⟨fb, vb⟩ := hwd_vl (z := (v : Int) - 4) (by omega) (by omega)
  obtain ⟨fc, vc⟩ := hwd_vl (z := (u : Int) - 4) (by omega) (by omega)
  have lb := fin_vl fb
  have lc := fin_vl fc
  rw [vb] at lb
  rw [vc] at lc
  have hbb := half_bd (z := (v : Int) - 4) (by omega) (by omega)
  have hcc := half_bd (z := (u : Int) - 4) (by omega) (by omega)
  have bx := mul_bd hbb.1 hbb.2 (b := x) (B := 6) (by grind) (by grind)
  obtain ⟨t1, r3, et1, vt1, rt1, rt1'⟩ := mul64 (vl_up' lb) (vl_up' vX) (by grind) (by grind)
  obtain ⟨t2, r4, et2, vt2, rt2, rt2'⟩ := add64 vt1 (vl_up' lc) (by grind) (by grind)
  obtain ⟨g4, r5, eg4, vg4, rg4, rg4'⟩ := gap64 (vl_up' vN) zero64 (D := p2 (-8)) (by grind) (by grind) (by grind)
  obtain ⟨C1, vC1, hC1⟩ := cent_vl
  obtain ⟨C2, vC2, hC2⟩ := five_vl
  obtain ⟨hsf, hmov⟩ := shift_facts ha (b := (v : Int) - 4) (c := (u : Int) - 4) (by omega) (by omega) (by omega) (by omega)
  have hc1 : combOk (pairG true) x0 x1 y0 y1 = true := (comb_share ha.gsh hb.gsh ha.le hb.le ha.ge hb.ge ha.t1 ha.t2 hb.t1 hb.t2 (goodG_plus ha hb)).1
  have hc2 : combOk (pairG true) x0 x1 x0 x1 = true := (comb_share ha.gsh ha.gsh ha.le ha.le ha.ge ha.ge ha.t1 ha.t2 ha.t1 ha.t2 (goodG_plus ha ha)).1
  have hc2' := hc2
  rw [combOk_t (by unfold combG; rw [ha.gsh.ok]; rfl)] at hc2'
  have hit : sumIt x0 x1 ((2 : Int).toNat - 1) = some ((gatS (combV (pairG true) x0 x0) (combC x1 x1)).map Prod.fst, gatW ((gatS (combV (pairG true) x0 x0) (combC x1 x1)).map Prod.snd)) := by
    show sumIt x0 x1 1 = _
    unfold sumIt
    show (match sumIt x0 x1 0 with | none => none | some p => _) = _
    unfold sumIt
    show (if gatOk (combV (pairG true) x0 x0) (combC x1 x1) = true then _ else _) = _
    rw [if_pos hc2']
  have hsg : sumG x0 x1 2 = true := by unfold sumG; rw [ha.gsh.ok]; rfl
  obtain ⟨hso, hsv, hsc⟩ := sumOk_some hsg hit
  refine ⟨X, Y, P, Q, N, s1, s2, t1, t2, g4, mx, vx, my, vy, px, vp, qy, vq, nx, vn, vl_nan vX, vl_nan vY, vl_nan vP, vl_nan vQ, vl_nan vN, vl_nan lb, vl_nan lc, hc1, hc2, ha.gsh.ok, hso, hsf, ha.w0, ha.w1, es1, es2, et1, et2, eg4, lt64 vg4 vC1 (by grind), ?_, ?_, ?_⟩
  · intro z0 z1 h0 h1
    obtain ⟨l0, l1, -, -⟩ := combV_lt ha hb h0 h1
    obtain ⟨M, V, m, w, vM, vV, mo, mv, vo, vv, d1, d2, d3, d4, m9, m9', w3, w3'⟩ := sum_facts ha hb ex1 ex2 ey1 ey2 ep1 ep2 eq1 eq2 h0 h1
    obtain ⟨g1, k1, eg1, vg1, -, rg1⟩ := gap64 (vl_up' vM) vs1 (D := p2 (-8) + p2 (-43)) (by grind) (by grind) (by grind)
    obtain ⟨g2, k2, eg2, vg2, -, rg2⟩ := gap64 (vl_up' vV) vs2 (D := p2 (-5) + p2 (-7) + p2 (-43)) (by grind) (by grind) (by grind)
    exact ⟨l0, l1, M, V, g1, g2, mo, mv, vo, vv, vl_nan vM, vl_nan vV, eg1, ngt64 vg1 vC1 (by grind), eg2, ngt64 vg2 vC2 (by grind)⟩
  · intro z0 z1 h0 h1
    obtain ⟨E, e, vE, mo, mv, d1, d2⟩ := hmov z0 z1 h0 h1
    have bxa := mul_bd hbb.1 hbb.2 (b := x - Ph idq G) (B := 6 * p2 (-19)) (by grind) (by grind)
    have hbA := mul_bd hbb.1 hbb.2 (b := Ph idq G) (B := 5) A1 A2
    obtain ⟨g3, k3, eg3, vg3, -, rg3⟩ := gap64 (vl_up' vE) vt2 (D := p2 (-8)) (by grind) (by grind) (by grind)
    exact ⟨E, g3, mo, mv, vl_nan vE, eg3, lt64 vg3 vC1 (by grind)⟩
  · intro z0 z1 w0 w1 h0 h1 k0 k1
    obtain ⟨l0, l1, -, hch⟩ := combV_lt ha ha k0 k1
    rw [hsv] at h0
    rw [hsc] at h1
    have e1 : absL (gatW ((gatS (combV (pairG true) x0 x0) (combC x1 x1)).map Prod.snd)) = (gatS (combV (pairG true) x0 x0) (combC x1 x1)).map Prod.snd := by
      unfold gatW absL
      rw [List.map_map, List.map_map]
      apply List.map_congr_left
      intro p hp
      show absF .f32 (wordOf p.2) = p.2
      have := (hch p hp).1
      have hv := this
      obtain ⟨b, eb, -⟩ := this
      rw [eb] at hv ⊢
      exact (vl_fin hv).2
    rw [e1] at h1
    obtain ⟨i0, i1, -, -⟩ := combV_lt ha ha h0 h1
    exact ⟨i0, i1, l0, l1, h0.trans k0.symm, h1.trans k1.symm⟩
end
end
end Go.Proofs.Ytjajlddnhmbekaa
