/-
  A combination of two drawn shares is a share, nearly with the weighed sums of the pairs.
  Sums of two drawn shares: means and moments, nearly. (What FnShares says of them.)
-/
import Derived.Test.YtjajlddnhmbekaaGreatPP
import Derived.Test.YtjajlddnhmbekaaGreatAdd2
import Derived.Test.YtjajlddnhmbekaaGreatDrawn2
namespace Go.Proofs.YtjajlddnhmbekaaGreat
section
open Go.RowKit

theorem row_three (φ : Rat → Rat → Rat) (f u1 v1 u2 v2 u3 v3 : Rat → Rat) (h : ∀ a b, f (φ a b) = u1 a * v1 b + u2 a * v2 b + u3 a * v3 b) (a c : Rat) : ∀ H : List (Nat × Option Nat),
    (H.map fun q => f (φ a (val q.1)) * (c * wo q.2)).sum = c * (u1 a * Ph v1 H + u2 a * Ph v2 H + u3 a * Ph v3 H)
  | [] => by rw [ph_nil, ph_nil, ph_nil]; show (0 : Rat) = _; grind
  | q :: H => by
    have es : ((q :: H).map fun q => f (φ a (val q.1)) * (c * wo q.2)).sum = f (φ a (val q.1)) * (c * wo q.2) + (H.map fun q => f (φ a (val q.1)) * (c * wo q.2)).sum := by simp
    rw [es, row_three φ f u1 v1 u2 v2 u3 v3 h a c H, h, ph_cons, ph_cons, ph_cons]
    grind
theorem PP_three (φ : Rat → Rat → Rat) (f u1 v1 u2 v2 u3 v3 : Rat → Rat) (h : ∀ a b, f (φ a b) = u1 a * v1 b + u2 a * v2 b + u3 a * v3 b) (H : List (Nat × Option Nat)) : ∀ G : List (Nat × Option Nat),
    PP φ f G H = Ph u1 G * Ph v1 H + Ph u2 G * Ph v2 H + Ph u3 G * Ph v3 H
  | [] => by rw [ph_nil, ph_nil, ph_nil]; show (0 : Rat) = _; grind
  | p :: G => by
    have es : PP φ f (p :: G) H = (H.map fun q => f (φ (val p.1) (val q.1)) * (wo p.2 * wo q.2)).sum + PP φ f G H := by simp [PP]
    rw [es, PP_three φ f u1 v1 u2 v2 u3 v3 h H G, row_three φ f u1 v1 u2 v2 u3 v3 h, ph_cons, ph_cons, ph_cons]
    grind
def zq (_ : Rat) : Rat := 0
theorem ph_zq : ∀ G : List (Nat × Option Nat), Ph zq G = 0
  | [] => rfl
  | p :: G => by rw [ph_cons, ph_zq G]; show 0 * wo p.2 + 0 = 0; grind
theorem PP_mul (φ : Rat → Rat → Rat) (f u v : Rat → Rat) (h : ∀ a b, f (φ a b) = u a * v b) (G H : List (Nat × Option Nat)) : PP φ f G H = Ph u G * Ph v H := by
  rw [PP_three φ f u v zq zq zq zq (fun a b => by rw [h]; show _ = _ + 0 * 0 + 0 * 0; grind), ph_zq, ph_zq]
  grind
theorem PP_one (φ : Rat → Rat → Rat) (G H : List (Nat × Option Nat)) : PP φ one G H = Ph one G * Ph one H := PP_mul φ one one one (fun _ _ => by show (1 : Rat) = 1 * 1; grind) G H
def sq (v : Rat) : Rat := v * v
theorem ph_sqd (m : Rat) : ∀ G : List (Nat × Option Nat), Ph (sqd m) G = Ph sq G - 2 * m * Ph idq G + m * m * Ph one G
  | [] => by rw [ph_nil, ph_nil, ph_nil, ph_nil]; grind
  | p :: G => by
    rw [ph_cons, ph_cons, ph_cons, ph_cons, ph_sqd m G]
    unfold sqd sq idq one
    grind
theorem ph_dif (m : Rat) : ∀ G : List (Nat × Option Nat), Ph (dif m) G = Ph idq G - m * Ph one G
  | [] => by rw [ph_nil, ph_nil, ph_nil]; grind
  | p :: G => by
    rw [ph_cons, ph_cons, ph_cons, ph_dif m G]
    unfold dif idq one
    grind
theorem ph_bd (f : Rat → Rat) (F : Rat) : ∀ G : List (Nat × Option Nat), (∀ p ∈ G, OkC p.2) → (∀ p ∈ G, -F ≤ f (val p.1) ∧ f (val p.1) ≤ F) → -(F * Ph one G) ≤ Ph f G ∧ Ph f G ≤ F * Ph one G
  | [], _, _ => by rw [ph_nil, ph_nil]; constructor <;> grind
  | p :: G, h, hf => by
    obtain ⟨a, b⟩ := ph_bd f F G (fun x hx => h x (by simp [hx])) (fun x hx => hf x (by simp [hx]))
    obtain ⟨f1, f2⟩ := hf p (by simp)
    have h0 := (h p (by simp)).2
    have := mul_bd f1 f2 (b := wo p.2) (B := wo p.2) (by grind) Rat.le_refl
    rw [ph_cons, ph_cons]
    have e1 : one (val p.1) = 1 := rfl
    rw [e1]
    constructor <;> grind
section
variable {G H : List (Nat × Option Nat)} {x0 x1 y0 y1 : List Nat} {g : Nat → Nat → Option Nat} {φ : Rat → Rat → Rat}
theorem comb_share (ha : GSh G x0 x1) (hb : GSh H y0 y1) (hn : G.length ≤ 6) (hm : H.length ≤ 6) (hn1 : 1 ≤ G.length) (hm1 : 1 ≤ H.length) (a1 : 1 - p2 (-16) ≤ Ph one G) (a2 : Ph one G ≤ 1 + p2 (-16)) (b1 : 1 - p2 (-16) ≤ Ph one H) (b2 : Ph one H ≤ 1 + p2 (-16)) (hg : GoodG g φ G H) :
    combOk g x0 x1 y0 y1 = true ∧ ∀ z0 z1, absL z0 = absL ((gatS (combV g x0 y0) (combC x1 y1)).map Prod.fst) → absL z1 = (gatS (combV g x0 y0) (combC x1 y1)).map Prod.snd →
      ∃ K, GSh K z0 z1 ∧ K.length ≤ 36 ∧ (∀ r ∈ K, ∃ p ∈ G, ∃ q ∈ H, val r.1 = φ (val p.1) (val q.1)) ∧ ∀ (f : Rat → Rat) (F : Rat), 0 ≤ F → (∀ p ∈ G, ∀ q ∈ H, -F ≤ f (φ (val p.1) (val q.1)) ∧ f (φ (val p.1) (val q.1)) ≤ F) → PP φ f G H - F * p2 (-16) ≤ Ph f K ∧ Ph f K ≤ PP φ f G H + F * p2 (-16) := by
  have q16 : p2 (-16) = 128 * p2 (-23) := by rw [show (-16 : Int) = -23 + ((7 : Nat) : Int) by omega, p2_add, p2_nat, Rat.mul_comm]; rfl
  have q17 := p2_17
  have q12 : p2 (-12) = 2048 * p2 (-23) := by rw [show (-12 : Int) = -23 + ((11 : Nat) : Int) by omega, p2_add, p2_nat, Rat.mul_comm]; rfl
  have q23 := p2_23
  obtain ⟨l1, l2⟩ := comb_len ha hb g
  have hz := comb_zip ha hb g
  have hpr := prs_ok hb.ch hb.small ha.ch ha.small hg
  have hnm : G.length * H.length ≤ 36 := Nat.mul_le_mul hn hm
  have hnm1 : 1 ≤ G.length * H.length := Nat.mul_le_mul hn1 hm1
  have hlen : (combC x1 y1).length = (combV g x0 y0).length := by omega
  have hfst : ∀ x ∈ combV g x0 y0, ∃ r ∈ prs g G H, r.1 = x := fun x hx => by
    obtain ⟨i, hi⟩ := List.getElem?_of_mem hx
    obtain ⟨c, hc⟩ := get_of_lt (xs := combC x1 y1) (k := i) (by have := lt_of_get hi; omega)
    refine ⟨(x, c), ?_, rfl⟩
    rw [← hz]
    have : ((combV g x0 y0).zip (combC x1 y1))[i]? = some (x, c) := by rw [List.getElem?_zip_eq_some]; exact ⟨hi, hc⟩
    exact List.mem_of_getElem? this
  have hsnd : ∀ c ∈ combC x1 y1, ∃ r ∈ prs g G H, r.2 = c := fun c hc => by
    obtain ⟨i, hi⟩ := List.getElem?_of_mem hc
    obtain ⟨x, hx⟩ := get_of_lt (xs := combV g x0 y0) (k := i) (by have := lt_of_get hi; omega)
    refine ⟨(x, c), ?_, rfl⟩
    rw [← hz]
    have : ((combV g x0 y0).zip (combC x1 y1))[i]? = some (x, c) := by rw [List.getElem?_zip_eq_some]; exact ⟨hx, hi⟩
    exact List.mem_of_getElem? this
  have hf : (combV g x0 y0).all finB = true := by
    rw [List.all_eq_true]
    intro x hx
    obtain ⟨r, hr, rfl⟩ := hfst x hx
    exact (hpr r hr).2
  have hC : ∀ c ∈ combC x1 y1, OkC c := fun c hc => by
    obtain ⟨r, hr, rfl⟩ := hsnd c hc
    exact (hpr r hr).1
  have hGr : (G.length : Rat) ≤ 6 := Rat.natCast_le_natCast.2 hn
  have hHr : (H.length : Rat) ≤ 6 := Rat.natCast_le_natCast.2 hm
  have hG0 : (0 : Rat) ≤ (G.length : Rat) := Rat.natCast_nonneg
  have hH0 : (0 : Rat) ≤ (H.length : Rat) := Rat.natCast_nonneg
  have hp := p2_pos (-23)
  have near : ∀ (f : Rat → Rat) (F : Rat), 0 ≤ F → (∀ p ∈ G, ∀ q ∈ H, -F ≤ f (φ (val p.1) (val q.1)) ∧ f (φ (val p.1) (val q.1)) ≤ F) → PP φ f G H - 36 * (F * p2 (-23)) ≤ Ph f (prs g G H) ∧ Ph f (prs g G H) ≤ PP φ f G H + 36 * (F * p2 (-23)) := by
    intro f F hF hfF
    obtain ⟨a, b⟩ := prs_near hb.ch hb.small f F hF G ha.ch ha.small hg hfF
    have hFp := Rat.mul_nonneg hF (Rat.le_of_lt hp)
    have m1 := mul_bd (a := (G.length : Rat)) (A := 6) (by grind) hGr (b := (H.length : Rat)) (B := 6) (by grind) hHr
    have m2 := Rat.mul_le_mul_of_nonneg_right m1.2 hFp
    constructor <;> grind
  have hone : PP φ one G H = Ph one G * Ph one H := PP_one φ G H
  obtain ⟨o1, o2⟩ := near one 1 (by decide) (fun p _ q _ => ⟨by show (-1 : Rat) ≤ 1; decide, by show (1 : Rat) ≤ 1; decide⟩)
  rw [hone] at o1 o2
  have mm := mul_bd (a := Ph one G - 1) (A := p2 (-16)) (by grind) (by grind) (b := Ph one H - 1) (B := p2 (-16)) (by grind) (by grind)
  have m16 : p2 (-16) * p2 (-16) ≤ p2 (-16) := by
    have := Rat.mul_le_mul_of_nonneg_right (show p2 (-16) ≤ 1 by grind) (p2_nn (-16))
    grind
  have T1 : 1 - p2 (-12) ≤ Ph one ((combV g x0 y0).zip (combC x1 y1)) := by rw [hz]; grind
  have T2 : Ph one ((combV g x0 y0).zip (combC x1 y1)) ≤ 1 + p2 (-12) := by rw [hz]; grind
  obtain ⟨hok, hch, key⟩ := gat_good hlen (by omega) (by omega) hf hC T1 T2
  refine ⟨?_, fun z0 z1 h0 h1 => ?_⟩
  · rw [combOk_t (by unfold combG; rw [ha.ok, hb.ok]; rfl)]
    exact hok
  · refine ⟨_, gsh_of hlen (by omega) (by omega) hf hC T1 T2 h0 h1, ?_, ?_, ?_⟩
    · have := gAt_len (xs := combV g x0 y0) (C := combC x1 y1) (List.range (combV g x0 y0).length)
      rw [List.length_range] at this
      exact Nat.le_trans this (by omega)
    · intro r hr
      obtain ⟨i, hi, e⟩ := gAt_mem (l := List.range (combV g x0 y0).length) hr
      rw [List.mem_range] at hi
      obtain ⟨x, hx⟩ := get_of_lt hi
      rw [hx] at e
      obtain ⟨s, hs, e2⟩ := hfst x (List.mem_of_getElem? hx)
      unfold prs at hs
      obtain ⟨p, hp, hs⟩ := List.mem_flatMap.1 hs
      obtain ⟨q, hq, rfl⟩ := List.mem_map.1 hs
      obtain ⟨b, eb, -, hv⟩ := hg p hp q hq
      refine ⟨p, hp, q, hq, ?_⟩
      rw [← e]
      show val x = _
      rw [← e2]
      dsimp only
      rw [eb]; exact hv
    · intro f F hF hfF
      obtain ⟨a, b⟩ := near f F hF hfF
      obtain ⟨c, d⟩ := key f F (fun x hx => by
        obtain ⟨s, hs, e2⟩ := hfst x hx
        unfold prs at hs
        obtain ⟨p, hp, hs⟩ := List.mem_flatMap.1 hs
        obtain ⟨q, hq, rfl⟩ := List.mem_map.1 hs
        obtain ⟨b, eb, -, hv⟩ := hg p hp q hq
        rw [← e2]
        dsimp only
        rw [eb]
        show -F ≤ f (val b) ∧ f (val b) ≤ F
        rw [hv]; exact hfF p hp q hq)
      rw [hz] at c d
      have hFp := Rat.mul_nonneg hF (Rat.le_of_lt hp)
      rw [q16]
      rw [q17] at c d
      constructor <;> grind
end
end

section
open Go.RowKit

/-- A drawn share. -/
structure DSh (G : List (Nat × Option Nat)) (x0 x1 : List Nat) : Prop where
  gsh : GSh G x0 x1
  le : G.length ≤ 6
  ge : 1 ≤ G.length
  half : ∀ p ∈ G, ∃ z : Int, -8 ≤ z ∧ z ≤ 8 ∧ p.1 = hwd z ∧ val p.1 = (z : Rat) / 2
  t1 : 1 - p2 (-16) ≤ Ph one G
  t2 : Ph one G ≤ 1 + p2 (-16)
  w1 : ∀ c ∈ x1, c < 4294967296
theorem dsh_of {zs cs : List Int} {y0 y1 : List Nat} (hD : Drawn zs cs) (h0 : absL y0 = drV zs cs) (h1 : absL y1 = drC zs cs) : ∃ G, DSh G y0 y1 := by
  obtain ⟨G, a, b, c, d, e, f, g⟩ := drawn_good hD h0 h1
  exact ⟨G, a, b, c, d, e, f, g⟩
theorem half_bd {z : Int} (h1 : -8 ≤ z) (h2 : z ≤ 8) : -4 ≤ (z : Rat) / 2 ∧ (z : Rat) / 2 ≤ 4 := by
  have a : (-8 : Rat) ≤ (z : Rat) := by
    have := Rat.intCast_le_intCast.2 h1
    exact this
  have b : (z : Rat) ≤ (8 : Rat) := by
    have := Rat.intCast_le_intCast.2 h2
    exact this
  constructor <;> grind
section
variable {G H : List (Nat × Option Nat)} {x0 x1 y0 y1 : List Nat}
theorem DSh.val4 (h : DSh G x0 x1) : ∀ p ∈ G, -4 ≤ val p.1 ∧ val p.1 ≤ 4 := fun p hp => by
  obtain ⟨z, h1, h2, -, e⟩ := h.half p hp
  rw [e]; exact half_bd h1 h2
theorem DSh.sums (h : DSh G x0 x1) : -5 ≤ Ph idq G ∧ Ph idq G ≤ 5 ∧ 0 ≤ Ph sq G ∧ Ph sq G ≤ 17 := by
  have q16 : p2 (-16) * 65536 = 1 := p2m 16
  have t2 := h.t2
  have a := ph_bd idq 4 G h.gsh.ch h.val4
  have b := ph_bd (fun v => sq v - 8) 8 G h.gsh.ch (fun p hp => by
    obtain ⟨v1, v2⟩ := h.val4 p hp
    have := mul_bd v1 v2 v1 v2
    have h0 : 0 ≤ val p.1 * val p.1 := by
      by_cases h : 0 ≤ val p.1
      · exact Rat.mul_nonneg h h
      · have := Rat.mul_nonneg (a := -val p.1) (b := -val p.1) (by grind) (by grind)
        grind
    constructor
    · show (-8 : Rat) ≤ val p.1 * val p.1 - 8; grind
    · show val p.1 * val p.1 - 8 ≤ (8 : Rat); grind)
  have e : ∀ L : List (Nat × Option Nat), Ph (fun v => sq v - 8) L = Ph sq L - 8 * Ph one L := fun L => by
    induction L with
    | nil => rw [ph_nil, ph_nil, ph_nil]; grind
    | cons p L ih => rw [ph_cons, ph_cons, ph_cons, ih]; unfold one; grind
  rw [e] at b
  refine ⟨by grind, by grind, by grind, by grind⟩
theorem n6 (h : DSh G x0 x1) (e : Int) : (0 : Rat) ≤ (G.length : Rat) * p2 e ∧ (G.length : Rat) * p2 e ≤ 6 * p2 e := by
  have hn : (G.length : Rat) ≤ 6 := Rat.natCast_le_natCast.2 h.le
  exact ⟨Rat.mul_nonneg Rat.natCast_nonneg (p2_nn e), Rat.mul_le_mul_of_nonneg_right hn (p2_nn e)⟩
/-- The mean, the second moment and the first. -/
theorem DSh.mean (h : DSh G x0 x1) : ∃ M r, Vl .f32 (some M) r ∧ meanOk x0 x1 = true ∧ meanV x0 x1 = some M ∧ Ph idq G - 6 * p2 (-19) ≤ r ∧ r ≤ Ph idq G + 6 * p2 (-19) := by
  obtain ⟨M, r, -, a, b, c, d, e⟩ := h.gsh.mean (fun p hp => by have := h.val4 p hp; constructor <;> grind)
  have := n6 h (-19)
  exact ⟨M, r, a, b, c, by grind, by grind⟩
theorem DSh.mom2 (h : DSh G x0 x1) {M : Nat} {m : Rat} (hM : Vl .f32 (some M) m) (hok : meanOk x0 x1 = true) (hmv : meanV x0 x1 = some M) (m1 : -9 ≤ m) (m2 : m ≤ 9) :
    ∃ V r, Vl .f32 (some V) r ∧ momOk x0 x1 2 = true ∧ momV x0 x1 2 = some V ∧ Ph (sqd m) G - 6 * p2 (-11) ≤ r ∧ r ≤ Ph (sqd m) G + 6 * p2 (-11) := by
  obtain ⟨V, r, a, b, c, d, e⟩ := h.gsh.mom2 (fun p hp => by have := h.val4 p hp; constructor <;> grind) hM m1 m2 hok hmv
  have := n6 h (-11)
  exact ⟨V, r, a, b, c, by grind, by grind⟩
theorem DSh.mom1 (h : DSh G x0 x1) {M : Nat} {m : Rat} (hM : Vl .f32 (some M) m) (hok : meanOk x0 x1 = true) (hmv : meanV x0 x1 = some M) (m1 : -9 ≤ m) (m2 : m ≤ 9) :
    ∃ V r, Vl .f32 (some V) r ∧ momOk x0 x1 1 = true ∧ momV x0 x1 1 = some V ∧ Ph (dif m) G - 6 * p2 (-16) ≤ r ∧ r ≤ Ph (dif m) G + 6 * p2 (-16) := by
  obtain ⟨V, r, a, b, c, d, e⟩ := h.gsh.mom1 (fun p hp => by have := h.val4 p hp; constructor <;> grind) hM m1 m2 hok hmv
  have := n6 h (-16)
  exact ⟨V, r, a, b, c, by grind, by grind⟩
theorem goodG_plus (ha : DSh G x0 x1) (hb : DSh H y0 y1) : GoodG (pairG true) (fun a b => a + b) G H := by
  intro p hp q hq
  obtain ⟨z, z1, z2, ez, vz⟩ := ha.half p hp
  obtain ⟨y, k1, k2, ey, vy⟩ := hb.half q hq
  have fp := fin_vl (ha.gsh.fin p hp)
  have fq := fin_vl (hb.gsh.fin q hq)
  have hrep : RepK .f32 (val p.1 + val q.1) := by
    have := rep_grid (k := .f32) (e := -1) (in32 (by omega) (by omega)) (z := z + y) (by show (z + y).natAbs ≤ 16777216; omega)
    have e : ((z + y : Int) : Rat) * p2 (-1) = val p.1 + val q.1 := by
      have q1 : p2 (-1) * 2 = 1 := p2m 1
      rw [vz, vy, Rat.intCast_add]
      grind
    rwa [e] at this
  obtain ⟨r, hr, hn⟩ := vl_add fp fq hrep hrep Rat.le_refl Rat.le_refl
  have e := hn.exact hrep
  rw [e] at hr
  have hr' := hr
  obtain ⟨b, eb, -⟩ := hr
  have e2 : pairG true p.1 q.1 = some b := by
    unfold pairG addW
    rw [if_pos rfl, (vl_fin fp).2, (vl_fin fq).2]
    exact eb
  rw [eb] at hr'
  exact ⟨b, e2, (vl_fin hr').1, vl_val hr'⟩
def dbl (v : Rat) : Rat := 2 * v
theorem ph_dbl : ∀ G : List (Nat × Option Nat), Ph dbl G = 2 * Ph idq G
  | [] => by rw [ph_nil, ph_nil]; grind
  | p :: G => by rw [ph_cons, ph_cons, ph_dbl G]; unfold dbl idq; grind
theorem PP_idq (G H : List (Nat × Option Nat)) : PP (fun a b => a + b) idq G H = Ph idq G * Ph one H + Ph one G * Ph idq H := by
  rw [PP_three _ idq idq one one idq zq zq (fun a b => by unfold idq one zq; grind), ph_zq]
  grind
theorem PP_sqd (m : Rat) (G H : List (Nat × Option Nat)) : PP (fun a b => a + b) (sqd m) G H = Ph (sqd m) G * Ph one H + Ph (dif m) G * (2 * Ph idq H) + Ph one G * Ph sq H := by
  rw [PP_three _ (sqd m) (sqd m) one (dif m) dbl one sq (fun a b => by unfold sqd one dif dbl sq; grind), ph_dbl]
/-- The mean and the second moment of the sum. -/
theorem sum_facts (ha : DSh G x0 x1) (hb : DSh H y0 y1) {x y p q : Rat}
    (x1' : Ph idq G - 6 * p2 (-19) ≤ x) (x2' : x ≤ Ph idq G + 6 * p2 (-19)) (y1' : Ph idq H - 6 * p2 (-19) ≤ y) (y2' : y ≤ Ph idq H + 6 * p2 (-19))
    (p1' : Ph (sqd x) G - 6 * p2 (-11) ≤ p) (p2' : p ≤ Ph (sqd x) G + 6 * p2 (-11)) (q1' : Ph (sqd y) H - 6 * p2 (-11) ≤ q) (q2' : q ≤ Ph (sqd y) H + 6 * p2 (-11))
    {z0 z1 : List Nat} (h0 : absL z0 = absL ((gatS (combV (pairG true) x0 y0) (combC x1 y1)).map Prod.fst)) (h1 : absL z1 = (gatS (combV (pairG true) x0 y0) (combC x1 y1)).map Prod.snd) :
    ∃ M V m v, Vl .f32 (some M) m ∧ Vl .f32 (some V) v ∧ meanOk z0 z1 = true ∧ meanV z0 z1 = some M ∧ momOk z0 z1 2 = true ∧ momV z0 z1 2 = some V ∧ -p2 (-8) ≤ m - (x + y) ∧ m - (x + y) ≤ p2 (-8) ∧ -(p2 (-5) + p2 (-7)) ≤ v - (p + q) ∧ v - (p + q) ≤ p2 (-5) + p2 (-7) ∧ -9 ≤ m ∧ m ≤ 9 ∧ -300 ≤ v ∧ v ≤ 300 := by
  have q19 : p2 (-19) * 524288 = 1 := p2m 19
  have q16 : p2 (-16) * 65536 = 1 := p2m 16
  have q11 : p2 (-11) * 2048 = 1 := p2m 11
  have q8 : p2 (-8) * 256 = 1 := p2m 8
  have q7 : p2 (-7) * 128 = 1 := p2m 7
  have q5 : p2 (-5) * 32 = 1 := p2m 5
  obtain ⟨A1, A2, A3, A4⟩ := ha.sums
  obtain ⟨B1, B2, B3, B4⟩ := hb.sums
  have sa1 := ha.t1; have sa2 := ha.t2; have sb1 := hb.t1; have sb2 := hb.t2
  obtain ⟨-, hK⟩ := comb_share ha.gsh hb.gsh ha.le hb.le ha.ge hb.ge ha.t1 ha.t2 hb.t1 hb.t2 (goodG_plus ha hb)
  obtain ⟨K, gK, lK, vK, nK⟩ := hK z0 z1 h0 h1
  have hKv : ∀ r ∈ K, -8 ≤ val r.1 ∧ val r.1 ≤ 8 := fun r hr => by
    obtain ⟨p, hp, q, hq, e⟩ := vK r hr
    have a := ha.val4 p hp
    have b := hb.val4 q hq
    rw [e]; constructor <;> grind
  have hKn : (K.length : Rat) ≤ 36 := Rat.natCast_le_natCast.2 lK
  have k19 := Rat.mul_le_mul_of_nonneg_right hKn (p2_nn (-19))
  have k11 := Rat.mul_le_mul_of_nonneg_right hKn (p2_nn (-11))
  obtain ⟨M, m, -, vM, mo, mv, m1, m2⟩ := gK.mean (fun r hr => by have := hKv r hr; constructor <;> grind)
  obtain ⟨i1, i2⟩ := nK idq 8 (by decide) (fun p hp q hq => by
    have a := ha.val4 p hp
    have b := hb.val4 q hq
    constructor
    · show (-8 : Rat) ≤ val p.1 + val q.1; grind
    · show val p.1 + val q.1 ≤ (8 : Rat); grind)
  rw [PP_idq] at i1 i2
  have ab1 := mul_bd (a := Ph idq G) (A := 5) A1 A2 (b := Ph one H - 1) (B := p2 (-16)) (by grind) (by grind)
  have ab2 := mul_bd (a := Ph idq H) (A := 5) B1 B2 (b := Ph one G - 1) (B := p2 (-16)) (by grind) (by grind)
  have hm1 : -p2 (-11) ≤ m - (Ph idq G + Ph idq H) := by grind
  have hm2 : m - (Ph idq G + Ph idq H) ≤ p2 (-11) := by grind
  have hm9 : -9 ≤ m ∧ m ≤ 9 := by
    have c := ph_bd idq 4 G ha.gsh.ch ha.val4
    have d := ph_bd idq 4 H hb.gsh.ch hb.val4
    constructor <;> grind
  obtain ⟨V, v, vV, vo, vv, v1, v2⟩ := gK.mom2 hKv vM hm9.1 hm9.2 mo mv
  obtain ⟨j1, j2⟩ := nK (sqd m) 289 (by decide) (fun p hp q hq => by
    have a := ha.val4 p hp
    have b := hb.val4 q hq
    have := mul_bd (a := val p.1 + val q.1 - m) (A := 17) (by grind) (by grind) (b := val p.1 + val q.1 - m) (B := 17) (by grind) (by grind)
    constructor
    · show (-289 : Rat) ≤ (val p.1 + val q.1 - m) * (val p.1 + val q.1 - m); grind
    · show (val p.1 + val q.1 - m) * (val p.1 + val q.1 - m) ≤ (289 : Rat); grind)
  rw [PP_sqd, ph_sqd m G, ph_dif m G] at j1 j2
  rw [ph_sqd] at p1' p2' q1' q2'
  -- the error, term by term
  obtain ⟨s, hs⟩ : ∃ s, s = Ph one G - 1 := ⟨_, rfl⟩
  obtain ⟨t, ht⟩ : ∃ t, t = Ph one H - 1 := ⟨_, rfl⟩
  have es : Ph one G = 1 + s := by grind
  have et : Ph one H = 1 + t := by grind
  rw [es, et] at j1 j2
  rw [es] at p1' p2'
  rw [et] at q1' q2'
  have s1 : -p2 (-16) ≤ s := by grind
  have s2 : s ≤ p2 (-16) := by grind
  have t1 : -p2 (-16) ≤ t := by grind
  have t2 : t ≤ p2 (-16) := by grind
  generalize Ph idq G = A at *
  generalize Ph idq H = B at *
  generalize Ph sq G = A' at *
  generalize Ph sq H = B' at *
  have mm := mul_bd hm9.1 hm9.2 hm9.1 hm9.2
  have mA := mul_bd hm9.1 hm9.2 (b := A) (B := 5) A1 A2
  have mB := mul_bd hm9.1 hm9.2 (b := B) (B := 5) B1 B2
  have xx := mul_bd (a := x) (A := 6) (by grind) (by grind) (b := x) (B := 6) (by grind) (by grind)
  have yy := mul_bd (a := y) (A := 6) (by grind) (by grind) (b := y) (B := 6) (by grind) (by grind)
  have mms := mul_bd (a := m * m) (A := 81) (by grind) (by grind) (b := s) (B := p2 (-16)) s1 s2
  have T1 := mul_bd (a := A' - 2 * (m * A) + m * m + m * m * s) (A := 200) (by grind) (by grind) (b := t) (B := p2 (-16)) t1 t2
  have T2 := mul_bd (a := m * m - 2 * (m * B) + B') (A := 200) (by grind) (by grind) (b := s) (B := p2 (-16)) s1 s2
  have T3 := mul_bd (a := m - (A + B)) (A := p2 (-11)) hm1 hm2 (b := m - (A + B)) (B := p2 (-11)) hm1 hm2
  have T4 := mul_bd (a := x - A) (A := p2 (-16)) (by grind) (by grind) (b := x - A) (B := p2 (-16)) (by grind) (by grind)
  have T5 := mul_bd (a := x * x) (A := 36) (by grind) (by grind) (b := s) (B := p2 (-16)) s1 s2
  have T6 := mul_bd (a := y - B) (A := p2 (-16)) (by grind) (by grind) (b := y - B) (B := p2 (-16)) (by grind) (by grind)
  have T7 := mul_bd (a := y * y) (A := 36) (by grind) (by grind) (b := t) (B := p2 (-16)) t1 t2
  have e11 : p2 (-11) * p2 (-11) ≤ p2 (-11) := by
    have := Rat.mul_le_mul_of_nonneg_right (show p2 (-11) ≤ 1 by grind) (p2_nn (-11))
    grind
  have e16 : p2 (-16) * p2 (-16) ≤ p2 (-16) := by
    have := Rat.mul_le_mul_of_nonneg_right (show p2 (-16) ≤ 1 by grind) (p2_nn (-16))
    grind
  have id : ((A' - 2 * m * A + m * m * (1 + s)) * (1 + t) + (A - m * (1 + s)) * (2 * B) + (1 + s) * B') - ((A' - 2 * x * A + x * x * (1 + s)) + (B' - 2 * y * B + y * y * (1 + t))) =
      (A' - 2 * (m * A) + m * m + m * m * s) * t + (m * m - 2 * (m * B) + B') * s + (m - (A + B)) * (m - (A + B)) - (x - A) * (x - A) - x * x * s - (y - B) * (y - B) - y * y * t := by grind
  have xA := mul_bd (a := x) (A := 6) (by grind) (by grind) (b := A) (B := 5) A1 A2
  have yB := mul_bd (a := y) (A := 6) (by grind) (by grind) (b := B) (B := 5) B1 B2
  have hP : -140 ≤ A' - 2 * x * A + x * x * (1 + s) ∧ A' - 2 * x * A + x * x * (1 + s) ≤ 140 := by constructor <;> grind
  have hQ : -140 ≤ B' - 2 * y * B + y * y * (1 + t) ∧ B' - 2 * y * B + y * y * (1 + t) ≤ 140 := by constructor <;> grind
  clear mm mA mB xx yy mms xA yB
  generalize (A' - 2 * (m * A) + m * m + m * m * s) * t = W1 at *
  generalize (m * m - 2 * (m * B) + B') * s = W2 at *
  generalize (m - (A + B)) * (m - (A + B)) = W3 at *
  generalize (x - A) * (x - A) = W4 at *
  generalize x * x * s = W5 at *
  generalize (y - B) * (y - B) = W6 at *
  generalize y * y * t = W7 at *
  generalize (A' - 2 * m * A + m * m * (1 + s)) * (1 + t) + (A - m * (1 + s)) * (2 * B) + (1 + s) * B' = PV at *
  generalize A' - 2 * x * A + x * x * (1 + s) = P0 at *
  generalize B' - 2 * y * B + y * y * (1 + t) = Q0 at *
  have f1 : -p2 (-8) ≤ m - (x + y) := by grind
  have f2 : m - (x + y) ≤ p2 (-8) := by grind
  clear i1 i2 ab1 ab2 hm1 hm2 m1 m2
  have D1 : -(475 * p2 (-16) + p2 (-11)) ≤ PV - (P0 + Q0) := by grind
  have D2 : PV - (P0 + Q0) ≤ 475 * p2 (-16) + p2 (-11) := by grind
  clear id T1 T2 T3 T4 T5 T6 T7
  refine ⟨M, V, m, v, vM, vV, mo, mv, vo, vv, f1, f2, ?_, ?_, hm9.1, hm9.2, ?_, ?_⟩
  · grind
  · grind
  · grind
  · grind
end
end
end Go.Proofs.YtjajlddnhmbekaaGreat
