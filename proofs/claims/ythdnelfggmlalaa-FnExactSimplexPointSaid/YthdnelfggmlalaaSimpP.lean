/-
  Shares of a seed, sorted, and their gaps: plain.
-/
import Derived.Test.YthdnelfggmlalaaApV
import Derived.Test.YthdnelfggmlalaaSeedS
namespace Go.Proofs.Ythdnelfggmlalaa
open Go.RowKit

/-- The seed after j draws. -/
def sdI (k a b : Int) : Nat → Int × Int
  | 0 => (a, b)
  | j + 1 => (nextA k (sdI k a b j).1 (sdI k a b j).2, nextB k (sdI k a b j).1 (sdI k a b j).2)
def shI (k a b : Int) (j : Nat) : Option Nat := shareU k (sdI k a b j).1 (sdI k a b j).2
/-- A word of a finite number not below 0. -/
def Pw (x : Nat) : Prop := ∃ R, R < infR ∧ x = wd false R
theorem Pw.fin {x : Nat} (h : Pw x) : finB x = true := by
  obtain ⟨R, hR, e⟩ := h
  rw [e]
  unfold finB
  rw [show FloatKind.f32.decode (wd false R) = FloatKind.f32.format.read (wd false R) from rfl, read_wd false hR]
theorem Pw.abs {x : Nat} (h : Pw x) : absF .f32 x = some x := by
  obtain ⟨R, hR, e⟩ := h
  rw [e]
  exact abs_wd false (Nat.le_of_lt hR)
theorem val_wd {R : Nat} (h : R < infR) : val (wd false R) = rV FloatKind.f32.format R := by
  unfold val
  rw [read_wd false h, rV_eq]
  rfl
theorem Pw.inj {x y : Nat} (hx : Pw x) (hy : Pw y) (h : val x = val y) : x = y := by
  obtain ⟨R, hR, ex⟩ := hx
  obtain ⟨S, hS, ey⟩ := hy
  rw [ex, ey, val_wd hR, val_wd hS] at h
  rw [ex, ey, rV_inj h]
theorem share_pw (k a b : Int) : ∃ x, shareU k a b = some x ∧ Pw x := by
  have hh := half_word k a b
  unfold shareU
  obtain ⟨m, hm⟩ : ∃ m : Nat, nextW k a b / 4294967296 / 256 = (m : Int) := ⟨(nextW k a b / 4294967296 / 256).toNat, by omega⟩
  have hm2 : m < 2 ^ 24 := by omega
  rw [hm]
  have e : floatOfInt .f32 (m : Int) = FloatKind.f32.encode (.number false m 0) := by
    show FloatKind.f32.encode (.number (decide ((m : Int) < 0)) (m : Int).natAbs 0) = _
    rw [decide_eq_false (by omega), Int.natAbs_natCast]
  obtain ⟨R, hR, eR⟩ := enc_wd (.number false m 0) rfl
  have eR' : floatOfInt .f32 (m : Int) = wd false R := e.trans eR
  rw [eR', abs_wd false hR]
  have hv : Ieee.Format.read FloatKind.f32.format 864026624 = .number false 8388608 (-47) := by decide
  have hb : Bet .f32 (some (wd false R)) 0 (p2 24) := by
    refine ⟨_, rfl, ?_⟩
    rw [← eR', e]
    have hvm : vD (.number false m 0) = (m : Rat) := by simp only [vD, sg_f, mg, p2_zero, Rat.mul_one]
    refine enc_bet rep0 (rep32 (by omega) (by omega)) ?_ ?_
    · rw [hvm]; exact Rat.natCast_nonneg
    · rw [hvm, show (24 : Int) = ((24 : Nat) : Int) from rfl, p2_nat]
      exact Rat.natCast_le_natCast.2 (by omega)
  have hc : Bet .f32 (some 864026624) (p2 (-24)) (p2 (-24)) := by
    have hq : vD (.number false 8388608 (-47)) = p2 (-24) := by
      simp only [vD, sg_f]
      rw [show 8388608 = 2 ^ 23 from rfl, mg_pow]
      rfl
    exact bet_of hv (by rw [hq]; exact Rat.le_refl) (by rw [hq]; exact Rat.le_refl)
  have hprod := bet_mul hb hc (lo := 0) (hi := 1) rep0 rep1 (fun u v h1 h2 h3 h4 => by
    have hv : v = p2 (-24) := Rat.le_antisymm h4 h3
    subst hv
    have hp := p2_pos (-24)
    have hpp : p2 24 * p2 (-24) = 1 := by rw [← p2_add]; exact p2_zero
    constructor
    · exact Rat.mul_nonneg h1 (Rat.le_of_lt hp)
    · rw [← hpp]
      exact Rat.mul_le_mul_of_nonneg_right h2 (Rat.le_of_lt hp))
  obtain ⟨x, hx, s, S, h1, h2, h3, h4⟩ := hprod
  refine ⟨x, hx, ?_⟩
  -- its sign
  have hform : opF .mul .f32 (some (wd false R)) (some 864026624) = ((FloatKind.f32.format.read (wd false R)).product (FloatKind.f32.format.read 864026624)).map FloatKind.f32.encode := rfl
  rcases Nat.lt_or_eq_of_le hR with hlt | heq
  · rw [hform, read_wd false hlt, hv] at hx
    simp only [Ieee.Datum.product, Option.map_some, Option.some.injEq] at hx
    obtain ⟨T, hT, eT⟩ := enc_wd (.number (false ^^ false) (rM FloatKind.f32.format R * 8388608) (FloatKind.f32.format.leastPlace + rJ FloatKind.f32.format R + -47)) rfl
    have ex : x = wd false T := by rw [← hx]; exact eT
    rcases Nat.lt_or_eq_of_le hT with g | g
    · exact ⟨T, g, ex⟩
    · exfalso
      rw [ex, g, read_inf] at h1
      cases h1
  · exfalso
    obtain ⟨b0, hb0, hw⟩ := hb
    cases hb0
    obtain ⟨t, u, v, hr, -⟩ := hw.read
    rw [heq, read_inf] at hr
    cases hr
theorem shI_pw (k a b : Int) (j : Nat) : ∃ x, shI k a b j = some x ∧ Pw x := share_pw _ _ _
def shW (k a b : Int) (j : Nat) : Nat := (shI k a b j).getD 0
theorem shW_eq (k a b : Int) (j : Nat) : shI k a b j = some (shW k a b j) ∧ Pw (shW k a b j) := by
  obtain ⟨x, h1, h2⟩ := shI_pw k a b j
  unfold shW
  rw [h1]
  exact ⟨rfl, h2⟩
/-- The shares of the first j draws. -/
def shL (k a b : Int) (j : Nat) : List Nat := (List.range j).map (shW k a b)
theorem shL_succ (k a b : Int) (j : Nat) : shL k a b (j + 1) = shL k a b j ++ [shW k a b j] := by simp [shL, List.range_succ]
theorem shL_len (k a b : Int) (j : Nat) : (shL k a b j).length = j := by simp [shL]
theorem shL_pw (k a b : Int) (j : Nat) : ∀ x ∈ shL k a b j, Pw x := fun x hx => by
  unfold shL at hx
  rw [List.mem_map] at hx
  obtain ⟨i, _, rfl⟩ := hx
  exact (shW_eq k a b i).2
/-- In order, one way alone. -/
theorem sort_one {xs ys zs : List Nat} (h1 : ys.Perm xs) (h2 : zs.Perm xs) (hp : ∀ x ∈ xs, Pw x) (s1 : SR ltW 0 ys.length ys) (s2 : SR ltW 0 zs.length zs) : ys = zs := by
  have pw : ∀ {l : List Nat}, SR ltW 0 l.length l → l.Pairwise (fun a b => val a ≤ val b) := by
    intro l hl
    rw [List.pairwise_iff_getElem]
    intro i j hi hj hij
    have := hl i j _ _ (Nat.zero_le _) hij hj (List.getElem?_eq_getElem hi) (List.getElem?_eq_getElem hj)
    unfold ltW at this
    have := of_decide_eq_false this
    grind
  refine (h1.trans h2.symm).eq_of_pairwise (le := fun a b : Nat => val a ≤ val b) ?_ (pw s1) (pw s2)
  intro a b ha hb hab hba
  exact Pw.inj (hp a (h1.mem_iff.1 ha)) (hp b (h2.mem_iff.1 hb)) (Rat.le_antisymm hab hba)
/-- The gaps of a rising list up to 1. -/
def gapA (zs : List Nat) (i : Nat) : Option Nat := if i = 0 then absF .f32 ((zs ++ [1065353216]).getD 0 0) else opF .sub .f32 (absF .f32 ((zs ++ [1065353216]).getD i 0)) (absF .f32 ((zs ++ [1065353216]).getD (i - 1) 0))
def gapsA (zs : List Nat) (j : Nat) : List (Option Nat) := (List.range j).map (gapA zs)
theorem gapsA_succ (zs : List Nat) (j : Nat) : gapsA zs (j + 1) = gapsA zs j ++ [gapA zs j] := by simp [gapsA, List.range_succ]
theorem gapA_0 {zs : List Nat} {z : Nat} (h : zs[0]? = some z) : gapA zs 0 = absF .f32 z := by
  unfold gapA
  rw [if_pos rfl, List.getD_eq_getElem?_getD, List.getElem?_append_left (get_lt h), h]
  rfl
theorem gapA_mid {zs : List Nat} {i y z : Nat} (hy : zs[i]? = some y) (hz : zs[i + 1]? = some z) : gapA zs (i + 1) = opF .sub .f32 (absF .f32 z) (absF .f32 y) := by
  unfold gapA
  rw [if_neg (by omega), List.getD_eq_getElem?_getD, List.getD_eq_getElem?_getD, List.getElem?_append_left (get_lt hz), Nat.add_sub_cancel, List.getElem?_append_left (get_lt hy), hz, hy]
  rfl
theorem gapA_end {zs : List Nat} {i y : Nat} (hl : zs.length = i + 1) (hy : zs[i]? = some y) : gapA zs (i + 1) = opF .sub .f32 (some 1065353216) (absF .f32 y) := by
  unfold gapA
  rw [if_neg (by omega), List.getD_eq_getElem?_getD, List.getD_eq_getElem?_getD, List.getElem?_append_right (by omega), Nat.add_sub_cancel, List.getElem?_append_left (by omega), hy, hl, Nat.sub_self]
  rfl
theorem gapA_nil : gapA [] 0 = some 1065353216 := by decide
/-- The shares of n - 1 draws, in order. -/
noncomputable def srtW (xs : List Nat) : List Nat := Classical.epsilon fun ys => ys.Perm xs ∧ SR ltW 0 ys.length ys
theorem srtW_is {xs ys : List Nat} (hp : ∀ x ∈ xs, Pw x) (h1 : ys.Perm xs) (h2 : SR ltW 0 ys.length ys) : srtW xs = ys := by
  have h := Classical.epsilon_spec (p := fun ys : List Nat => ys.Perm xs ∧ SR ltW 0 ys.length ys) ⟨ys, h1, h2⟩
  exact sort_one h.1 h1 hp h.2 h2
end Go.Proofs.Ythdnelfggmlalaa
