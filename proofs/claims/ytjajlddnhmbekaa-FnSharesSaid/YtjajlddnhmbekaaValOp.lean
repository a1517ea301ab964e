/-
  Float operations on what stands between two numbers of the format's.
-/
import Derived.Test.YtjajlddnhmbekaaVal
namespace Go.Proofs.Ytjajlddnhmbekaa
open Go.RowKit

/-- The word is a number from lo to hi. -/
def Bet (k : FloatKind) (o : Option Nat) (lo hi : Rat) : Prop := ∃ b, o = some b ∧ WBet k.format b lo hi
abbrev RepK (k : FloatKind) (q : Rat) : Prop := Rep k.format q
section
open Ieee
theorem inf_pos (k : FloatKind) : 0 < k.format.infRung := by cases k <;> decide
theorem WBet.read {f : Format} {b : Nat} {lo hi : Rat} (h : WBet f b lo hi) : ∃ s m p, f.read b = .number s m p ∧ lo ≤ vD (.number s m p) ∧ vD (.number s m p) ≤ hi := by
  obtain ⟨s, R, e, hR, h1, h2⟩ := h
  rw [rV_eq] at h1 h2
  exact ⟨_, _, _, e, h1, h2⟩
theorem WBet.mono {f : Format} {b : Nat} {lo hi lo' hi' : Rat} (h : WBet f b lo hi) (h1 : lo' ≤ lo) (h2 : hi ≤ hi') : WBet f b lo' hi' := by
  obtain ⟨s, R, e, hR, a, c⟩ := h
  exact ⟨s, R, e, hR, Rat.le_trans h1 a, Rat.le_trans c h2⟩
end
variable {k : FloatKind} {x y : Option Nat} {a b c d lo hi : Rat}
theorem Bet.mono (h : Bet k x a b) (h1 : lo ≤ a) (h2 : b ≤ hi) : Bet k x lo hi := by
  obtain ⟨w, rfl, hw⟩ := h
  exact ⟨w, rfl, hw.mono h1 h2⟩
theorem enc_bet {s : Bool} {m : Nat} {p : Int} (hlo : RepK k lo) (hhi : RepK k hi) (h1 : lo ≤ vD (.number s m p)) (h2 : vD (.number s m p) ≤ hi) : WBet k.format (k.encode (.number s m p)) lo hi :=
  near_bet (inf_pos k) hlo hhi h1 h2
theorem bet_add (hx : Bet k x a b) (hy : Bet k y c d) (hlo : RepK k lo) (hhi : RepK k hi) (h1 : lo ≤ a + c) (h2 : b + d ≤ hi) : Bet k (opF .add k x y) lo hi := by
  obtain ⟨u, rfl, hu⟩ := hx
  obtain ⟨v, rfl, hv⟩ := hy
  obtain ⟨s, m, i, eu, u1, u2⟩ := hu.read
  obtain ⟨t, n, j, ev, v1, v2⟩ := hv.read
  obtain ⟨r, l, p, es, hs⟩ := sum_val s m i t n j
  refine ⟨k.encode (.number r l p), ?_, enc_bet hlo hhi (by rw [hs]; grind) (by rw [hs]; grind)⟩
  show ((k.format.read u).sum (k.format.read v)).map k.format.write = _
  rw [eu, ev, es]; rfl
theorem opp_val (s : Bool) (m : Nat) (p : Int) : vD (.number (!s) m p) = - vD (.number s m p) := by cases s <;> simp [vD, sg, Rat.neg_neg]
theorem bet_sub (hx : Bet k x a b) (hy : Bet k y c d) (hlo : RepK k lo) (hhi : RepK k hi) (h1 : lo ≤ a - d) (h2 : b - c ≤ hi) : Bet k (opF .sub k x y) lo hi := by
  obtain ⟨u, rfl, hu⟩ := hx
  obtain ⟨v, rfl, hv⟩ := hy
  obtain ⟨s, m, i, eu, u1, u2⟩ := hu.read
  obtain ⟨t, n, j, ev, v1, v2⟩ := hv.read
  obtain ⟨r, l, p, es, hs⟩ := sum_val s m i (!t) n j
  rw [opp_val] at hs
  refine ⟨k.encode (.number r l p), ?_, enc_bet hlo hhi (by rw [hs]; grind) (by rw [hs]; grind)⟩
  show ((k.format.read u).sum (k.format.read v).opposite).map k.format.write = _
  rw [eu, ev]
  show ((Ieee.Datum.number s m i).sum (.number (!t) n j)).map k.format.write = _
  rw [es]; rfl
theorem bet_mul (hx : Bet k x a b) (hy : Bet k y c d) (hlo : RepK k lo) (hhi : RepK k hi) (h : ∀ u v, a ≤ u → u ≤ b → c ≤ v → v ≤ d → lo ≤ u * v ∧ u * v ≤ hi) : Bet k (opF .mul k x y) lo hi := by
  obtain ⟨u, rfl, hu⟩ := hx
  obtain ⟨v, rfl, hv⟩ := hy
  obtain ⟨s, m, i, eu, u1, u2⟩ := hu.read
  obtain ⟨t, n, j, ev, v1, v2⟩ := hv.read
  obtain ⟨r, l, p, es, hs⟩ := product_val s m i t n j
  have := h _ _ u1 u2 v1 v2
  refine ⟨k.encode (.number r l p), ?_, enc_bet hlo hhi (by rw [hs]; exact this.1) (by rw [hs]; exact this.2)⟩
  show ((k.format.read u).product (k.format.read v)).map k.format.write = _
  rw [eu, ev, es]; rfl
/-- A quotient whose divisor is above 0, by a power of two. -/
theorem bet_quo {E : Int} (hx : Bet k x a b) (hy : Bet k y c d) (hc : 0 < c) (hE : RepK k (p2 E)) (h : ∀ u v, a ≤ u → u ≤ b → c ≤ v → v ≤ d → u ≤ p2 E * v ∧ -u ≤ p2 E * v) (hlo : (0 ≤ a ∧ lo = 0) ∨ lo = - p2 E) (hhi : (b ≤ 0 ∧ hi = 0) ∨ hi = p2 E) : Bet k (opF .quo k x y) lo hi := by
  obtain ⟨u, rfl, hu⟩ := hx
  obtain ⟨v, rfl, hv⟩ := hy
  obtain ⟨s, m, i, eu, u1, u2⟩ := hu.read
  obtain ⟨t, n, j, ev, v1, v2⟩ := hv.read
  have hvp : 0 < vD (.number t n j) := Std.lt_of_lt_of_le hc v1
  have ht : t = false := by
    cases t
    · rfl
    · exfalso
      simp only [vD, sg_t] at hvp
      have := mg_nn n j
      grind
  subst ht
  have hn : n ≠ 0 := by
    rintro rfl
    simp only [vD, mg_zero, sg_zero] at hvp
    exact absurd hvp Rat.lt_irrefl
  obtain ⟨l, p, es, h0, hq⟩ := quotient_val (k.format.fractionBits + 2) (by omega) s m i false n j hn
  rw [Bool.xor_false] at es
  have hb := h _ _ u1 u2 v1 v2
  have hm := mg_nn m i
  have hl := mg_nn l p
  have hle : mg l p ≤ p2 E := by
    refine hq E ?_
    simp only [vD, sg_f] at hb
    cases s
    · simp only [sg_f] at hb
      exact hb.1
    · simp only [sg_t, Rat.neg_neg] at hb
      exact hb.2
  have hz : m = 0 → mg l p = 0 := fun h => by rw [h0 h, mg_zero]
  have hmz : ¬ m = 0 → 0 < mg m i := fun h => mg_pos h i
  have r0 : RepK k 0 := rep_zero (inf_pos k)
  have rm : RepK k (- p2 E) := rep_neg hE
  have hpp := p2_pos E
  have hlo' : RepK k lo := by rcases hlo with ⟨_, rfl⟩ | rfl <;> assumption
  have hhi' : RepK k hi := by rcases hhi with ⟨_, rfl⟩ | rfl <;> assumption
  refine ⟨k.encode (.number s l p), ?_, enc_bet hlo' hhi' ?_ ?_⟩
  · show ((k.format.read u).quotient (k.format.fractionBits + 2) (k.format.read v)).map k.format.write = _
    rw [eu, ev, es]; rfl
  · rcases hlo with ⟨ha, rfl⟩ | rfl
    · cases s
      · exact hl
      · have hu0 : 0 ≤ vD (.number true m i) := Rat.le_trans ha u1
        simp only [vD, sg_t] at hu0 ⊢
        by_cases h : m = 0
        · rw [hz h]; exact Rat.le_refl
        · have := hmz h
          grind
    · cases s
      · show _ ≤ mg l p
        grind
      · show _ ≤ - mg l p
        grind
  · rcases hhi with ⟨ha, rfl⟩ | rfl
    · cases s
      · have hu0 : vD (.number false m i) ≤ 0 := Rat.le_trans u2 ha
        simp only [vD, sg_f] at hu0 ⊢
        by_cases h : m = 0
        · rw [hz h]; exact Rat.le_refl
        · have := hmz h
          grind
      · show - mg l p ≤ 0
        grind
    · cases s
      · exact hle
      · show - mg l p ≤ _
        grind
/-- 'float64(x)'. -/
theorem bet_up (hx : Bet .f32 x a b) (hlo : RepK .f64 a) (hhi : RepK .f64 b) : Bet .f64 (upF x) a b := by
  obtain ⟨u, rfl, hu⟩ := hx
  obtain ⟨s, m, i, eu, u1, u2⟩ := hu.read
  refine ⟨_, rfl, ?_⟩
  have : FloatKind.f32.decode u = .number s m i := eu
  unfold upBits
  rw [this]
  exact enc_bet hlo hhi u1 u2
/-- 'float32(x)' of what stands between two float32s: in range. -/
theorem bet_dn (hx : Bet .f64 x a b) (hlo : RepK .f32 a) (hhi : RepK .f32 b) : Bet .f32 (dnF x) a b ∧ ∀ w, absF .f64 w = x → dnOver w = false := by
  obtain ⟨u, rfl, hu⟩ := hx
  obtain ⟨s, m, i, eu, u1, u2⟩ := hu.read
  have e : FloatKind.f64.decode u = .number s m i := eu
  have hb : WBet FloatKind.f32.format (dnBits u) a b := by
    unfold dnBits
    rw [e]
    exact enc_bet hlo hhi u1 u2
  refine ⟨⟨_, rfl, hb⟩, fun w hw => ?_⟩
  obtain ⟨rfl, _⟩ := absF_some hw
  unfold dnOver
  rw [e]
  obtain ⟨t, n, j, et, _⟩ := hb.read
  show (FloatKind.f32.format.read (dnBits w)).isInfinity = false
  rw [et]; rfl
theorem Bet.abs {w : Nat} (h : Bet k x a b) (hw : absF k w = x) : x = some w ∧ (k.decode w).isNaN = false := by
  obtain ⟨u, rfl, hu⟩ := h
  obtain ⟨rfl, hn⟩ := absF_some hw
  exact ⟨rfl, hn⟩
/-- 2 ^ E is a number of the format's. -/
theorem rep_p2 {f : Ieee.Format} {E : Int} (h1 : f.leastPlace ≤ E - f.fractionBits) (h2 : (E - f.fractionBits - f.leastPlace).toNat + 1 < 2 ^ f.exponentBits - 1) : Rep f (p2 E) := by
  obtain ⟨j, hj⟩ : ∃ j : Nat, E = f.leastPlace + j + f.fractionBits := ⟨(E - f.fractionBits - f.leastPlace).toNat, by omega⟩
  have hb := binade_pos f
  refine ⟨false, (j + 1) * f.binade, ?_, ?_⟩
  · unfold Ieee.Format.infRung
    exact Nat.mul_lt_mul_of_pos_right (by omega) hb
  · have hM : rM f ((j + 1) * f.binade) = f.binade := by
      unfold rM
      rw [Nat.mul_mod_left, if_neg (by rw [Nat.add_mul]; omega)]
      rfl
    have hJ : rJ f ((j + 1) * f.binade) = j := by
      unfold rJ
      rw [Nat.mul_div_cancel _ hb, if_neg (by rw [Nat.add_mul]; omega)]
      rfl
    rw [sg_f, rV_eq, hM, hJ, binade_mg, hj]
theorem rep32 {E : Int} (h1 : -126 ≤ E) (h2 : E ≤ 126) : RepK .f32 (p2 E) := by
  refine rep_p2 ?_ ?_
  · show (-149 : Int) ≤ E - (23 : Nat); omega
  · show (E - (23 : Nat) - (-149)).toNat + 1 < 255; omega
theorem rep64 {E : Int} (h1 : -1022 ≤ E) (h2 : E ≤ 1022) : RepK .f64 (p2 E) := by
  refine rep_p2 ?_ ?_
  · show (-1074 : Int) ≤ E - (52 : Nat); omega
  · show (E - (52 : Nat) - (-1074)).toNat + 1 < 2047; omega
theorem rep0 : RepK k 0 := rep_zero (inf_pos k)
theorem rep1 : RepK k 1 := by
  rw [← p2_zero]
  cases k
  · exact rep32 (by omega) (by omega)
  · exact rep64 (by omega) (by omega)

/-! ### Orders -/
section
open Ieee
theorem scaled (s : Bool) (m : Nat) {i base : Int} (h : base ≤ i) : ((signed s m (i - base).toNat : Int) : Rat) * p2 base = vD (.number s m i) := by
  rw [signed_val]
  simp only [vD]
  congr 2
  omega
theorem order_cmp (s : Bool) (m : Nat) (i : Int) (t : Bool) (n : Nat) (j : Int) :
    ((Datum.number s m i).order (.number t n j) = some .lt ↔ vD (.number s m i) < vD (.number t n j)) ∧ ((Datum.number s m i).order (.number t n j) = some .gt ↔ vD (.number t n j) < vD (.number s m i)) ∧ ((Datum.number s m i).order (.number t n j) = some .eq ↔ vD (.number s m i) = vD (.number t n j)) := by
  rw [← scaled s m (Int.min_le_left i j), ← scaled t n (Int.min_le_right i j)]
  simp only [Datum.order, Option.some.injEq]
  have hp := p2_pos (min i j)
  refine ⟨?_, ?_, ?_⟩
  · rw [Int.compare_eq_lt, Rat.mul_lt_mul_right hp, Rat.intCast_lt_intCast]
  · rw [Int.compare_eq_gt, Rat.mul_lt_mul_right hp, Rat.intCast_lt_intCast]
  · rw [Int.compare_eq_eq]
    constructor
    · intro h; rw [h]
    · intro h
      have h1 := Rat.le_of_mul_le_mul_right (by rw [h]; exact Rat.le_refl : ((signed s m (i - min i j).toNat : Int) : Rat) * p2 (min i j) ≤ ((signed t n (j - min i j).toNat : Int) : Rat) * p2 (min i j)) hp
      have h2 := Rat.le_of_mul_le_mul_right (by rw [h]; exact Rat.le_refl : ((signed t n (j - min i j).toNat : Int) : Rat) * p2 (min i j) ≤ ((signed s m (i - min i j).toNat : Int) : Rat) * p2 (min i j)) hp
      exact Rat.intCast_inj.1 (Rat.le_antisymm h1 h2)
theorem binade_le (k : FloatKind) : k.format.binade ≤ k.format.infRung := by cases k <;> decide
/-- What reads as a number stands where it stands. -/
theorem rung_of {k : FloatKind} {b : Nat} {s : Bool} {m : Nat} {p : Int} (h : k.format.read b = .number s m p) : ∃ R, R < k.format.infRung ∧ m = rM k.format R ∧ p = k.format.leastPlace + rJ k.format R := by
  have hle := binade_le k
  unfold Format.read at h
  dsimp only at h
  refine ⟨b % k.format.signWeight, ?_⟩
  split at h
  · rename_i hh
    injection h with _ h1 h2
    subst h1 h2
    refine ⟨by omega, ?_, ?_⟩
    · unfold rM; rw [if_pos hh]
    · unfold rJ; rw [if_pos hh]; simp
  · rename_i hh
    split at h
    · rename_i hi
      injection h with _ h1 h2
      subst h1 h2
      refine ⟨hi, ?_, ?_⟩
      · unfold rM; rw [if_neg hh]
      · unfold rJ; rw [if_neg hh]
    · split at h <;> cases h
theorem bet_of {k : FloatKind} {b : Nat} {s : Bool} {m : Nat} {p : Int} {lo hi : Rat} (h : k.format.read b = .number s m p) (h1 : lo ≤ vD (.number s m p)) (h2 : vD (.number s m p) ≤ hi) : Bet k (some b) lo hi := by
  obtain ⟨R, hR, rfl, rfl⟩ := rung_of h
  refine ⟨b, rfl, s, R, h, hR, ?_, ?_⟩
  · rw [rV_eq]; exact h1
  · rw [rV_eq]; exact h2
/-- The worth of what reads as a number is one of the format's. -/
theorem rep_of {k : FloatKind} {b : Nat} {s : Bool} {m : Nat} {p : Int} (h : k.format.read b = .number s m p) : RepK k (vD (.number s m p)) := by
  obtain ⟨R, hR, rfl, rfl⟩ := rung_of h
  exact ⟨s, R, hR, by rw [rV_eq]; rfl⟩
end
/-- A natural number, rounded, between two powers of two. -/
theorem bet_nat {k : FloatKind} {n a b : Nat} (ha : 2 ^ a ≤ n) (hb : n ≤ 2 ^ b) (hA : RepK k (p2 a)) (hB : RepK k (p2 b)) : Bet k (some (floatOfInt k (n : Int))) (p2 a) (p2 b) := by
  have e : floatOfInt k (n : Int) = k.encode (.number (decide ((n : Int) < 0)) (n : Int).natAbs 0) := rfl
  refine ⟨_, rfl, ?_⟩
  rw [e, decide_eq_false (by omega), Int.natAbs_natCast]
  have hv : vD (.number false n 0) = (n : Rat) := by
    simp only [vD, sg_f, mg, p2_zero, Rat.mul_one]
  refine enc_bet hA hB ?_ ?_
  · rw [hv, p2_nat]; exact Rat.natCast_le_natCast.2 ha
  · rw [hv, p2_nat]; exact Rat.natCast_le_natCast.2 hb

/-! ### What is not above 0 -/
/-- A number with its sign set, or the infinity below. -/
def NegS (k : FloatKind) (o : Option Nat) : Prop := ∃ b, o = some b ∧ ((∃ m p, k.format.read b = .number true m p) ∨ k.format.read b = .infinity true)
theorem negS_enc (k : FloatKind) {d : Ieee.Datum} (h : (∃ m p, d = .number true m p) ∨ d = .infinity true) : NegS k (some (k.encode d)) := by
  refine ⟨_, rfl, ?_⟩
  have hinf := k.format.infRung_lt
  have key : ∀ r, r ≤ k.format.infRung → (∃ m p, k.format.read (k.format.word true r) = .number true m p) ∨ k.format.read (k.format.word true r) = .infinity true := by
    intro r hr
    rcases Nat.lt_or_eq_of_le hr with h | rfl
    · exact .inl ⟨_, _, read_rung _ _ h⟩
    · right
      rw [read_word _ _ hinf, if_neg (by have := binade_le k; omega), if_neg (by omega), if_pos rfl]
  rcases h with ⟨m, p, rfl⟩ | rfl
  · show (∃ m' p', k.format.read (k.format.nearest true m p) = .number true m' p') ∨ k.format.read (k.format.nearest true m p) = .infinity true
    unfold Ieee.Format.nearest
    dsimp only
    split
    · exact key _ (Nat.zero_le _)
    · exact key _ (Nat.min_le_right _ _)
  · exact key _ (Nat.le_refl _)
theorem negS_up {x : Option Nat} (h : NegS .f32 x) : NegS .f64 (upF x) := by
  obtain ⟨b, rfl, h⟩ := h
  exact negS_enc .f64 h

/-! ### A number times a power of two -/
theorem rep_mg {f : Ieee.Format} {n : Nat} {p : Int} (hn : n ≠ 0) (h1 : n.log2 ≤ f.fractionBits) (h2 : f.leastPlace ≤ p - (f.fractionBits - n.log2 : Nat)) (h3 : (p - (f.fractionBits - n.log2 : Nat) - f.leastPlace).toNat + 2 < 2 ^ f.exponentBits - 1) : Rep f (mg n p) := by
  obtain ⟨s, hs⟩ : ∃ s, s = f.fractionBits - n.log2 := ⟨_, rfl⟩
  rw [← hs] at h2 h3
  obtain ⟨j, hj⟩ : ∃ j : Nat, p - (s : Int) = f.leastPlace + j := ⟨(p - s - f.leastPlace).toNat, by omega⟩
  have hb := binade_pos f
  have e : mg n p = mg (n * 2 ^ s) (f.leastPlace + j) := by
    rw [← mg_up, ← hj]
    congr 1
    omega
  have hlo : f.binade ≤ n * 2 ^ s := by
    have := Nat.log2_self_le hn
    calc f.binade = 2 ^ (n.log2 + s) := by unfold Ieee.Format.binade; congr 1; omega
      _ = 2 ^ n.log2 * 2 ^ s := Nat.pow_add _ _ _
      _ ≤ _ := Nat.mul_le_mul_right _ this
  have hhi : n * 2 ^ s < 2 * f.binade := by
    have := Nat.lt_log2_self (n := n)
    calc n * 2 ^ s < 2 ^ (n.log2 + 1) * 2 ^ s := Nat.mul_lt_mul_of_pos_right this (Nat.two_pow_pos _)
      _ = 2 ^ (n.log2 + 1 + s) := (Nat.pow_add _ _ _).symm
      _ = 2 ^ (f.fractionBits + 1) := by congr 1; omega
      _ = 2 * f.binade := by unfold Ieee.Format.binade; rw [Nat.pow_succ]; omega
  obtain ⟨r, hr⟩ : ∃ r, n * 2 ^ s = f.binade + r := ⟨n * 2 ^ s - f.binade, by omega⟩
  have hrl : r < f.binade := by omega
  refine ⟨false, (j + 1) * f.binade + r, ?_, ?_⟩
  · unfold Ieee.Format.infRung
    calc (j + 1) * f.binade + r < (j + 1) * f.binade + f.binade := by omega
      _ = (j + 2) * f.binade := by rw [← Nat.succ_mul]
      _ ≤ _ := Nat.mul_le_mul_right _ (by omega)
  · have hge : ¬ ((j + 1) * f.binade + r < f.binade) := by
      rw [Nat.add_mul, Nat.one_mul]
      omega
    have hM : rM f ((j + 1) * f.binade + r) = f.binade + r := by
      unfold rM
      rw [if_neg hge, Nat.mul_comm, Nat.mul_add_mod, Nat.mod_eq_of_lt hrl]
    have hJ : rJ f ((j + 1) * f.binade + r) = j := by
      unfold rJ
      rw [if_neg hge, Nat.add_comm, Nat.add_mul_div_right _ _ hb, Nat.div_eq_of_lt hrl]
      omega
    rw [sg_f, rV_eq, hM, hJ, e, hr]
/-- What is rounded is the worth: a power of two may be moved from the place. -/
theorem cut_shift (n d j : Nat) (hn : n ≠ 0) : Ieee.Toward.even.cut false (n * 2 ^ j) (d + j) = Ieee.Toward.even.cut false n d := by
  unfold Ieee.Toward.cut
  dsimp only
  have hl : (n * 2 ^ j).log2 = n.log2 + j := by
    rw [Nat.log2_eq_iff (Nat.mul_ne_zero hn (by have := Nat.two_pow_pos j; omega))]
    constructor
    · rw [Nat.pow_add]
      exact Nat.mul_le_mul_right _ (Nat.log2_self_le hn)
    · have h : n * 2 ^ j < 2 ^ (n.log2 + 1) * 2 ^ j := Nat.mul_lt_mul_of_pos_right Nat.lt_log2_self (Nat.two_pow_pos _)
      rw [← Nat.pow_add] at h
      rwa [show n.log2 + j + 1 = n.log2 + 1 + j by omega]
  rw [hl, show min (d + j) (n.log2 + j + 2) = min d (n.log2 + 2) + j by omega]
  simp only [Nat.shiftLeft_eq, Nat.one_mul]
  rw [Nat.pow_add]
  generalize 2 ^ min d (n.log2 + 2) = g
  have hp : 0 < 2 ^ j := Nat.two_pow_pos _
  rw [Nat.mul_div_mul_right _ _ hp, Nat.mul_mod_mul_right]
  generalize n % g = r
  generalize 2 ^ j = t at *
  have e1 : (g * t < 2 * (r * t)) ↔ (g < 2 * r) := by
    rw [← Nat.mul_assoc]
    exact Nat.mul_lt_mul_right hp
  have e2 : (g * t = 2 * (r * t)) ↔ (g = 2 * r) := by
    rw [← Nat.mul_assoc]
    exact Nat.mul_left_inj (by omega)
  rw [decide_eq_decide.2 e1, show (g * t == 2 * (r * t)) = (g == 2 * r) from by rw [Bool.eq_iff_iff, beq_iff_eq, beq_iff_eq]; exact e2]
theorem nearest_shift (f : Ieee.Format) (s : Bool) (m j : Nat) (p : Int) : f.nearest s (m * 2 ^ j) p = f.nearest s m (p + j) := by
  by_cases hm : m = 0
  · subst hm
    rw [Nat.zero_mul]
    unfold Ieee.Format.nearest
    rw [if_pos rfl, if_pos rfl]
  have hp : 0 < 2 ^ j := Nat.two_pow_pos _
  rw [nearest_eq f s p (Nat.mul_ne_zero hm (by omega)), nearest_eq f s _ hm]
  congr 2
  have hl : (m * 2 ^ j).log2 = m.log2 + j := by
    rw [Nat.log2_eq_iff (Nat.mul_ne_zero hm (by omega))]
    constructor
    · rw [Nat.pow_add]
      exact Nat.mul_le_mul_right _ (Nat.log2_self_le hm)
    · have h : m * 2 ^ j < 2 ^ (m.log2 + 1) * 2 ^ j := Nat.mul_lt_mul_of_pos_right Nat.lt_log2_self hp
      rw [← Nat.pow_add] at h
      rwa [show m.log2 + j + 1 = m.log2 + 1 + j by omega]
  unfold rungOf
  dsimp only
  rw [hl, show p + ((m.log2 + j : Nat) : Int) - f.fractionBits = p + j + m.log2 - f.fractionBits by omega]
  generalize max (p + j + (m.log2 : Int) - f.fractionBits) f.leastPlace = last
  congr 1
  by_cases h : last ≤ p + j
  · rw [show (last - (p + j)).toNat = 0 by omega]
    by_cases h2 : last ≤ p
    · rw [show (last - p).toNat = 0 by omega, Nat.shiftLeft_eq, Nat.shiftLeft_eq, Nat.mul_assoc, ← Nat.pow_add, show j + (p - last).toNat = (p + j - last).toNat by omega]
    · rw [show (p - last).toNat = 0 by omega, Nat.shiftLeft_zero, Nat.shiftLeft_eq]
      obtain ⟨d, hd⟩ : ∃ d, (last - p).toNat = d := ⟨_, rfl⟩
      have he : m * 2 ^ j = m * 2 ^ (p + j - last).toNat * 2 ^ d := by rw [Nat.mul_assoc, ← Nat.pow_add]; congr 2; omega
      have := cut_shift (m * 2 ^ (p + j - last).toNat) 0 d (Nat.mul_ne_zero hm (by have := Nat.two_pow_pos (p + j - last).toNat; omega))
      rw [Nat.zero_add, ← he] at this
      rw [hd, this]
  · rw [show (p - last).toNat = 0 by omega, show (p + j - last).toNat = 0 by omega, Nat.shiftLeft_zero, Nat.shiftLeft_zero, show (last - p).toNat = (last - (p + j)).toNat + j by omega]
    exact cut_shift m _ j hm
/-- The half of a number: by 2, or times a half. -/
theorem half_eq (x : Option Nat) : opF .quo .f32 x (some 1073741824) = opF .mul .f32 (some 1056964608) x := by
  cases x with
  | none => rfl
  | some b =>
    have r2 : FloatKind.f32.format.read 1073741824 = .number false 8388608 (-22) := by decide
    have rh : FloatKind.f32.format.read 1056964608 = .number false 8388608 (-24) := by decide
    show ((FloatKind.f32.format.read b).quotient (FloatKind.f32.format.fractionBits + 2) (FloatKind.f32.format.read 1073741824)).map FloatKind.f32.format.write = ((FloatKind.f32.format.read 1056964608).product (FloatKind.f32.format.read b)).map FloatKind.f32.format.write
    rw [r2, rh]
    cases e : FloatKind.f32.format.read b with
    | nan s t => rfl
    | infinity s => simp [Ieee.Datum.quotient, Ieee.Datum.product]
    | number s m i =>
      have hm : m < 2 ^ 24 := (read_bound b e).1
      have hf : FloatKind.f32.format.fractionBits = 23 := rfl
      simp only [Ieee.Datum.quotient, Ieee.Datum.product, hf]
      rw [if_neg (by omega)]
      simp only [Option.map_some, Bool.xor_false, Bool.false_xor]
      have hl : m.log2 ≤ 23 := by
        by_cases h0 : m = 0
        · subst h0; decide
        · have := (Nat.log2_lt h0).2 hm
          omega
      have hn : Nat.log2 8388608 = 23 := by decide
      rw [hn]
      obtain ⟨k, hk⟩ : ∃ k, 23 + 2 + 23 - m.log2 = k + 23 := ⟨25 - m.log2, by omega⟩
      rw [hk, Nat.shiftLeft_eq, Nat.pow_add, ← Nat.mul_assoc, show 2 ^ 23 = 8388608 from rfl, Nat.mul_div_cancel _ (by omega), Nat.mul_mod_left]
      simp only [bne_self_eq_false, Bool.toNat_false, Nat.add_zero]
      show some (FloatKind.f32.format.nearest s (2 * (m * 2 ^ k)) _) = some (FloatKind.f32.format.nearest s (8388608 * m) _)
      rw [show 2 * (m * 2 ^ k) = m * 2 ^ (k + 1) by rw [Nat.pow_succ]; ac_rfl, nearest_shift, show 8388608 * m = m * 2 ^ 23 by rw [Nat.mul_comm], nearest_shift]
      congr 2
      omega
section
open Ieee
/-- What is rounded keeps its sign. -/
theorem near_sign (k : FloatKind) (s : Bool) (m : Nat) (p : Int) : ∃ r, k.format.nearest s m p = k.format.word s r ∧ r ≤ k.format.infRung ∧ ((r < k.format.infRung ∧ k.format.read (k.format.nearest s m p) = .number s (rM k.format r) (k.format.leastPlace + rJ k.format r)) ∨ k.format.read (k.format.nearest s m p) = .infinity s) := by
  have hinf := k.format.infRung_lt
  have key : ∃ r, k.format.nearest s m p = k.format.word s r ∧ r ≤ k.format.infRung := by
    unfold Ieee.Format.nearest
    dsimp only
    split
    · exact ⟨0, rfl, Nat.zero_le _⟩
    · exact ⟨_, rfl, Nat.min_le_right _ _⟩
  obtain ⟨r, e, hr⟩ := key
  refine ⟨r, e, hr, ?_⟩
  rw [e]
  rcases Nat.lt_or_eq_of_le hr with h | rfl
  · exact .inl ⟨h, read_rung _ _ h⟩
  · right
    rw [read_word _ _ hinf, if_neg (by have := binade_le k; omega), if_neg (by omega), if_pos rfl]
/-- A float32 as a float64: the same worth. -/
theorem rep_up {x : Nat} {s : Bool} {m : Nat} {p : Int} (h : FloatKind.f32.format.read x = .number s m p) : RepK .f64 (vD (.number s m p)) := by
  obtain ⟨h1, h2, h3⟩ := read_bound x h
  have hp : RepK .f64 (mg m p) := by
    by_cases h0 : m = 0
    · subst h0; rw [mg_zero]; exact rep0
    · have hl : m.log2 < 24 := (Nat.log2_lt h0).2 h1
      refine rep_mg h0 ?_ ?_ ?_
      · show m.log2 ≤ 52; omega
      · show (-1074 : Int) ≤ p - ((52 - m.log2 : Nat) : Int); omega
      · show (p - ((52 - m.log2 : Nat) : Int) - (-1074)).toNat + 2 < 2047; omega
  cases s
  · exact hp
  · exact rep_neg hp
end
end Go.Proofs.Ytjajlddnhmbekaa
