/-
  The operations on doubles by their rungs, reckoned fast.
-/
import Derived.Test.YthafpbhjpmnddaaValOp
namespace Go.Proofs.Ythafpbhjpmnddaa
open Go.RowKit
open Ieee

abbrev D64 : Format := FloatKind.f64.format
def INF : Nat := 9218868437227405312
def BIN : Nat := 4503599627370496
theorem inf_is : D64.infRung = INF := by decide
theorem bin_is : D64.binade = BIN := by decide
/-- The word of a sign and a rung. -/
def sgw (s : Bool) (R : Nat) : Nat := D64.word s R
def rg (m : Nat) (p : Int) : Nat := if m = 0 then 0 else min (rungOf D64 m p) INF
theorem enc_rg (s : Bool) (m : Nat) (p : Int) : FloatKind.f64.encode (.number s m p) = sgw s (rg m p) := by
  show D64.nearest s m p = _
  unfold rg sgw
  by_cases h : m = 0
  · subst h
    simp [Format.nearest]
  · rw [if_neg h, nearest_eq D64 s p h, inf_is]
def iR (R : Nat) : Int := -1074 + rJ D64 R
theorem read_sgw (s : Bool) {R : Nat} (h : R < INF) : D64.read (sgw s R) = .number s (rM D64 R) (iR R) := read_rung D64 s (by rw [inf_is]; exact h)
def mulG (a b : Nat) : Nat := rg (rM D64 a * rM D64 b) (iR a + iR b)
theorem mul_g (s t : Bool) {a b : Nat} (ha : a < INF) (hb : b < INF) : floatBits .mul .f64 (sgw s a) (sgw t b) = some (sgw (s ^^ t) (mulG a b)) := by
  show ((D64.read (sgw s a)).product (D64.read (sgw t b))).map FloatKind.f64.encode = _
  rw [read_sgw s ha, read_sgw t hb]
  simp only [Datum.product, Option.map_some]
  rw [enc_rg]
  rfl
def addG (a b : Nat) : Nat := rg (rM D64 a <<< (iR a - min (iR a) (iR b)).toNat + rM D64 b <<< (iR b - min (iR a) (iR b)).toNat) (min (iR a) (iR b))
theorem add_g (s : Bool) {a b : Nat} (ha : a < INF) (hb : b < INF) : floatBits .add .f64 (sgw s a) (sgw s b) = some (sgw s (addG a b)) := by
  show ((D64.read (sgw s a)).sum (D64.read (sgw s b))).map FloatKind.f64.encode = _
  rw [read_sgw s ha, read_sgw s hb]
  simp only [Datum.sum, Option.map_some]
  unfold addG
  generalize min (iR a) (iR b) = base
  have h : ∃ x y : Nat, signed s (rM D64 a) (iR a - base).toNat = (if s then -(x : Int) else x) ∧ signed s (rM D64 b) (iR b - base).toNat = (if s then -(y : Int) else y) ∧ x = rM D64 a <<< (iR a - base).toNat ∧ y = rM D64 b <<< (iR b - base).toNat := ⟨_, _, rfl, rfl, rfl, rfl⟩
  obtain ⟨x, y, h1, h2, h3, h4⟩ := h
  rw [h1, h2, ← h3, ← h4, enc_rg]
  congr 2
  · cases s
    · simp only [Bool.false_eq_true, if_false]
      split
      · rfl
      · exact decide_eq_false (by omega)
    · simp only [if_true]
      split
      · rfl
      · exact decide_eq_true (by omega)
  · congr 1
    cases s
    · simp only [Bool.false_eq_true, if_false]; omega
    · simp only [if_true]; omega
theorem addG_comm (a b : Nat) : addG a b = addG b a := by
  unfold addG
  rw [Int.min_comm (iR b) (iR a), Nat.add_comm]
def quoG (a b : Nat) : Nat := rg (2 * (rM D64 a <<< (54 + (rM D64 b).log2 - (rM D64 a).log2) / rM D64 b) + (rM D64 a <<< (54 + (rM D64 b).log2 - (rM D64 a).log2) % rM D64 b != 0).toNat) (iR a - iR b - ((54 + (rM D64 b).log2 - (rM D64 a).log2 : Nat) : Int) - 1)
theorem quo_g (s t : Bool) {a b : Nat} (ha : a < INF) (hb : b < INF) (h0 : rM D64 b ≠ 0) : floatBits .quo .f64 (sgw s a) (sgw t b) = some (sgw (s ^^ t) (quoG a b)) := by
  show ((D64.read (sgw s a)).quotient 54 (D64.read (sgw t b))).map FloatKind.f64.encode = _
  rw [read_sgw s ha, read_sgw t hb]
  simp only [Datum.quotient]
  rw [if_neg h0, Option.map_some, enc_rg]
  rfl

/-! ### Fast -/
def cutE (m d : Nat) : Nat := m / 2 ^ d + (bif Nat.blt (2 ^ d) (2 * (m % 2 ^ d)) then 1 else bif Nat.beq (2 ^ d) (2 * (m % 2 ^ d)) then m / 2 ^ d % 2 else 0)
theorem cut_eq {m d : Nat} (h : d ≤ m.log2 + 2) : Toward.even.cut false m d = cutE m d := by
  unfold Toward.cut cutE
  rw [Nat.min_eq_left h, Nat.one_shiftLeft]
  dsimp only
  congr 1
  generalize 2 ^ d = g
  generalize m % g = r
  generalize m / g = l
  have hl := Nat.mod_two_eq_zero_or_one l
  by_cases h1 : g < 2 * r
  · have : Nat.blt g (2 * r) = true := by rw [Nat.blt_eq]; exact h1
    rw [this, decide_eq_true h1]
    rfl
  · have : Nat.blt g (2 * r) = false := by rw [Bool.eq_false_iff]; intro h; rw [Nat.blt_eq] at h; exact h1 h
    rw [this, decide_eq_false h1]
    by_cases h2 : g = 2 * r
    · have e : Nat.beq g (2 * r) = true := by rw [Nat.beq_eq]; exact h2
      rw [e]
      have e2 : (g == 2 * r) = true := beq_iff_eq.2 h2
      rw [e2]
      rcases hl with hl | hl <;> rw [hl] <;> rfl
    · have e : Nat.beq g (2 * r) = false := by rw [Bool.eq_false_iff]; intro h; rw [Nat.beq_eq] at h; exact h2 h
      rw [e]
      have e2 : (g == 2 * r) = false := beq_eq_false_iff_ne.2 h2
      rw [e2]
      rfl
theorem rung_fast {m E d : Nat} {p : Int} (hd : m.log2 = 52 + d) (hE : (E : Int) = p + d + 1074) : rungOf D64 m p = E * BIN + cutE m d := by
  unfold rungOf
  have hl : D64.leastPlace = -1074 := rfl
  have hf : D64.fractionBits = 52 := rfl
  have hmax : max (p + (m.log2 : Int) - (D64.fractionBits : Nat)) D64.leastPlace = p + d := by
    rw [hl, hf, hd]
    omega
  rw [hmax, hl, bin_is]
  have h1 : (p + (d : Int) - -1074).toNat = E := by omega
  have h2 : (p - (p + (d : Int))).toNat = 0 := by omega
  have h3 : (p + (d : Int) - p).toNat = d := by omega
  dsimp only
  rw [h1, h2, h3, Nat.shiftLeft_zero, cut_eq (by omega)]
def forceN {α : Type} (n : Nat) (k : Nat → α) : α := Nat.rec (motive := fun _ => α) (k 0) (fun m _ => k (m + 1)) n
theorem force_eq {α : Type} (n : Nat) (k : Nat → α) : forceN n k = k n := by cases n <;> rfl
theorem ble_iff {a b : Nat} : Nat.ble a b = true ↔ a ≤ b := by rw [Nat.ble_eq]
def mnI (r : Nat) : Nat := bif Nat.ble r INF then r else INF
theorem mnI_eq (r : Nat) : mnI r = min r INF := by
  unfold mnI
  by_cases h : r ≤ INF
  · rw [show Nat.ble r INF = true from ble_iff.2 h, cond_true, Nat.min_eq_left h]
  · rw [show Nat.ble r INF = false from by rw [Bool.eq_false_iff]; intro e; exact h (ble_iff.1 e), cond_false, Nat.min_eq_right (by omega)]
/-- The rung that a magnitude is rounded to, its place told by E + 1074 less the digits cut. -/
def finR (E m d : Nat) : Nat := forceN (E * BIN + cutE m d) mnI
theorem rg_fast {m E d : Nat} {p : Int} (hm : m ≠ 0) (hd : m.log2 = 52 + d) (hE : (E : Int) = p + d + 1074) : rg m p = finR E m d := by
  unfold rg finR
  rw [if_neg hm, force_eq, mnI_eq, rung_fast hd hE]
theorem norm_parts {a : Nat} (h : BIN ≤ a) : rM D64 a = BIN + a % BIN ∧ (rJ D64 a : Int) = (a / BIN : Nat) - 1 ∧ 1 ≤ a / BIN := by
  have h1 : 1 ≤ a / BIN := (Nat.one_le_div_iff (by decide)).2 h
  unfold rM rJ
  rw [bin_is, if_neg (by omega), if_neg (by omega)]
  exact ⟨rfl, by omega, h1⟩
theorem norm_log {m : Nat} (h1 : BIN ≤ m) (h2 : m < 2 * BIN) : m.log2 = 52 := by
  have h0 : m ≠ 0 := by have : 0 < BIN := by decide
                        omega
  have a : 52 ≤ m.log2 := (Nat.le_log2 h0).2 h1
  have b : m.log2 < 53 := (Nat.log2_lt h0).2 h2
  omega
theorem log2_two {m e : Nat} (h1 : 2 ^ e ≤ m) (h2 : m < 2 ^ (e + 2)) : m.log2 = e + (bif Nat.ble (2 ^ (e + 1)) m then 1 else 0) := by
  have hp : 0 < 2 ^ e := Nat.two_pow_pos _
  have h0 : m ≠ 0 := by omega
  cases h : Nat.ble (2 ^ (e + 1)) m
  · have hlt : m < 2 ^ (e + 1) := by
      refine Nat.lt_of_not_le fun hle => ?_
      rw [ble_iff.2 hle] at h
      cases h
    have a := (Nat.le_log2 h0).2 h1
    have b := (Nat.log2_lt h0).2 hlt
    rw [cond_false]
    omega
  · have hge := ble_iff.1 h
    have a := (Nat.le_log2 h0).2 hge
    have b := (Nat.log2_lt h0).2 h2
    rw [cond_true]
    omega
def mulR (a b : Nat) : Nat :=
  bif Nat.ble BIN a && (Nat.ble BIN b && Nat.ble 1076 (a / BIN + b / BIN)) then
    forceN ((BIN + a % BIN) * (BIN + b % BIN)) fun m => bif Nat.ble 40564819207303340847894502572032 m then finR (a / BIN + b / BIN + 53 - 1076) m 53 else finR (a / BIN + b / BIN + 52 - 1076) m 52
  else mulG a b
theorem ble_t {a b : Nat} (h : Nat.ble a b = true) : a ≤ b := ble_iff.1 h
theorem mulR_eq (a b : Nat) : mulR a b = mulG a b := by
  unfold mulR
  cases hc : (Nat.ble BIN a && (Nat.ble BIN b && Nat.ble 1076 (a / BIN + b / BIN)))
  · rfl
  · rw [Bool.and_eq_true, Bool.and_eq_true] at hc
    have ha := ble_t hc.1
    have hb := ble_t hc.2.1
    have hs := ble_t hc.2.2
    obtain ⟨a1, a2, a3⟩ := norm_parts ha
    obtain ⟨b1, b2, b3⟩ := norm_parts hb
    rw [cond_true, force_eq]
    unfold mulG
    rw [a1, b1]
    have hB : 0 < BIN := by decide
    have hma : a % BIN < BIN := Nat.mod_lt _ hB
    have hmb : b % BIN < BIN := Nat.mod_lt _ hB
    have hm2 : (BIN + a % BIN) * (BIN + b % BIN) < (2 * BIN) * (2 * BIN) := Nat.mul_lt_mul_of_lt_of_le (by omega) (by omega) (by omega)
    have hm : BIN * BIN ≤ (BIN + a % BIN) * (BIN + b % BIN) := Nat.mul_le_mul (by omega) (by omega)
    have h0 : (BIN + a % BIN) * (BIN + b % BIN) ≠ 0 := by
      have : 0 < BIN * BIN := by decide
      omega
    generalize (BIN + a % BIN) * (BIN + b % BIN) = m at *
    have hlog := log2_two (m := m) (e := 104) (by rw [show (2 : Nat) ^ 104 = BIN * BIN by decide]; exact hm) (by rw [show (2 : Nat) ^ (104 + 2) = (2 * BIN) * (2 * BIN) by decide]; exact hm2)
    rw [show (2 : Nat) ^ (104 + 1) = 40564819207303340847894502572032 by decide] at hlog
    cases hc2 : Nat.ble 40564819207303340847894502572032 m
    · rw [hc2, cond_false] at hlog
      rw [cond_false]
      symm
      refine rg_fast h0 (by omega) ?_
      unfold iR
      rw [a2, b2]
      omega
    · rw [hc2, cond_true] at hlog
      rw [cond_true]
      symm
      refine rg_fast h0 (by omega) ?_
      unfold iR
      rw [a2, b2]
      omega
def quoR (a b : Nat) : Nat :=
  bif Nat.ble BIN a && (Nat.ble BIN b && Nat.ble (b / BIN) (a / BIN + 1019)) then
    forceN ((BIN + a % BIN) * 18014398509481984) fun D => forceN (BIN + b % BIN) fun n => forceN (2 * (D / n) + (bif Nat.beq (D % n) 0 then 0 else 1)) fun q => bif Nat.ble 36028797018963968 q then finR (a / BIN + 3 + 1019 - b / BIN) q 3 else finR (a / BIN + 2 + 1019 - b / BIN) q 2
  else quoG a b
theorem quoR_eq (a b : Nat) : quoR a b = quoG a b := by
  unfold quoR
  cases hc : (Nat.ble BIN a && (Nat.ble BIN b && Nat.ble (b / BIN) (a / BIN + 1019)))
  · rfl
  · rw [Bool.and_eq_true, Bool.and_eq_true] at hc
    have ha := ble_t hc.1
    have hb := ble_t hc.2.1
    have hs := ble_t hc.2.2
    obtain ⟨a1, a2, a3⟩ := norm_parts ha
    obtain ⟨b1, b2, b3⟩ := norm_parts hb
    rw [cond_true, force_eq, force_eq, force_eq]
    unfold quoG
    have hB : 0 < BIN := by decide
    have la : (rM D64 a).log2 = 52 := norm_log (by rw [a1]; omega) (by rw [a1]; have := Nat.mod_lt a hB; omega)
    have lb : (rM D64 b).log2 = 52 := norm_log (by rw [b1]; omega) (by rw [b1]; have := Nat.mod_lt b hB; omega)
    rw [la, lb, a1, b1]
    rw [Nat.shiftLeft_eq, show 54 + 52 - 52 = 54 from rfl, show (2 : Nat) ^ 54 = 18014398509481984 by decide]
    have hma : a % BIN < BIN := Nat.mod_lt _ hB
    have hmb : b % BIN < BIN := Nat.mod_lt _ hB
    generalize a % BIN = x at *
    generalize b % BIN = y at *
    have hdiv2 : (BIN + x) * 18014398509481984 / (BIN + y) < BIN * 8 := by
      rw [Nat.div_lt_iff_lt_mul (by omega)]
      have : BIN * 8 * BIN ≤ BIN * 8 * (BIN + y) := Nat.mul_le_mul_left _ (by omega)
      have h3 : (BIN + x) * 18014398509481984 < (BIN * 2) * 18014398509481984 := Nat.mul_lt_mul_of_pos_right (by omega) (by decide)
      have h4 : (BIN * 2) * 18014398509481984 ≤ BIN * 8 * BIN := by decide
      omega
    have hdiv : BIN * 2 ≤ (BIN + x) * 18014398509481984 / (BIN + y) := by
      rw [Nat.le_div_iff_mul_le (by omega)]
      have : BIN * 2 * (BIN + y) ≤ BIN * 2 * (BIN * 2) := Nat.mul_le_mul_left _ (by omega)
      have h3 : BIN * 18014398509481984 ≤ (BIN + x) * 18014398509481984 := Nat.mul_le_mul_right _ (by omega)
      have h4 : BIN * 2 * (BIN * 2) ≤ BIN * 18014398509481984 := by decide
      omega
    have hq : (bif Nat.beq ((BIN + x) * 18014398509481984 % (BIN + y)) 0 then 0 else 1) = ((BIN + x) * 18014398509481984 % (BIN + y) != 0).toNat := by
      cases (BIN + x) * 18014398509481984 % (BIN + y) <;> rfl
    rw [hq]
    have ho : ((BIN + x) * 18014398509481984 % (BIN + y) != 0).toNat ≤ 1 := Bool.toNat_le _
    generalize ((BIN + x) * 18014398509481984 % (BIN + y) != 0).toNat = o at *
    generalize (BIN + x) * 18014398509481984 / (BIN + y) = Q at *
    have h0 : 2 * Q + o ≠ 0 := by omega
    have hlog := log2_two (m := 2 * Q + o) (e := 54) (by rw [show (2 : Nat) ^ 54 = BIN * 4 by decide]; omega) (by rw [show (2 : Nat) ^ (54 + 2) = BIN * 16 by decide]; omega)
    rw [show (2 : Nat) ^ (54 + 1) = 36028797018963968 by decide] at hlog
    cases hc2 : Nat.ble 36028797018963968 (2 * Q + o)
    · rw [hc2, cond_false] at hlog
      rw [cond_false]
      symm
      refine rg_fast h0 (by omega) ?_
      unfold iR
      rw [a2, b2]
      omega
    · rw [hc2, cond_true] at hlog
      rw [cond_true]
      symm
      refine rg_fast h0 (by omega) ?_
      unfold iR
      rw [a2, b2]
      omega
def addF (a b : Nat) : Nat := forceN ((BIN + a % BIN) * 2 ^ (a / BIN - b / BIN) + (BIN + b % BIN)) fun m => bif Nat.ble (2 ^ (53 + (a / BIN - b / BIN))) m then finR (b / BIN + (a / BIN - b / BIN)) m (a / BIN - b / BIN + 1) else finR (b / BIN - 1 + (a / BIN - b / BIN)) m (a / BIN - b / BIN)
theorem addF_eq {a b : Nat} (hb : BIN ≤ b) (h : b ≤ a) : addF a b = addG a b := by
  obtain ⟨a1, a2, a3⟩ := norm_parts (Nat.le_trans hb h)
  obtain ⟨b1, b2, b3⟩ := norm_parts hb
  have hdd : b / BIN ≤ a / BIN := Nat.div_le_div_right h
  unfold addF addG
  rw [force_eq]
  have hmin : min (iR a) (iR b) = iR b := by unfold iR; omega
  have e1 : (iR a - iR b).toNat = a / BIN - b / BIN := by unfold iR; omega
  rw [hmin, e1, Int.sub_self, Int.toNat_zero, Nat.shiftLeft_zero, Nat.shiftLeft_eq, a1, b1]
  have hp : 0 < 2 ^ (a / BIN - b / BIN) := Nat.two_pow_pos _
  have hB : 0 < BIN := by decide
  have hma : a % BIN < BIN := Nat.mod_lt _ hB
  have hmb : b % BIN < BIN := Nat.mod_lt _ hB
  generalize a / BIN - b / BIN = da at *
  have hge : BIN * 2 ^ da ≤ (BIN + a % BIN) * 2 ^ da + (BIN + b % BIN) := by
    have : BIN * 2 ^ da ≤ (BIN + a % BIN) * 2 ^ da := Nat.mul_le_mul_right _ (by omega)
    omega
  have hlt : (BIN + a % BIN) * 2 ^ da + (BIN + b % BIN) < BIN * 4 * 2 ^ da := by
    have h1 : (BIN + a % BIN + 1) * 2 ^ da ≤ (BIN * 2) * 2 ^ da := Nat.mul_le_mul_right _ (by omega)
    have h2 : BIN * 2 * 1 ≤ BIN * 2 * 2 ^ da := Nat.mul_le_mul_left _ hp
    have h3 : (BIN + a % BIN + 1) * 2 ^ da = (BIN + a % BIN) * 2 ^ da + 2 ^ da := by rw [Nat.add_mul, Nat.one_mul]
    have h4 : BIN * 4 * 2 ^ da = BIN * 2 * 2 ^ da + BIN * 2 * 2 ^ da := by rw [← Nat.add_mul]; congr 1
    omega
  generalize (BIN + a % BIN) * 2 ^ da + (BIN + b % BIN) = m at *
  have h0 : m ≠ 0 := by
    have : BIN * 1 ≤ BIN * 2 ^ da := Nat.mul_le_mul_left _ hp
    omega
  have hlog := log2_two (m := m) (e := 52 + da) (by rw [Nat.pow_add, show (2 : Nat) ^ 52 = BIN by decide]; exact hge) (by rw [show 52 + da + 2 = 54 + da by omega, Nat.pow_add, show (2 : Nat) ^ 54 = BIN * 4 by decide]; exact hlt)
  rw [show 52 + da + 1 = 53 + da by omega] at hlog
  cases hc2 : Nat.ble (2 ^ (53 + da)) m
  · rw [hc2, cond_false] at hlog
    rw [cond_false]
    symm
    refine rg_fast h0 (by omega) ?_
    unfold iR
    rw [b2]
    omega
  · rw [hc2, cond_true] at hlog
    rw [cond_true]
    symm
    refine rg_fast h0 (by omega) ?_
    unfold iR
    rw [b2]
    omega
def addR (a b : Nat) : Nat := bif Nat.ble BIN a && Nat.ble BIN b then (bif Nat.ble b a then addF a b else addF b a) else addG a b
theorem addR_eq (a b : Nat) : addR a b = addG a b := by
  unfold addR
  cases hc : (Nat.ble BIN a && Nat.ble BIN b)
  · rfl
  · rw [Bool.and_eq_true] at hc
    have ha := ble_t hc.1
    have hb := ble_t hc.2
    rw [cond_true]
    cases hc2 : Nat.ble b a
    · rw [cond_false, addG_comm]
      refine addF_eq ha ?_
      have : ¬ b ≤ a := fun h => by rw [ble_iff.2 h] at hc2; cases hc2
      omega
    · rw [cond_true]
      exact addF_eq hb (ble_t hc2)
end Go.Proofs.Ythafpbhjpmnddaa
