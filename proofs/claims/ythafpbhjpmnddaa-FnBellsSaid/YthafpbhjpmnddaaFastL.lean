/-
  The operations on floats with a logarithm that is found in seven steps.
-/
import Derived.Test.YthafpbhjpmnddaaBellF
namespace Go.Proofs.Ythafpbhjpmnddaa
open Go.RowKit
open Ieee

def lgS (k m a : Nat) (c : Nat → Nat → Nat) : Nat := bif Nat.ble (2 ^ k) m then forceN (m / 2 ^ k) fun m' => c m' (a + k) else c m a
def lg (m : Nat) : Nat := lgS 64 m 0 fun m a => lgS 32 m a fun m a => lgS 16 m a fun m a => lgS 8 m a fun m a => lgS 4 m a fun m a => lgS 2 m a fun m a => lgS 1 m a fun _ a => a
theorem lgS_ok {k m a N : Nat} {c : Nat → Nat → Nat} (hm : 1 ≤ m) (hb : m < 2 ^ (2 * k)) (h : m.log2 + a = N) (hc : ∀ m' a', 1 ≤ m' → m' < 2 ^ k → m'.log2 + a' = N → c m' a' = N) : lgS k m a c = N := by
  unfold lgS
  have hp : 0 < 2 ^ k := Nat.two_pow_pos _
  cases hle : Nat.ble (2 ^ k) m
  · rw [cond_false]
    refine hc m a hm (Nat.lt_of_not_le fun h2 => ?_) h
    rw [ble_iff.2 h2] at hle
    cases hle
  · rw [cond_true, force_eq]
    have hge := ble_iff.1 hle
    have h1 : 1 ≤ m / 2 ^ k := (Nat.one_le_div_iff hp).2 hge
    refine hc _ _ h1 ?_ ?_
    · rw [Nat.div_lt_iff_lt_mul hp, ← Nat.pow_add]
      rwa [show k + k = 2 * k by omega]
    · have h2 : k ≤ m.log2 := (Nat.le_log2 (by omega)).2 hge
      have a : m.log2 - k ≤ (m / 2 ^ k).log2 := (Nat.le_log2 (by omega)).2 (by
        rw [Nat.le_div_iff_mul_le hp, ← Nat.pow_add, show m.log2 - k + k = m.log2 by omega]
        exact Nat.log2_self_le (by omega))
      have b : (m / 2 ^ k).log2 < m.log2 - k + 1 := (Nat.log2_lt (by omega)).2 (by
        rw [Nat.div_lt_iff_lt_mul hp, ← Nat.pow_add, show m.log2 - k + 1 + k = m.log2 + 1 by omega]
        exact Nat.lt_log2_self)
      omega
theorem lg_ok {m : Nat} (h1 : 1 ≤ m) (h2 : m < 2 ^ 128) : lg m = m.log2 := by
  unfold lg
  refine lgS_ok h1 h2 rfl fun m1 a1 x1 y1 z1 => ?_
  refine lgS_ok x1 y1 z1 fun m2 a2 x2 y2 z2 => ?_
  refine lgS_ok x2 y2 z2 fun m3 a3 x3 y3 z3 => ?_
  refine lgS_ok x3 y3 z3 fun m4 a4 x4 y4 z4 => ?_
  refine lgS_ok x4 y4 z4 fun m5 a5 x5 y5 z5 => ?_
  refine lgS_ok x5 y5 z5 fun m6 a6 x6 y6 z6 => ?_
  refine lgS_ok x6 y6 z6 fun m7 a7 x7 y7 z7 => ?_
  have : m7 = 1 := by omega
  rw [this] at z7
  have e : Nat.log2 1 = 0 := by decide
  omega
def lgo (m : Nat) : Nat := bif Nat.ble 1 m && Nat.blt m 340282366920938463463374607431768211456 then lg m else m.log2
theorem lgo_eq (m : Nat) : lgo m = m.log2 := by
  unfold lgo
  cases h : (Nat.ble 1 m && Nat.blt m 340282366920938463463374607431768211456)
  · rfl
  · rw [Bool.and_eq_true] at h
    exact lg_ok (ble_iff.1 h.1) (blt_t h.2)
theorem cut_all (m d : Nat) : Toward.even.cut false m d = cutE m d := by
  by_cases h : d ≤ m.log2 + 2
  · exact cut_eq h
  · have hp : 0 < 2 ^ (m.log2 + 2) := Nat.two_pow_pos _
    have hlt : m < 2 ^ (m.log2 + 1) := Nat.lt_log2_self
    have e1 : (2 : Nat) ^ (m.log2 + 2) = 2 * 2 ^ (m.log2 + 1) := by rw [show m.log2 + 2 = m.log2 + 1 + 1 by omega, Nat.pow_succ, Nat.mul_comm]
    have hle : (2 : Nat) ^ (m.log2 + 2) ≤ 2 ^ d := Nat.pow_le_pow_right (by omega) (by omega)
    unfold Toward.cut cutE
    rw [Nat.min_eq_right (by omega), Nat.one_shiftLeft]
    dsimp only
    rw [Nat.div_eq_of_lt (a := m) (b := 2 ^ (m.log2 + 2)) (by omega), Nat.mod_eq_of_lt (a := m) (b := 2 ^ (m.log2 + 2)) (by omega), Nat.div_eq_of_lt (a := m) (b := 2 ^ d) (by omega), Nat.mod_eq_of_lt (a := m) (b := 2 ^ d) (by omega)]
    have f1 : decide (2 ^ (m.log2 + 2) < 2 * m) = false := decide_eq_false (by omega)
    have f2 : (2 ^ (m.log2 + 2) == 2 * m) = false := beq_eq_false_iff_ne.2 (by omega)
    have f3 : Nat.blt (2 ^ d) (2 * m) = false := by rw [Bool.eq_false_iff]; intro h; have := blt_t h; omega
    have f4 : Nat.beq (2 ^ d) (2 * m) = false := by rw [Bool.eq_false_iff]; intro h; have := Nat.eq_of_beq_eq_true h; omega
    rw [f1, f2, f3, f4]
    rfl
def nearestL (f : Format) (neg : Bool) (mag : Nat) (place : Int) : Nat :=
  if mag = 0 then f.word neg 0 else
  forceN (lgo mag) fun l => f.word neg (min ((max (place + l - f.fractionBits) f.leastPlace - f.leastPlace).toNat * f.binade + cutE (mag <<< (place - max (place + l - f.fractionBits) f.leastPlace).toNat) (max (place + l - f.fractionBits) f.leastPlace - place).toNat) f.infRung)
theorem nearestL_eq (f : Format) (neg : Bool) (mag : Nat) (place : Int) : nearestL f neg mag place = f.nearest neg mag place := by
  unfold nearestL Format.nearest
  split
  · rfl
  · rw [force_eq, lgo_eq]
    dsimp only
    rw [cut_even_neg neg, cut_all]
def writeL (f : Format) : Datum → Nat
  | .number neg mag place => nearestL f neg mag place
  | d => f.write d
theorem writeL_eq (f : Format) (d : Datum) : writeL f d = f.write d := by
  cases d with
  | number s m p => exact nearestL_eq f s m p
  | infinity s => rfl
  | nan s t => rfl
def quotientL (digits : Nat) : Datum → Datum → Option Datum
  | .number s m i, .number t n j =>
    if n = 0 then if m = 0 then none else some (.infinity (s ^^ t))
    else
      forceN (digits + lgo n - lgo m) fun more => forceN (m <<< more) fun D =>
      some (.number (s ^^ t) (2 * (D / n) + (D % n != 0).toNat) (i - j - more - 1))
  | d, e => d.quotient digits e
theorem quotientL_eq (digits : Nat) (d e : Datum) : quotientL digits d e = d.quotient digits e := by
  cases d with
  | number s m i =>
    cases e with
    | number t n j =>
      unfold quotientL Datum.quotient
      dsimp only
      rw [force_eq, force_eq, lgo_eq, lgo_eq]
    | infinity t => rfl
    | nan t u => rfl
  | infinity s => cases e <;> rfl
  | nan s u => cases e <;> rfl
def fbL (op : BinOp) (k : FloatKind) (x y : Nat) : Option Nat :=
  match op with
  | .add => ((k.format.read x).sum (k.format.read y)).map (writeL k.format)
  | .sub => ((k.format.read x).sum (k.format.read y).opposite).map (writeL k.format)
  | .mul => ((k.format.read x).product (k.format.read y)).map (writeL k.format)
  | .quo => (quotientL (k.format.fractionBits + 2) (k.format.read x) (k.format.read y)).map (writeL k.format)
  | _ => none
theorem writeL_fun (f : Format) : writeL f = f.write := funext (writeL_eq f)
theorem fbL_eq (op : BinOp) (k : FloatKind) (x y : Nat) : fbL op k x y = floatBits op k x y := by
  unfold fbL floatBits
  rw [writeL_fun]
  cases op <;> first | rfl | (dsimp only; rw [quotientL_eq]; rfl)
def opL (op : BinOp) (k : FloatKind) : Option Nat → Option Nat → Option Nat
  | some x, some y => fbL op k x y
  | _, _ => none
theorem opL_eq (op : BinOp) (k : FloatKind) (x y : Option Nat) : opL op k x y = opF op k x y := by
  unfold opL opF
  cases x <;> cases y <;> first | rfl | exact fbL_eq op k _ _
def upL (x : Option Nat) : Option Nat := x.map fun b => writeL FloatKind.f64.format (FloatKind.f32.decode b)
def dnL (x : Option Nat) : Option Nat := x.map fun b => writeL FloatKind.f32.format (FloatKind.f64.decode b)
theorem upL_eq (x : Option Nat) : upL x = upF x := by
  unfold upL upF
  rw [writeL_fun]
  rfl
theorem dnL_eq (x : Option Nat) : dnL x = dnF x := by
  unfold dnL dnF
  rw [writeL_fun]
  rfl
/-- The word behind an option is reckoned out before it goes on. -/
def outO {α : Type} (o : Option Nat) (k : Option Nat → α) : α := match o with
  | none => k none
  | some n => forceN n fun m => k (some m)
theorem out_eq {α : Type} (o : Option Nat) (k : Option Nat → α) : outO o k = k o := by
  cases o with
  | none => rfl
  | some n => exact force_eq n fun m => k (some m)
def expPL (t : Option Nat) : Nat → Option Nat
  | 0 => some 4607182418800017408
  | j + 1 => outO (expPL t j) fun e => outO (opL .quo .f64 (opL .mul .f64 t e) (some (floatOfInt .f64 ((12 - j : Nat) : Int)))) fun q => opL .add .f64 (some 4607182418800017408) q
theorem expPL_eq (t : Option Nat) : ∀ j, expPL t j = expP t j
  | 0 => rfl
  | j + 1 => by
    unfold expPL expP
    rw [out_eq, out_eq, expPL_eq t j, opL_eq, opL_eq, opL_eq]
def sqPL (p : Option Nat) : Nat → Option Nat
  | 0 => p
  | j + 1 => outO (sqPL p j) fun q => opL .mul .f64 q q
theorem sqPL_eq (p : Option Nat) : ∀ j, sqPL p j = sqP p j
  | 0 => rfl
  | j + 1 => by
    unfold sqPL sqP
    rw [out_eq, sqPL_eq p j, opL_eq]
def exp32L (x : Option Nat) : Option Nat := outO (upL x) fun y => dnL (
  if ordF .f64 y (some 4641240890982006784) == some .gt then some 9218868437227405312
  else if ordF .f64 y (some 13864612927836782592) == some .lt then some 0 else outO (opL .quo .f64 y (some 4643211215818981376)) fun t => outO (expPL t 12) fun e => sqPL e 8)
theorem exp32L_eq (x : Option Nat) : exp32L x = exp32 x := by
  unfold exp32L exp32 expA expB
  rw [out_eq, dnL_eq, upL_eq]
  congr 1
  split
  · rfl
  · split
    · rfl
    · rw [out_eq, out_eq, sqPL_eq, expPL_eq, opL_eq]
def rawL (s : Bool) (R r : Nat) : Option Nat :=
  outO (opL .mul .f64 (some 13826050856027422720) (some (sgw s R))) fun a => outO (opL .mul .f64 a (some (sgw s R))) fun q => outO (exp32L (dnL q)) fun e => outO (opL .mul .f64 (some (sgw s r)) (upL e)) fun m => outO (opL .quo .f64 m (some 4612826843881809669)) fun v => opL .add .f64 (some 4602678819172646912) v
theorem rawL_eq (s : Bool) (R r : Nat) : rawL s R r = opF .add .f64 (some 4602678819172646912) (opF .quo .f64 (opF .mul .f64 (some (sgw s r)) (upF (exp32 (dnF (sqA (some (sgw s R))))))) (some 4612826843881809669)) := by
  unfold rawL sqA
  simp only [out_eq, opL_eq, upL_eq, dnL_eq, exp32L_eq]
def midL (l h : Option Nat) : Option Nat := outO (opL .add .f32 l h) fun s => opL .mul .f32 (some 1056964608) s
theorem midL_eq (l h : Option Nat) : midL l h = midA l h := by
  unfold midL midA
  rw [out_eq, opL_eq, opL_eq]
end Go.Proofs.Ythafpbhjpmnddaa
