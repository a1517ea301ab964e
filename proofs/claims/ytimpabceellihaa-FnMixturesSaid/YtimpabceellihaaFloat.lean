/-
  Floats up to the bits of a NaN: what a word stands for ('absF'), the operations on that, and that the model's operations give just these, whatever NaN the tape picks.
  The walk of laws.sameFloat: words that stand for the same are the same to it.
  Words of float32 and the numbers that they stand for: two words of 32 bits that stand for numbers of one order and one sign are one word.
-/
import Derived.Test.YtimpabceellihaaBase
namespace Go.Proofs.Ytimpabceellihaa
section
open Go.RowKit

section
open Ieee
theorem word_parts (f : Format) (neg : Bool) {rung : Nat} (h : rung < f.signWeight) : (f.word neg rung / f.signWeight % 2 == 1) = neg ∧ f.word neg rung % f.signWeight = rung := by
  have hp : 0 < f.signWeight := Nat.lt_of_le_of_lt (Nat.zero_le _) h
  unfold Format.word
  cases neg
  · simp only [Bool.false_eq_true, if_false]
    rw [Nat.div_eq_of_lt h, Nat.mod_eq_of_lt h]
    simp
  · simp only [if_true]
    rw [Nat.add_comm, Nat.add_div_right _ hp, Nat.div_eq_of_lt h, Nat.add_mod_right, Nat.mod_eq_of_lt h]
    simp

theorem read_word (f : Format) (neg : Bool) {rung : Nat} (h : rung < f.signWeight) : f.read (f.word neg rung) =
    if rung < f.binade then .number neg rung f.leastPlace
    else if rung < f.infRung then .number neg (f.binade + rung % f.binade) (f.leastPlace + (rung / f.binade - 1 : Nat))
    else if rung = f.infRung then .infinity neg
    else .nan neg (rung - f.infRung) := by
  obtain ⟨h1, h2⟩ := word_parts f neg h
  unfold Format.read
  simp only [h1, h2]

theorem nan_word (f : Format) (neg : Bool) {rung : Nat} (h : rung ≤ f.infRung) : (f.read (f.word neg rung)).isNaN = false := by
  rw [read_word f neg (Nat.lt_of_le_of_lt h f.infRung_lt)]
  split
  · rfl
  · split
    · rfl
    · rw [if_pos (by omega)]; rfl

theorem nan_nearest (f : Format) (neg : Bool) (mag : Nat) (place : Int) : (f.read (f.nearest neg mag place)).isNaN = false := by
  unfold Format.nearest
  dsimp only
  split
  · exact nan_word f neg (Nat.zero_le _)
  · exact nan_word f neg (Nat.min_le_right _ _)

theorem nan_write (f : Format) {d : Datum} (h : d.isNaN = false) : (f.read (f.write d)).isNaN = false := by
  cases d with
  | number neg mag place => exact nan_nearest f neg mag place
  | infinity neg => exact nan_word f neg (Nat.le_refl _)
  | nan neg t => cases h

theorem nan_sum {x y d : Datum} (h : x.sum y = some d) : d.isNaN = false := by
  cases x <;> cases y <;> simp only [Datum.sum] at h
  all_goals first | (cases h; rfl) | (split at h <;> first | (cases h; rfl) | cases h) | cases h
theorem nan_product {x y d : Datum} (h : x.product y = some d) : d.isNaN = false := by
  cases x <;> cases y <;> simp only [Datum.product] at h
  all_goals first | (cases h; rfl) | (split at h <;> first | (cases h; rfl) | cases h) | cases h
theorem nan_quotient {k : Nat} {x y d : Datum} (h : x.quotient k y = some d) : d.isNaN = false := by
  cases x <;> cases y <;> simp only [Datum.quotient] at h
  all_goals first | (cases h; rfl) | (split at h <;> first | (split at h <;> first | (cases h; rfl) | cases h) | (cases h; rfl) | cases h) | cases h
theorem nan_map {f : Format} {o : Option Datum} {r : Nat} (hd : ∀ d, o = some d → d.isNaN = false) (h : o.map f.write = some r) : (f.read r).isNaN = false := by
  cases o with
  | none => cases h
  | some d => cases h; exact nan_write f (hd d rfl)

/-- The rung to which a number is rounded. -/
def rungOf (f : Format) (mag : Nat) (place : Int) : Nat :=
  let last := max (place + mag.log2 - f.fractionBits) f.leastPlace
  (last - f.leastPlace).toNat * f.binade + Toward.even.cut false (mag <<< (place - last).toNat) (last - place).toNat

theorem cut_even_neg (neg : Bool) (n d : Nat) : Toward.even.cut neg n d = Toward.even.cut false n d := rfl
theorem nearest_eq (f : Format) (neg : Bool) {mag : Nat} (place : Int) (h : mag ≠ 0) : f.nearest neg mag place = f.word neg (min (rungOf f mag place) f.infRung) := by
  unfold Format.nearest rungOf
  rw [if_neg h]
  simp only [cut_even_neg neg]

/-- A cut is at most one above the quotient. -/
theorem cut_le (n d : Nat) : Toward.even.cut false n d ≤ n / (1 <<< min d (n.log2 + 2)) + 1 := by
  unfold Toward.cut
  dsimp only
  have : ∀ b : Bool, b.toNat ≤ 1 := by intro b; cases b <;> decide
  exact Nat.add_le_add_left (this _) _

theorem rung_le (f : Format) (mag : Nat) (place : Int) :
    rungOf f mag place ≤ ((max (place + mag.log2 - f.fractionBits) f.leastPlace - f.leastPlace).toNat + 2) * f.binade := by
  unfold rungOf
  dsimp only
  obtain ⟨last, hlast⟩ : ∃ l, l = max (place + mag.log2 - f.fractionBits) f.leastPlace := ⟨_, rfl⟩
  rw [← hlast, Nat.add_mul]
  refine Nat.add_le_add_left (Nat.le_trans (cut_le _ _) ?_) _
  have hlt : mag < 2 ^ (mag.log2 + 1) := Nat.lt_log2_self
  have h2 : 2 * f.binade = 2 ^ (f.fractionBits + 1) := by unfold Format.binade; rw [Nat.pow_succ]; omega
  rw [h2]
  refine Nat.succ_le_of_lt ?_
  by_cases hp : last ≤ place
  · have hd : (last - place).toNat = 0 := by omega
    rw [hd, Nat.zero_min, Nat.shiftLeft_zero, Nat.div_one, Nat.shiftLeft_eq]
    have h3 : mag.log2 + 1 + (place - last).toNat ≤ f.fractionBits + 1 := by omega
    calc mag * 2 ^ (place - last).toNat < 2 ^ (mag.log2 + 1) * 2 ^ (place - last).toNat := Nat.mul_lt_mul_of_pos_right hlt (Nat.two_pow_pos _)
      _ = 2 ^ (mag.log2 + 1 + (place - last).toNat) := by rw [← Nat.pow_add]
      _ ≤ 2 ^ (f.fractionBits + 1) := Nat.pow_le_pow_right (by decide) h3
  · have hz : (place - last).toNat = 0 := by omega
    rw [hz, Nat.shiftLeft_zero, Nat.shiftLeft_eq, Nat.one_mul]
    by_cases hm : (last - place).toNat ≤ mag.log2 + 2
    · rw [Nat.min_eq_left hm]
      refine Nat.div_lt_of_lt_mul ?_
      rw [← Nat.pow_add]
      exact Nat.lt_of_lt_of_le hlt (Nat.pow_le_pow_right (by decide) (by omega))
    · rw [Nat.min_eq_right (by omega)]
      have h0 : mag / 2 ^ (mag.log2 + 2) = 0 := Nat.div_eq_of_lt (Nat.lt_of_lt_of_le hlt (Nat.pow_le_pow_right (by decide) (by omega)))
      rw [h0]
      exact Nat.two_pow_pos _

theorem rung_fin (f : Format) {mag : Nat} {place : Int} (h : (max (place + mag.log2 - f.fractionBits) f.leastPlace - f.leastPlace).toNat + 2 < 2 ^ f.exponentBits - 1) : rungOf f mag place < f.infRung :=
  Nat.lt_of_le_of_lt (rung_le f mag place) (Nat.mul_lt_mul_of_pos_right h (Nat.two_pow_pos _))

theorem inf_word (f : Format) (neg : Bool) {rung : Nat} (h : rung < f.infRung) : (f.read (f.word neg rung)).isInfinity = false := by
  rw [read_word f neg (Nat.lt_trans h f.infRung_lt)]
  split
  · rfl
  · first | rfl | (rw [if_pos h]; rfl)

/-- A number far below the format's greatest is not rounded to infinity. -/
theorem inf_nearest (f : Format) (neg : Bool) {mag : Nat} {place : Int} (h : (max (place + mag.log2 - f.fractionBits) f.leastPlace - f.leastPlace).toNat + 2 < 2 ^ f.exponentBits - 1) :
    (f.read (f.nearest neg mag place)).isInfinity = false := by
  by_cases h0 : mag = 0
  · unfold Format.nearest
    rw [if_pos h0]
    exact inf_word f neg (Nat.lt_of_le_of_lt (Nat.zero_le _) (rung_fin f h))
  · rw [nearest_eq f neg place h0, Nat.min_eq_left (Nat.le_of_lt (rung_fin f h))]
    exact inf_word f neg (rung_fin f h)

/-- What a float32 word that is a number reads as. -/
theorem read_bound (b : Nat) {s : Bool} {m : Nat} {e : Int} (h : Ieee.single.read b = .number s m e) : m < 2 ^ 24 ∧ -149 ≤ e ∧ e ≤ 104 := by
  unfold Format.read at h
  dsimp only at h
  have hb : single.binade = 8388608 := rfl
  have hi : single.infRung = 2139095040 := rfl
  have hl : single.leastPlace = -149 := rfl
  rw [hb, hi, hl] at h
  split at h
  · injection h with _ h1 h2; subst h1 h2; omega
  · split at h
    · rename_i hr
      injection h with _ h1 h2; subst h1 h2
      omega
    · split at h <;> cases h
end

/-- What a word stands for: its bits, or that it is a NaN. -/
def absF (k : FloatKind) (b : Nat) : Option Nat := if (k.decode b).isNaN then none else some b
theorem absF_some {k : FloatKind} {b r : Nat} (h : absF k b = some r) : b = r ∧ (k.decode b).isNaN = false := by
  unfold absF at h
  split at h
  · cases h
  · rename_i hn; cases h; exact ⟨rfl, Bool.eq_false_iff.2 hn⟩
theorem absF_none {k : FloatKind} {b : Nat} (h : absF k b = none) : (k.decode b).isNaN = true := by
  unfold absF at h
  split at h
  · assumption
  · cases h
theorem absF_of {k : FloatKind} {b : Nat} (h : (k.decode b).isNaN = false) : absF k b = some b := by simp [absF, h]
theorem absF_nan {k : FloatKind} {b : Nat} (h : (k.decode b).isNaN = true) : absF k b = none := by simp [absF, h]

/-- An operation on what words stand for. -/
def opF (op : BinOp) (k : FloatKind) : Option Nat → Option Nat → Option Nat
  | some x, some y => floatBits op k x y
  | _, _ => none

theorem floatBits_nan {op : BinOp} {k : FloatKind} {x y r : Nat} (h : floatBits op k x y = some r) : (k.decode r).isNaN = false := by
  unfold floatBits at h
  unfold FloatKind.decode
  split at h
  · exact nan_map (fun d hd => nan_sum hd) h
  · exact nan_map (fun d hd => nan_sum hd) h
  · exact nan_map (fun d hd => nan_product hd) h
  · exact nan_map (fun d hd => nan_quotient hd) h
  · cases h

theorem nan_cases {d : Ieee.Datum} (h : d.isNaN = true) : ∃ s t, d = .nan s t := by
  cases d <;> first | exact ⟨_, _, rfl⟩ | cases h
theorem floatBits_left {op : BinOp} {k : FloatKind} {x y : Nat} (h : (k.decode x).isNaN = true) : floatBits op k x y = none := by
  obtain ⟨s, t, e⟩ := nan_cases h
  unfold FloatKind.decode at e
  unfold floatBits
  split <;> simp [Ieee.Format.add, Ieee.Format.sub, Ieee.Format.mul, Ieee.Format.div, e, Ieee.Datum.sum, Ieee.Datum.product, Ieee.Datum.quotient]
theorem floatBits_right {op : BinOp} {k : FloatKind} {x y : Nat} (h : (k.decode y).isNaN = true) : floatBits op k x y = none := by
  obtain ⟨s, t, e⟩ := nan_cases h
  unfold FloatKind.decode at e
  unfold floatBits
  split
  all_goals (try simp only [Ieee.Format.add, Ieee.Format.sub, Ieee.Format.mul, Ieee.Format.div, e])
  all_goals cases k.format.read x <;> simp [Ieee.Datum.sum, Ieee.Datum.product, Ieee.Datum.quotient, Ieee.Datum.opposite]

theorem opF_abs (op : BinOp) (k : FloatKind) (x y : Nat) : opF op k (absF k x) (absF k y) = floatBits op k x y := by
  cases hx : (k.decode x).isNaN
  · cases hy : (k.decode y).isNaN
    · rw [absF_of hx, absF_of hy]; rfl
    · rw [absF_of hx, absF_nan hy, floatBits_right hy]; rfl
  · rw [absF_nan hx, floatBits_left hx]; rfl

/-- The NaN that the tape picks. -/
def nanPick (_k : FloatKind) (q : Question) (w : World) : Nat := q.cut (w.tape w.drawn q)

theorem nan_bits32 (t : Nat) : ((FloatKind.f32.decode ((t % 2) * 2 ^ 31 + 0x7f800000 + 1 + (t / 2) % (2 ^ 23 - 1))).isNaN) = true := by
  have hb : Ieee.single.binade = 8388608 := rfl
  have hi : Ieee.single.infRung = 2139095040 := rfl
  have hs : Ieee.single.signWeight = 2147483648 := rfl
  have hm : ((t % 2) * 2 ^ 31 + 0x7f800000 + 1 + (t / 2) % (2 ^ 23 - 1)) % 2147483648 = 0x7f800000 + 1 + (t / 2) % (2 ^ 23 - 1) := by omega
  unfold FloatKind.decode FloatKind.format Ieee.Format.read
  simp only [hb, hi, hs, hm]
  rw [if_neg (by omega), if_neg (by omega), if_neg (by omega)]
  rfl
theorem nan_bits64 (t : Nat) : ((FloatKind.f64.decode ((t % 2) * 2 ^ 63 + 0x7ff0000000000000 + 1 + (t / 2) % (2 ^ 52 - 1))).isNaN) = true := by
  have hb : Ieee.double.binade = 4503599627370496 := rfl
  have hi : Ieee.double.infRung = 9218868437227405312 := rfl
  have hs : Ieee.double.signWeight = 9223372036854775808 := rfl
  have hm : ((t % 2) * 2 ^ 63 + 0x7ff0000000000000 + 1 + (t / 2) % (2 ^ 52 - 1)) % 9223372036854775808 = 0x7ff0000000000000 + 1 + (t / 2) % (2 ^ 52 - 1) := by omega
  unfold FloatKind.decode FloatKind.format Ieee.Format.read
  simp only [hb, hi, hs, hm]
  rw [if_neg (by omega), if_neg (by omega), if_neg (by omega)]
  rfl

/-- The bits of 'x op y' in a world, and how often it draws. -/
def flR (op : BinOp) (k : FloatKind) (x y : Nat) (w : World) : Nat := (floatBits op k x y).getD ((Question.nanBits k x y).cut (w.tape w.drawn (.nanBits k x y)))
def flN (op : BinOp) (k : FloatKind) (x y : Nat) : Nat := if (floatBits op k x y).isSome then 0 else 1

/-- The four operations, on any words. -/
def fourOp (op : BinOp) : Bool := match op with | .add | .sub | .mul | .quo => true | _ => false

theorem run_fl {P : Program} (op : BinOp) (hop : fourOp op = true) (t : TypeId) (k : FloatKind) (x y : Nat) (w : World) :
    (binOp op t (.float k x) (.float k y)).run P w = .ok (.float k (flR op k x y w)) (w.drewN (flN op k x y)) := by
  cases h : floatBits op k x y with
  | some r =>
    have := run_float_arith (P := P) w op t k x y r h
    simp [flR, flN, h, this, World.drewN_zero]
  | none =>
    unfold flR flN
    rw [h]
    unfold floatBits at h
    cases op <;> simp [fourOp] at hop <;> simp only at h
    all_goals simp [binOp, Op.floatArith, h, choose, Sem.run, Question.forced, Question.cut, World.drewN]

theorem abs_flR (op : BinOp) (_hop : fourOp op = true) (k : FloatKind) (x y : Nat) (w : World) : absF k (flR op k x y w) = opF op k (absF k x) (absF k y) := by
  rw [opF_abs]
  unfold flR
  cases h : floatBits op k x y with
  | some r => exact absF_of (floatBits_nan h)
  | none =>
    simp only [Option.getD_none]
    cases k
    · exact absF_nan (nan_bits32 _)
    · exact absF_nan (nan_bits64 _)

/-! ### Conversions -/
theorem conv_ff {P : Program} (src dst : TypeId) {s k : FloatKind} (hs : (P.underlying src).isSome = true) (hd : P.underlying dst = some (.float k)) (b : Nat) (w : World) :
    (convert src dst (.float s b)).run P w = (Conv.floatToFloat s b k).run P w := by
  obtain ⟨u, hs'⟩ := Option.isSome_iff_exists.1 hs
  cases u <;> simp [convert, run_underlying hs', run_underlying hd]
/-- 'float64(x)' of a float32: never out of range. -/
def upBits (b : Nat) : Nat := FloatKind.f64.encode (FloatKind.f32.decode b)
theorem up_inf (b : Nat) {s : Bool} {m : Nat} {e : Int} (h : FloatKind.f32.decode b = .number s m e) : (FloatKind.f64.decode (FloatKind.f64.encode (.number s m e))).isInfinity = false := by
  obtain ⟨h1, h2, h3⟩ := read_bound b h
  refine inf_nearest Ieee.double s ?_
  have hl : Ieee.double.leastPlace = -1074 := rfl
  have hf : Ieee.double.fractionBits = 52 := rfl
  have he : (2 ^ Ieee.double.exponentBits - 1 : Nat) = 2047 := rfl
  rw [hl, hf, he]
  have hm : m.log2 < 24 := by
    by_cases h0 : m = 0
    · subst h0; decide
    · exact (Nat.log2_lt h0).2 h1
  omega
def upR (b : Nat) (w : World) : Nat := if (FloatKind.f32.decode b).isNaN then (Question.nanConv .f64 b).cut (w.tape w.drawn (.nanConv .f64 b)) else upBits b
def upN (b : Nat) : Nat := if (FloatKind.f32.decode b).isNaN then 1 else 0
theorem run_up {P : Program} (src dst : TypeId) (hs : (P.underlying src).isSome = true) (hd : P.underlying dst = some (.float .f64)) (b : Nat) (w : World) :
    (convert src dst (.float .f32 b)).run P w = .ok (.float .f64 (upR b w)) (w.drewN (upN b)) := by
  cases hn : (FloatKind.f32.decode b).isNaN
  · have hb : floatToFloatBits .f32 b .f64 = some (upBits b) := by
      unfold floatToFloatBits upBits
      rw [if_neg (by decide)]
      cases hd : FloatKind.f32.decode b with
      | nan s t => rw [hd] at hn; cases hn
      | infinity s => rfl
      | number s m e =>
        simp only
        rw [up_inf b hd]
        rfl
    have := run_convert_float_float (P := P) w src dst .f32 .f64 b (upBits b) hs hd hb
    simp [upR, upN, hn, this, World.drewN_zero]
  · obtain ⟨s, t, e⟩ := nan_cases hn
    unfold upR upN
    rw [conv_ff src dst hs hd]
    simp [Conv.floatToFloat, e, Ieee.Datum.isNaN, choose, Sem.run, Question.forced]
    rfl
/-- The same on what words stand for. -/
def upF (x : Option Nat) : Option Nat := x.map upBits
theorem abs_upR (b : Nat) (w : World) : absF .f64 (upR b w) = upF (absF .f32 b) := by
  cases hn : (FloatKind.f32.decode b).isNaN
  · rw [absF_of hn]
    simp only [upR, hn, upF, Option.map_some]
    refine absF_of ?_
    exact nan_write Ieee.double hn
  · rw [absF_nan hn]
    simp only [upR, hn]
    exact absF_nan (nan_bits64 _)

/-- 'float32(x)' of a float64. -/
def dnBits (b : Nat) : Nat := FloatKind.f32.encode (FloatKind.f64.decode b)
/-- Not out of range: the model leaves the result open where a finite number is too great for a float32. -/
def dnOver (b : Nat) : Bool := match FloatKind.f64.decode b with | .number .. => (FloatKind.f32.decode (dnBits b)).isInfinity | _ => false
def dnR (b : Nat) (w : World) : Nat :=
  if (FloatKind.f64.decode b).isNaN then (Question.nanConv .f32 b).cut (w.tape w.drawn (.nanConv .f32 b))
  else if dnOver b then (Question.floatToFloat b).cut (w.tape w.drawn (.floatToFloat b)) else dnBits b
def dnN (b : Nat) : Nat := if (FloatKind.f64.decode b).isNaN || dnOver b then 1 else 0
theorem run_dn {P : Program} (src dst : TypeId) (hs : (P.underlying src).isSome = true) (hd : P.underlying dst = some (.float .f32)) (b : Nat) (w : World) :
    (convert src dst (.float .f64 b)).run P w = .ok (.float .f32 (dnR b w)) (w.drewN (dnN b)) := by
  rw [conv_ff src dst hs hd]
  unfold dnR dnN dnOver dnBits
  cases e : FloatKind.f64.decode b with
  | nan s t =>
    simp [Conv.floatToFloat, e, Ieee.Datum.isNaN, choose, Sem.run, Question.forced]
    rfl
  | infinity s => simp [Conv.floatToFloat, e, Ieee.Datum.isNaN, World.drewN_zero]
  | number s m p =>
    cases ho : (FloatKind.f32.decode (FloatKind.f32.encode (.number s m p))).isInfinity
    · simp [Conv.floatToFloat, e, ho, Ieee.Datum.isNaN, World.drewN_zero]
    · simp [Conv.floatToFloat, e, ho, Ieee.Datum.isNaN, choose, Sem.run, Question.forced]
      rfl
def dnF (x : Option Nat) : Option Nat := x.map dnBits
theorem abs_dnR (b : Nat) (w : World) (ho : dnOver b = false) : absF .f32 (dnR b w) = dnF (absF .f64 b) := by
  cases hn : (FloatKind.f64.decode b).isNaN
  · rw [absF_of hn]
    simp only [dnR, hn, ho, dnF, Option.map_some]
    exact absF_of (nan_write Ieee.single hn)
  · rw [absF_nan hn]
    simp only [dnR, hn]
    exact absF_nan (nan_bits32 _)

/-! ### Comparisons -/
def ordF (k : FloatKind) : Option Nat → Option Nat → Option Ordering
  | some x, some y => k.format.order x y
  | _, _ => none
theorem ord_abs (k : FloatKind) (x y : Nat) : k.format.order x y = ordF k (absF k x) (absF k y) := by
  cases hx : (k.decode x).isNaN
  · cases hy : (k.decode y).isNaN
    · rw [absF_of hx, absF_of hy]; rfl
    · rw [absF_of hx, absF_nan hy]
      obtain ⟨s, t, e⟩ := nan_cases hy
      unfold FloatKind.decode at e
      simp only [ordF, Ieee.Format.order, e]
      cases k.format.read x <;> rfl
  · rw [absF_nan hx]
    obtain ⟨s, t, e⟩ := nan_cases hx
    unfold FloatKind.decode at e
    simp [ordF, Ieee.Format.order, e, Ieee.Datum.order]
theorem ord_refl {k : FloatKind} {x : Nat} (h : (k.decode x).isNaN = false) : k.format.order x x = some .eq := by
  unfold Ieee.Format.order
  unfold FloatKind.decode at h
  cases e : k.format.read x with
  | nan s t => rw [e] at h; cases h
  | infinity s => simp [Ieee.Datum.order]
  | number s m p => simp [Ieee.Datum.order]
theorem ord_nan {k : FloatKind} {x y : Nat} (h : (k.decode x).isNaN = true) : k.format.order x y = none := by
  rw [ord_abs, absF_nan h]; rfl
theorem ord_nan' {k : FloatKind} {x y : Nat} (h : (k.decode y).isNaN = true) : k.format.order x y = none := by
  rw [ord_abs, absF_nan h]; cases absF k x <;> rfl

/-- '1 / x' is no NaN where x is none. -/
theorem one_over {x : Nat} (h : (FloatKind.f64.decode x).isNaN = false) : ∃ r, floatBits .quo .f64 4607182418800017408 x = some r := by
  unfold floatBits Ieee.Format.div
  have h1 : FloatKind.f64.format.read 4607182418800017408 = .number false 4503599627370496 (-52) := by decide
  rw [h1]
  unfold FloatKind.decode at h
  cases e : FloatKind.f64.format.read x with
  | nan s t => rw [e] at h; cases h
  | infinity s => exact ⟨_, rfl⟩
  | number s m p =>
    simp only [Ieee.Datum.quotient]
    by_cases hm : m = 0
    · simp [hm]
    · simp [hm]
end

section
open Go.RowKit

theorem sameFloat_any (a b : Nat) (h : absF .f64 a = absF .f64 b) (w : World) :
    Calls Try.prog 34 #[.float .f64 a, .float .f64 b] w fun e w' => e = .returned (.bool true) ∧ w = w' := by
  cases hx : (FloatKind.f64.decode a).isNaN
  · have ha := absF_of hx
    rw [ha] at h
    obtain ⟨rfl, _⟩ := absF_some h.symm
    clear h ha
    have ho := ord_refl hx
    obtain ⟨r, hr⟩ := one_over hx
    have hrun := fun W => run_float_arith (P := Try.prog) W .quo 42 .f64 4607182418800017408 b r hr
    clear hr hx
    cases hz : (FloatKind.f64.format.order b 0 == some .eq)
    · go_enter Try.func34, Try.ntmps34
      go_wp2
      all_goals go_ret
      all_goals exact ⟨rfl, rfl⟩
    · go_enter Try.func34, Try.ntmps34
      go_wp2
      all_goals go_ret
      all_goals exact ⟨rfl, rfl⟩
  · have hy : (FloatKind.f64.decode b).isNaN = true := by
      refine absF_none ?_
      rw [← h, absF_nan hx]
    have ha := ord_nan (y := a) hx
    have hb := ord_nan (y := b) hy
    clear h hx hy
    go_enter Try.func34, Try.ntmps34
    go_wp2
    all_goals go_ret
    all_goals exact ⟨rfl, rfl⟩
/-- 'float64(x)' in this program's numbers. -/
theorem run_up_ (b : Nat) (W : World) : (convert 39 42 (.float .f32 b)).run Try.prog W = .ok (.float .f64 (upR b W)) (W.drewN (upN b)) := run_up _ _ (by kernel_rfl) Try.underlying42 b W
/-- The four operations as rules of the walk. -/
theorem run_fl_add {P : Program} (t : TypeId) (k : FloatKind) (x y : Nat) (w : World) : (binOp .add t (.float k x) (.float k y)).run P w = .ok (.float k (flR .add k x y w)) (w.drewN (flN .add k x y)) := run_fl .add rfl t k x y w
theorem run_fl_sub {P : Program} (t : TypeId) (k : FloatKind) (x y : Nat) (w : World) : (binOp .sub t (.float k x) (.float k y)).run P w = .ok (.float k (flR .sub k x y w)) (w.drewN (flN .sub k x y)) := run_fl .sub rfl t k x y w
theorem run_fl_mul {P : Program} (t : TypeId) (k : FloatKind) (x y : Nat) (w : World) : (binOp .mul t (.float k x) (.float k y)).run P w = .ok (.float k (flR .mul k x y w)) (w.drewN (flN .mul k x y)) := run_fl .mul rfl t k x y w
theorem run_fl_quo {P : Program} (t : TypeId) (k : FloatKind) (x y : Nat) (w : World) : (binOp .quo t (.float k x) (.float k y)).run P w = .ok (.float k (flR .quo k x y w)) (w.drewN (flN .quo k x y)) := run_fl .quo rfl t k x y w
end

section
open Go.RowKit
open Ieee

theorem read32 (x : Nat) : single.read x = if x % 2147483648 < 8388608 then .number (x / 2147483648 % 2 == 1) (x % 2147483648) (-149)
    else if x % 2147483648 < 2139095040 then .number (x / 2147483648 % 2 == 1) (8388608 + x % 2147483648 % 8388608) (-149 + (x % 2147483648 / 8388608 - 1 : Nat))
    else if x % 2147483648 = 2139095040 then .infinity (x / 2147483648 % 2 == 1) else .nan (x / 2147483648 % 2 == 1) (x % 2147483648 - 2139095040) := by
  have hb : single.binade = 8388608 := rfl
  have hi : single.infRung = 2139095040 := rfl
  have hl : single.leastPlace = -149 := rfl
  have hs : single.signWeight = 2147483648 := rfl
  unfold Format.read
  simp only [hb, hi, hl, hs]
theorem sign_inj {x y : Nat} (hx : x < 4294967296) (hy : y < 4294967296) (h : (x / 2147483648 % 2 == 1) = (y / 2147483648 % 2 == 1)) (hr : x % 2147483648 = y % 2147483648) : x = y := by
  have a : x / 2147483648 % 2 = y / 2147483648 % 2 := by
    have h1 := Nat.mod_two_eq_zero_or_one (x / 2147483648)
    have h2 := Nat.mod_two_eq_zero_or_one (y / 2147483648)
    rcases h1 with h1 | h1 <;> rcases h2 with h2 | h2 <;> rw [h1, h2] at h <;> first | (rw [h1, h2]; done) | (simp at h)
  omega
/-- A number as a word has it. -/
theorem canon {x : Nat} {s : Bool} {m : Nat} {e : Int} (h : single.read x = .number s m e) : (m < 8388608 ∧ e = -149) ∨ (8388608 ≤ m ∧ m < 16777216 ∧ -149 ≤ e) := by
  rw [read32] at h
  split at h
  · injection h with h1 h2 h3; omega
  · split at h
    · injection h with h1 h2 h3
      have := Nat.mod_lt (x % 2147483648) (show 0 < 8388608 by decide)
      right
      omega
    · split at h <;> cases h
theorem read_inj {x y : Nat} (hx : x < 4294967296) (hy : y < 4294967296) (h : single.read x = single.read y) (hn : (single.read x).isNaN = false) : x = y := by
  have hx' := read32 x
  have hy' := read32 y
  have mx := Nat.mod_lt (x % 2147483648) (show 0 < 8388608 by decide)
  have my := Nat.mod_lt (y % 2147483648) (show 0 < 8388608 by decide)
  rw [h] at hx'
  rw [hx'] at hy'
  rw [h, hx'] at hn
  split at hy'
  · split at hy'
    · injection hy' with h1 h2 h3; exact sign_inj hx hy h1 h2
    · split at hy'
      · injection hy' with h1 h2 h3; omega
      · split at hy' <;> cases hy'
  · split at hy'
    · split at hy'
      · injection hy' with h1 h2 h3; omega
      · split at hy'
        · injection hy' with h1 h2 h3
          refine sign_inj hx hy h1 ?_
          omega
        · split at hy' <;> cases hy'
    · split at hy'
      · split at hy'
        · cases hy'
        · split at hy'
          · cases hy'
          · split at hy'
            · injection hy' with h1; exact sign_inj hx hy h1 (by omega)
            · cases hy'
      · rename_i h1 h2 h3
        rw [if_neg h1, if_neg h2, if_neg h3] at hn
        cases hn
theorem same_number {_s : Bool} {m n : Nat} {i j : Int} (hm : (m < 8388608 ∧ i = -149) ∨ (8388608 ≤ m ∧ m < 16777216 ∧ -149 ≤ i)) (hn : (n < 8388608 ∧ j = -149) ∨ (8388608 ≤ n ∧ n < 16777216 ∧ -149 ≤ j))
    (h : m <<< (i - min i j).toNat = n <<< (j - min i j).toNat) : m = n ∧ i = j := by
  rw [Nat.shiftLeft_eq, Nat.shiftLeft_eq] at h
  rcases Int.lt_trichotomy i j with hlt | rfl | hlt
  · have e1 : (i - min i j).toNat = 0 := by omega
    obtain ⟨d, hd⟩ : ∃ d, (j - min i j).toNat = d + 1 := ⟨(j - min i j).toNat - 1, by omega⟩
    rw [e1, hd, Nat.pow_zero, Nat.mul_one, Nat.pow_succ] at h
    have h1 := Nat.one_le_two_pow (n := d)
    have h2 : n * 2 ≤ n * (2 ^ d * 2) := Nat.mul_le_mul_left n (by omega)
    omega
  · have e1 : (i - min i i).toNat = 0 := by omega
    rw [e1, Nat.pow_zero, Nat.mul_one, Nat.mul_one] at h
    exact ⟨h, rfl⟩
  · have e1 : (j - min i j).toNat = 0 := by omega
    obtain ⟨d, hd⟩ : ∃ d, (i - min i j).toNat = d + 1 := ⟨(i - min i j).toNat - 1, by omega⟩
    rw [e1, hd, Nat.pow_zero, Nat.mul_one, Nat.pow_succ] at h
    have h1 := Nat.one_le_two_pow (n := d)
    have h2 : m * 2 ≤ m * (2 ^ d * 2) := Nat.mul_le_mul_left m (by omega)
    omega
/-- What a word's sign is. -/
def negW (x : Nat) : Bool := x / 2147483648 % 2 == 1
theorem neg_read (x : Nat) : (single.read x).neg = negW x := by
  rw [read32]
  unfold negW
  split
  · rfl
  · split
    · rfl
    · split <;> rfl
theorem ord_same {x y : Nat} (hx : x < 4294967296) (hy : y < 4294967296) (h : FloatKind.f32.format.order x y = some .eq) (hs : negW x = negW y) : x = y := by
  have hnx := neg_read x
  have hny := neg_read y
  rw [← hnx, ← hny] at hs
  have h' : (single.read x).order (single.read y) = some .eq := h
  refine read_inj hx hy ?_ ?_
  · cases hx' : single.read x with
    | nan s t => rw [hx'] at h'; cases h'
    | infinity s =>
      rw [hx'] at h' hs
      cases hy' : single.read y with
      | nan t u => rw [hy'] at h'; cases h'
      | infinity t => rw [hy'] at hs; cases hs; rfl
      | number t n j => rw [hy'] at h'; cases s <;> simp [Datum.order] at h'
    | number s m i =>
      rw [hx'] at h' hs
      cases hy' : single.read y with
      | nan t u => rw [hy'] at h'; cases h'
      | infinity t => rw [hy'] at h'; cases t <;> simp [Datum.order] at h'
      | number t n j =>
        rw [hy'] at h' hs
        cases hs
        simp only [Datum.order, Option.some.injEq, Int.compare_eq_eq] at h'
        have hk : m <<< (i - min i j).toNat = n <<< (j - min i j).toNat := by
          change signed s m _ = signed s n _ at h'
          unfold signed at h'
          cases s <;> simp only [Bool.false_eq_true, if_false, if_true] at h' <;> omega
        obtain ⟨rfl, rfl⟩ := same_number (_s := s) (canon hx') (canon hy') hk
        rfl
  · cases hx' : single.read x with
    | nan s t => rw [hx'] at h'; cases h'
    | _ => rfl
end
end Go.Proofs.Ytimpabceellihaa
