/-
  The exponential of what is not above 0: it stands between 0 and 1.
  The walks of impl.exponential, impl.ExpNumber, spec.l01ExpWide, spec.l01Exp.
  How much of a bell is below a number: what both texts compute, and that no step leaves the range.
  The logarithm: what both texts compute, and that no step leaves the range.
  The walks of impl.logarithm, impl.LogNumber, spec.l01LogWide, spec.l01Log.
  The walks of impl.LogNumber, spec.l01LogWide and spec.l01Log.
  What bounds the entropy of a share: chances that nearly make one are at most 2, logarithms and sums stay small.
  EntropyOf, walked in the program and in the reference.
-/
import Derived.Test.YtimpabceellihaaVal2
import Derived.Test.YtimpabceellihaaF32s
import Derived.Test.YtimpabceellihaaShareIs2
import Derived.Test.YtimpabceellihaaMean
namespace Go.Proofs.Ytimpabceellihaa
section
open Go.RowKit

/-- Horner's rounds, from the last. -/
def expP (t : Option Nat) : Nat → Option Nat
  | 0 => some 4607182418800017408
  | j + 1 => opF .add .f64 (some 4607182418800017408) (opF .quo .f64 (opF .mul .f64 t (expP t j)) (some (floatOfInt .f64 ((12 - j : Nat) : Int))))
def sqP (p : Option Nat) : Nat → Option Nat
  | 0 => p
  | j + 1 => opF .mul .f64 (sqP p j) (sqP p j)
def expB (y : Option Nat) : Option Nat := sqP (expP (opF .quo .f64 y (some 4643211215818981376)) 12) 8
def expA (y : Option Nat) : Option Nat :=
  if ordF .f64 y (some 4641240890982006784) == some .gt then some 9218868437227405312
  else if ordF .f64 y (some 13864612927836782592) == some .lt then some 0 else expB y
theorem bet_one : Bet .f64 (some 4607182418800017408) 1 1 := by
  have r : FloatKind.f64.format.read 4607182418800017408 = .number false 4503599627370496 (-52) := by decide
  have v : vD (.number false 4503599627370496 (-52)) = 1 := by
    simp only [vD, sg_f]
    rw [show 4503599627370496 = 2 ^ 52 from rfl, mg_pow, show (-52 : Int) + ((52 : Nat) : Int) = 0 by omega, p2_zero]
  exact bet_of r (by rw [v]; exact Rat.le_refl) (by rw [v]; exact Rat.le_refl)
theorem bet_256 : Bet .f64 (some 4643211215818981376) 256 256 := by
  have r : FloatKind.f64.format.read 4643211215818981376 = .number false 4503599627370496 (-44) := by decide
  have v : vD (.number false 4503599627370496 (-44)) = 256 := by
    simp only [vD, sg_f]
    rw [show 4503599627370496 = 2 ^ 52 from rfl, mg_pow, show (-44 : Int) + ((52 : Nat) : Int) = ((8 : Nat) : Int) by omega, p2_nat]
    rfl
  exact bet_of r (by rw [v]; exact Rat.le_refl) (by rw [v]; exact Rat.le_refl)
theorem repm1 : RepK .f64 (-1) := rep_neg rep1
theorem expP_bet {t : Option Nat} (ht : Bet .f64 t (-1) 0) : ∀ j, j ≤ 12 → Bet .f64 (expP t j) 0 1
  | 0, _ => bet_one.mono (by decide) (by decide)
  | j + 1, hj => by
    have ih := expP_bet ht j (by omega)
    have hm : Bet .f64 (opF .mul .f64 t (expP t j)) (-1) 0 := by
      refine bet_mul ht ih repm1 rep0 ?_
      intro u v u1 u2 v1 v2
      have h1 := Rat.mul_nonneg (a := -u) (b := v) (by grind) v1
      have h2 := Rat.mul_nonneg (a := 1 + u) (b := v) (by grind) v1
      constructor <;> grind
    have hk : Bet .f64 (some (floatOfInt .f64 ((12 - j : Nat) : Int))) 1 16 := by
      have := bet_nat (k := .f64) (n := 12 - j) (a := 0) (b := 4) (by omega) (by omega) (rep64 (by omega) (by omega)) (rep64 (by omega) (by omega))
      rw [p2_nat, p2_nat] at this
      exact this.mono (by decide) (by decide)
    have hq : Bet .f64 (opF .quo .f64 (opF .mul .f64 t (expP t j)) (some (floatOfInt .f64 ((12 - j : Nat) : Int)))) (-1) 0 := by
      refine bet_quo (E := 0) hm hk (by decide) (rep64 (by omega) (by omega)) ?_ (.inr (by rw [p2_zero])) (.inl ⟨Rat.le_refl, rfl⟩)
      intro u v u1 u2 v1 v2
      rw [p2_zero, Rat.one_mul]
      constructor <;> grind
    exact bet_add bet_one hq rep0 rep1 (by grind) (by grind)
theorem sqP_bet {p : Option Nat} (hp : Bet .f64 p 0 1) : ∀ j, Bet .f64 (sqP p j) 0 1
  | 0 => hp
  | j + 1 => by
    have ih := sqP_bet hp j
    refine bet_mul ih ih rep0 rep1 ?_
    intro u v u1 u2 v1 v2
    have h1 := Rat.mul_nonneg u1 v1
    have h2 := Rat.mul_nonneg (a := 1 - u) (b := v) (by grind) v1
    constructor <;> grind
theorem expB_bet {y : Option Nat} (h : Bet .f64 y (-256) 0) : Bet .f64 (expB y) 0 1 := by
  refine sqP_bet (expP_bet ?_ 12 (by omega)) 8
  refine bet_quo (E := 0) h bet_256 (by decide) (rep64 (by omega) (by omega)) ?_ (.inr (by rw [p2_zero])) (.inl ⟨Rat.le_refl, rfl⟩)
  intro u v u1 u2 v1 v2
  rw [p2_zero, Rat.one_mul]
  constructor <;> grind
/-- The exponential of what is not above 0. -/
theorem expA_bet {y : Option Nat} (h : NegS .f64 y) : Bet .f64 (expA y) 0 1 := by
  obtain ⟨b, rfl, h⟩ := h
  have r200 : FloatKind.f64.format.read 4641240890982006784 = .number false 7036874417766400 (-45) := by decide
  have rm200 : FloatKind.f64.format.read 13864612927836782592 = .number true 7036874417766400 (-45) := by decide
  have v200 : 0 ≤ vD (.number false 7036874417766400 (-45)) := mg_nn _ _
  have vm200 : -256 ≤ vD (.number true 7036874417766400 (-45)) := by
    have h1 : mg 7036874417766400 (-45) ≤ mg (2 ^ 53) (-45) := mg_le.2 (by decide)
    rw [mg_pow, show (-45 : Int) + ((53 : Nat) : Int) = ((8 : Nat) : Int) by omega, p2_nat] at h1
    simp only [vD, sg_t]
    have : ((2 ^ 8 : Nat) : Rat) = 256 := rfl
    grind
  unfold expA ordF Ieee.Format.order
  simp only [r200, rm200]
  rcases h with ⟨m, p, e⟩ | e
  · rw [e]
    obtain ⟨c1, c2, c3⟩ := order_cmp true m p false 7036874417766400 (-45)
    obtain ⟨d1, d2, d3⟩ := order_cmp true m p true 7036874417766400 (-45)
    have hv : vD (.number true m p) ≤ 0 := by
      simp only [vD, sg_t]
      have := mg_nn m p
      grind
    have n1 : ((Ieee.Datum.number true m p).order (.number false 7036874417766400 (-45)) == some .gt) = false := by
      rw [beq_eq_false_iff_ne]
      intro h
      have := c2.1 h
      grind
    rw [n1]
    simp only [Bool.false_eq_true, if_false]
    by_cases h : (Ieee.Datum.number true m p).order (.number true 7036874417766400 (-45)) = some .lt
    · rw [h]
      simp only [beq_self_eq_true, if_true]
      have r0 : FloatKind.f64.format.read 0 = .number false 0 (-1074) := by decide
      refine bet_of r0 ?_ ?_ <;> simp only [vD, mg_zero, sg_zero] <;> decide
    · rw [show ((Ieee.Datum.number true m p).order (.number true 7036874417766400 (-45)) == some .lt) = false from by rw [beq_eq_false_iff_ne]; exact h]
      simp only [Bool.false_eq_true, if_false]
      refine expB_bet (bet_of e ?_ hv)
      have hn : ¬ vD (.number true m p) < vD (.number true 7036874417766400 (-45)) := fun h' => h (d1.2 h')
      rw [Rat.not_lt] at hn
      exact Rat.le_trans vm200 hn
  · rw [e]
    have r0 : FloatKind.f64.format.read 0 = .number false 0 (-1074) := by decide
    refine bet_of r0 ?_ ?_ <;> simp only [vD, mg_zero, sg_zero] <;> decide
/-- .. narrowed: never out of range. -/
def exp32 (x : Option Nat) : Option Nat := dnF (expA (upF x))
theorem exp32_bet {x : Option Nat} (h : NegS .f32 x) : Bet .f32 (exp32 x) 0 1 ∧ ∀ w, absF .f64 w = expA (upF x) → dnOver w = false :=
  bet_dn (expA_bet (negS_up h)) rep0 rep1
end

section
open Go.RowKit
attribute [local go_sem] run_fl_add run_fl_sub run_fl_mul run_fl_quo run_up_

abbrev dV (b : Nat) : Value := .float .f64 b
/-- The whole numbers as float64s, from 0 on. -/
def iF (n : Nat) : Nat := floatOfInt .f64 (n : Int)
theorem absD {b : Nat} (h : (FloatKind.f64.decode b).isNaN = false) : absF .f64 b = some b := absF_of h
theorem iF_tab : ∀ n, n < 256 → (FloatKind.f64.decode (iF n)).isNaN = false ∧ floatBits .sub .f64 (iF (n + 1)) 4607182418800017408 = some (iF n) ∧ floatBits .add .f64 (iF n) 4607182418800017408 = some (iF (n + 1)) ∧ (FloatKind.f64.format.order (iF (n + 1)) 4607182418800017408 == some .gt || FloatKind.f64.format.order (iF (n + 1)) 4607182418800017408 == some .eq) = true ∧ iF n < iF (n + 1) := by decide +kernel
theorem iF_nan {n : Nat} (h : n < 256) : absF .f64 (iF n) = some (iF n) := absD (iF_tab n h).1
theorem flR_some {op : BinOp} {k : FloatKind} {x y r : Nat} (h : floatBits op k x y = some r) (w : World) : flR op k x y w = r := by unfold flR; rw [h]; rfl
theorem iF_down {n : Nat} (h : n < 256) (w : World) : flR .sub .f64 (iF (n + 1)) 4607182418800017408 w = iF n := flR_some (iF_tab n h).2.1 w
theorem iF_up {n : Nat} (h : n < 256) (w : World) : flR .add .f64 (iF n) 4607182418800017408 w = iF (n + 1) := flR_some (iF_tab n h).2.2.1 w

theorem run_frombits64 (b : Nat) (w : World) : (callFunc 70 #[.int .u64 (b : Int)]).run Try.prog w = .ok (.value (.float .f64 b)) w := by kernel_rfl
theorem mathInf_any (w : World) : Calls Try.prog 60 #[.int .i64 1] w fun e w' => e = .returned (dV 9218868437227405312) ∧ w = w' := by
  have hr : ∀ w, (callFunc 70 #[.int .u64 9218868437227405312]).run Try.prog w = .ok (.value (.float .f64 9218868437227405312)) w := run_frombits64 9218868437227405312
  go_enter Try.func60, Try.ntmps60
  go_wp2
  go_ret
  exact ⟨rfl, rfl⟩
theorem iF12 : dV 4622945017495814144 = dV (iF 12) := by
  have : iF 12 = 4622945017495814144 := by decide +kernel
  rw [this]
def wordF : Value → Nat | .float _ b => b | _ => 0
theorem wordF_f (b : Nat) : wordF (dV b) = b := rfl
set_option maxHeartbeats 1600000 in
theorem exponential_any (y : Nat) (w : World) : Calls Try.prog 67 #[dV y] w fun e w' => ∃ b, e = .returned (dV b) ∧ absF .f64 b = expA (absF .f64 y) ∧ ∃ n, w.drewN n = w' := by
  unfold expA
  rw [← absD (b := 4641240890982006784) (by decide), ← absD (b := 13864612927836782592) (by decide), ← ord_abs, ← ord_abs]
  cases h1 : (FloatKind.f64.format.order y 4641240890982006784 == some .gt)
  · cases h2 : (FloatKind.f64.format.order y 13864612927836782592 == some .lt)
    · go_enter Try.func67, Try.ntmps67
      go_wp2
      go_loopw [4, 5] (fun sp sk wr => ∃ (n p : Nat), n ≤ 12 ∧ sp = dV p ∧ sk = dV (iF n) ∧ Hid (absF .f64 p = expP (opF .quo .f64 (absF .f64 y) (some 4643211215818981376)) (12 - n)) ∧ ∃ n, w.drewN n = wr) (fun _ sk _ => wordF sk)
      case atStart => exact ⟨12, _, by omega, rfl, iF12, by unfold Hid; rw [Nat.sub_self, expP]; exact absD (by decide), _, rfl⟩
      case round =>
        obtain ⟨n, p, hn, rfl, rfl, hp, q, rfl⟩ := hrel
        cases n with
        | succ n =>
          obtain ⟨-, t2, -, t4, t5⟩ := iF_tab n (by omega)
          have HT2 := Lib.hid t2
          have HT5 := Lib.hid t5
          clear t2 t5
          go_wp2
          go_roundw
          case rel =>
            refine ⟨n, _, by omega, rfl, ?_, ?_, _, rfl⟩
            · rw [flR_some HT2.out]
            · have e : 12 - n = (12 - (n + 1)) + 1 := by omega
              unfold Hid
              rw [e, abs_flR .add rfl, abs_flR .quo rfl, abs_flR .mul rfl, hp.out, absD (b := 4607182418800017408) (by decide), abs_flR .quo rfl, absD (b := 4643211215818981376) (by decide), iF_nan (n := n + 1) (by omega)]
              rw [expP, show 12 - (12 - (n + 1)) = n + 1 by omega, iF]
          case measure =>
            rw [wordF_f, wordF_f, flR_some HT2.out]
            exact HT5.out
        | zero =>
          have t4 : (FloatKind.f64.format.order (iF 0) 4607182418800017408 == some .gt || FloatKind.f64.format.order (iF 0) 4607182418800017408 == some .eq) = false := by decide
          go_wp2
          go_loopw [4, 25] (fun sp sk wr => ∃ (j p : Nat), j ≤ 8 ∧ sp = dV p ∧ sk = .int .i64 j ∧ Hid (absF .f64 p = sqP (expP (opF .quo .f64 (absF .f64 y) (some 4643211215818981376)) 12) j) ∧ ∃ n, w.drewN n = wr) (fun _ sk _ => 8 - (intOf sk).toNat)
          case atStart => exact ⟨0, _, by omega, rfl, rfl, by unfold Hid; rw [sqP]; exact hp.out, _, rfl⟩
          case round =>
            obtain ⟨j, p, hj, rfl, rfl, hp, q, rfl⟩ := hrel
            by_cases hlt : j < 8
            · go_wp2
              go_roundw
              case rel => exact ⟨j + 1, _, by omega, rfl, by go_num, by unfold Hid; rw [abs_flR .mul rfl, hp.out, sqP], _, rfl⟩
              case measure => simp [intOf]; omega
            · have hje : j = 8 := by omega
              subst hje
              go_wp2
              go_ret
              refine ⟨_, rfl, ?_, _, rfl⟩
              unfold expB
              exact hp.out
    · go_enter Try.func67, Try.ntmps67
      go_wp2
      go_ret
      exact ⟨_, rfl, absD (by decide), 0, rfl⟩
  · go_enter Try.func67, Try.ntmps67
    go_wp2_with (go_at_call 60; refine (mathInf_any _).mono ?_; rintro e w' ⟨rfl, rfl⟩)
    go_ret
    exact ⟨_, rfl, absD (by decide), 0, rfl⟩
set_option maxHeartbeats 1600000 in
set_option maxRecDepth 4096 in
theorem l01ExpWide_any (y : Nat) (w : World) : Calls Try.prog 63 #[dV y] w fun e w' => ∃ b, e = .returned (dV b) ∧ absF .f64 b = expA (absF .f64 y) ∧ ∃ n, w.drewN n = w' := by
  cases hn : (FloatKind.f64.format.order y y != some .eq)
  case true =>
    have hz : absF .f64 y = none := by
      refine absF_nan ?_
      rw [← Bool.not_eq_false]
      intro h
      have := ord_refl (k := .f64) h
      rw [this] at hn
      cases hn
    go_enter Try.func63, Try.ntmps63
    go_wp2
    go_ret
    exact ⟨_, rfl, by rw [hz]; rfl, 0, rfl⟩
  unfold expA
  rw [← absD (b := 4641240890982006784) (by decide), ← absD (b := 13864612927836782592) (by decide), ← ord_abs, ← ord_abs]
  cases h1 : (FloatKind.f64.format.order y 4641240890982006784 == some .gt)
  · cases h2 : (FloatKind.f64.format.order y 13864612927836782592 == some .lt)
    · go_enter Try.func63, Try.ntmps63
      go_wp2
      go_loopw [4, 5] (fun sp sk wr => ∃ (n p : Nat), n ≤ 12 ∧ sp = dV p ∧ sk = .int .i64 (n : Int) ∧ Hid (absF .f64 p = expP (opF .quo .f64 (absF .f64 y) (some 4643211215818981376)) (12 - n)) ∧ ∃ n, w.drewN n = wr) (fun _ sk _ => (intOf sk).toNat)
      case atStart => exact ⟨12, _, by omega, rfl, rfl, by unfold Hid; rw [Nat.sub_self, expP]; exact absD (by decide), _, rfl⟩
      case round =>
        obtain ⟨n, p, hn, rfl, rfl, hp, q, rfl⟩ := hrel
        cases n with
        | succ n =>
          go_wp2
          go_roundw
          case rel =>
            refine ⟨n, _, by omega, rfl, by go_num, ?_, _, rfl⟩
            have e : 12 - n = (12 - (n + 1)) + 1 := by omega
            have e2 : absF .f64 (floatOfInt .f64 ((n + 1 : Nat) : Int)) = some (floatOfInt .f64 ((n + 1 : Nat) : Int)) := iF_nan (n := n + 1) (by omega)
            unfold Hid
            rw [e, abs_flR .add rfl, abs_flR .quo rfl, abs_flR .mul rfl, hp.out, absD (b := 4607182418800017408) (by decide), abs_flR .quo rfl, absD (b := 4643211215818981376) (by decide), show (n : Int) + 1 = ((n + 1 : Nat) : Int) from rfl, e2]
            rw [expP, show 12 - (12 - (n + 1)) = n + 1 by omega]
          case measure => simp [intOf]
        | zero =>
          go_wp2
          go_loopw [4, 6] (fun sp sk wr => ∃ (j p : Nat), j ≤ 8 ∧ sp = dV p ∧ sk = .int .i64 j ∧ Hid (absF .f64 p = sqP (expP (opF .quo .f64 (absF .f64 y) (some 4643211215818981376)) 12) j) ∧ ∃ n, w.drewN n = wr) (fun _ sk _ => 8 - (intOf sk).toNat)
          case atStart => exact ⟨0, _, by omega, rfl, rfl, by unfold Hid; rw [sqP]; exact hp.out, _, rfl⟩
          case round =>
            obtain ⟨j, p, hj, rfl, rfl, hp, q, rfl⟩ := hrel
            by_cases hlt : j < 8
            · go_wp2
              go_roundw
              case rel => exact ⟨j + 1, _, by omega, rfl, by go_num, by unfold Hid; rw [abs_flR .mul rfl, hp.out, sqP], _, rfl⟩
              case measure => simp [intOf]; omega
            · have hje : j = 8 := by omega
              subst hje
              go_wp2
              go_ret
              refine ⟨_, rfl, ?_, _, rfl⟩
              unfold expB
              exact hp.out
    · go_enter Try.func63, Try.ntmps63
      go_wp2
      go_ret
      exact ⟨_, rfl, absD (by decide), 0, rfl⟩
  · go_enter Try.func63, Try.ntmps63
    go_wp2_with (go_at_call 60; refine (mathInf_any _).mono ?_; rintro e w' ⟨rfl, rfl⟩)
    go_ret
    exact ⟨_, rfl, absD (by decide), 0, rfl⟩
theorem run_dn_ (b : Nat) (W : World) : (convert 42 39 (.float .f64 b)).run Try.prog W = .ok (.float .f32 (dnR b W)) (W.drewN (dnN b)) := run_dn _ _ (by kernel_rfl) Try.underlying39 b W
attribute [local go_sem] run_dn_
set_option maxRecDepth 4096 in
theorem expNumber_any (x : Nat) (hx : NegS .f32 (absF .f32 x)) (w : World) : Calls Try.prog 53 #[fV x] w fun e w' => ∃ b, e = .returned (fV b) ∧ absF .f32 b = exp32 (absF .f32 x) ∧ ∃ n, w.drewN n = w' := by
  have HE := Lib.hid (exp32_bet hx).2
  clear hx
  go_enter Try.func53, Try.ntmps53
  go_wp2_with (go_at_call 67; refine (exponential_any _ _).mono ?_; rintro e w' ⟨b, rfl, hb, n, rfl⟩)
  have HB := Lib.hid hb
  clear hb
  go_wp2
  go_ret
  refine ⟨_, rfl, ?_, _, rfl⟩
  rw [abs_upR] at HB
  rw [abs_dnR _ _ (HE.out _ HB.out), HB.out]
  rfl
theorem l01Narrow_any (y : Nat) (ho : dnOver y = false) (w : World) : Calls Try.prog 50 #[dV y] w fun e w' => ∃ b, e = .returned (fV b) ∧ absF .f32 b = dnF (absF .f64 y) ∧ ∃ n, w.drewN n = w' := by
  have HO := Lib.hid ho
  clear ho
  go_enter Try.func50, Try.ntmps50
  go_wp2
  go_ret
  exact ⟨_, rfl, abs_dnR _ _ HO.out, _, rfl⟩
set_option maxRecDepth 4096 in
theorem l01Exp_any (x : Nat) (hx : NegS .f32 (absF .f32 x)) (w : World) : Calls Try.prog 49 #[fV x] w fun e w' => ∃ b, e = .returned (fV b) ∧ absF .f32 b = exp32 (absF .f32 x) ∧ ∃ n, w.drewN n = w' := by
  have HE := Lib.hid (exp32_bet hx).2
  clear hx
  go_enter Try.func49, Try.ntmps49
  go_wp2_with (go_at_call 63; refine (l01ExpWide_any _ _).mono ?_; rintro e w' ⟨b, rfl, hb, n, rfl⟩)
  rw [abs_upR] at hb
  have HB := Lib.hid hb
  have ho := Lib.hid (HE.out _ hb)
  clear hb
  go_wp2_with (go_at_call 50; refine (l01Narrow_any _ ho.out _).mono ?_; rintro e w' ⟨c, rfl, hc, m, rfl⟩)
  have HC := Lib.hid hc
  clear hc
  go_wp2
  go_ret
  refine ⟨_, rfl, ?_, _, rfl⟩
  rw [HC.out, HB.out]
  rfl
end

section
open Go.RowKit

def termA (X : Option Nat) : Nat → Option Nat
  | 0 => X
  | k + 1 => opF .quo .f64 (opF .mul .f64 (opF .mul .f64 (termA X k) X) X) (some (iF (2 * k + 3)))
def sumA (X : Option Nat) : Nat → Option Nat
  | 0 => X
  | k + 1 => opF .add .f64 (sumA X k) (termA X (k + 1))
/-- Minus half of the square. -/
def sqA (X : Option Nat) : Option Nat := opF .mul .f64 (opF .mul .f64 (some 13826050856027422720) X) X
def rawA (X : Option Nat) : Option Nat := opF .add .f64 (some 4602678819172646912) (opF .quo .f64 (opF .mul .f64 (sumA X 120) (upF (exp32 (dnF (sqA X))))) (some 4612826843881809669))
def clampA (y : Option Nat) : Option Nat :=
  if ordF .f32 y (some 0) == some .lt then some 0 else if ordF .f32 y (some 1065353216) == some .gt then some 1065353216 else y
def bellA (x : Option Nat) : Option Nat :=
  if ordF .f32 x (some 3233808384) == some .lt then some 0 else if ordF .f32 x (some 1086324736) == some .gt then some 1065353216 else clampA (dnF (rawA (upF x)))

/-- Below which power of two a term is. -/
def eK : Nat → Nat
  | 0 => 3
  | k + 1 => eK k + 6 - (2 * k + 3).log2
theorem eK_tab : ∀ k, k ≤ 120 → eK k ≤ 62 ∧ (2 * k + 3).log2 ≤ eK k + 6 ∧ 2 ^ (2 * k + 3).log2 ≤ 2 * k + 3 ∧ 2 * k + 3 ≤ 2 ^ 8 ∧ (2 * k + 3).log2 ≤ 8 := by decide +kernel
theorem sym_mul {u v a b : Rat} (hu1 : -a ≤ u) (hu2 : u ≤ a) (hv1 : -b ≤ v) (hv2 : v ≤ b) : -(a * b) ≤ u * v ∧ u * v ≤ a * b := by
  have h1 := Rat.mul_nonneg (a := a - u) (b := b - v) (by grind) (by grind)
  have h2 := Rat.mul_nonneg (a := a + u) (b := b + v) (by grind) (by grind)
  have h3 := Rat.mul_nonneg (a := a - u) (b := b + v) (by grind) (by grind)
  have h4 := Rat.mul_nonneg (a := a + u) (b := b - v) (by grind) (by grind)
  constructor <;> grind
/-- A product of what stands between powers of two. -/
theorem bet_mul2 {k : FloatKind} {x y : Option Nat} {E F : Int} (hx : Bet k x (-p2 E) (p2 E)) (hy : Bet k y (-p2 F) (p2 F)) (h : RepK k (p2 (E + F))) : Bet k (opF .mul k x y) (-p2 (E + F)) (p2 (E + F)) := by
  refine bet_mul hx hy (rep_neg h) h ?_
  intro u v u1 u2 v1 v2
  rw [p2_add]
  exact sym_mul u1 u2 v1 v2
theorem termA_bet {X : Option Nat} (hX : Bet .f64 X (-p2 3) (p2 3)) : ∀ k, k ≤ 120 → Bet .f64 (termA X k) (-p2 (eK k)) (p2 (eK k))
  | 0, _ => hX
  | k + 1, hk => by
    have ih := termA_bet hX k (by omega)
    obtain ⟨t1, t2, t3, t4, t5⟩ := eK_tab k (by omega)
    have m1 := bet_mul2 ih hX (rep64 (by omega) (by omega))
    have m2 := bet_mul2 m1 hX (rep64 (by omega) (by omega))
    have hn := bet_nat (k := .f64) (n := 2 * k + 3) (a := (2 * k + 3).log2) (b := 8) t3 t4 (rep64 (by omega) (by omega)) (rep64 (by omega) (by omega))
    have he : ((eK (k + 1) : Nat) : Int) = (eK k : Int) + 3 + 3 - ((2 * k + 3).log2 : Nat) := by
      show ((eK k + 6 - (2 * k + 3).log2 : Nat) : Int) = _
      omega
    refine bet_quo (E := (eK (k + 1) : Nat)) m2 hn (p2_pos _) (rep64 (by omega) (by omega)) ?_ (.inr rfl) (.inr rfl)
    intro u v u1 u2 v1 v2
    have hpv : p2 ((eK (k + 1) : Nat) : Int) * p2 (((2 * k + 3).log2 : Nat) : Int) = p2 ((eK k : Int) + 3 + 3) := by
      rw [← p2_add]
      congr 1
      omega
    have := Rat.mul_le_mul_of_nonneg_left v1 (p2_nn ((eK (k + 1) : Nat) : Int))
    rw [hpv] at this
    constructor <;> grind
theorem rep_cnt {n : Nat} (h0 : n ≠ 0) (h : n < 256) : RepK .f64 (mg n 62) := by
  have hl : n.log2 < 8 := (Nat.log2_lt h0).2 h
  refine rep_mg h0 ?_ ?_ ?_
  · show n.log2 ≤ 52; omega
  · show (-1074 : Int) ≤ 62 - ((52 - n.log2 : Nat) : Int); omega
  · show (62 - ((52 - n.log2 : Nat) : Int) - (-1074)).toNat + 2 < 2047; omega
theorem mg_succ (n : Nat) (p : Int) : mg (n + 1) p = mg n p + p2 p := by
  unfold mg
  rw [Rat.natCast_add, Rat.add_mul]
  congr 1
  exact Rat.one_mul _
theorem sumA_bet {X : Option Nat} (hX : Bet .f64 X (-p2 3) (p2 3)) : ∀ k, k ≤ 120 → Bet .f64 (sumA X k) (-mg (k + 1) 62) (mg (k + 1) 62)
  | 0, _ => by
    have h : p2 3 ≤ mg 1 62 := by rw [mg_one]; exact p2_mono (by omega)
    exact hX.mono (by grind) h
  | k + 1, hk => by
    have ih := sumA_bet hX k (by omega)
    have ht := termA_bet hX (k + 1) hk
    have he : p2 (eK (k + 1) : Nat) ≤ p2 62 := p2_mono (by have := (eK_tab (k + 1) (by omega)).1; omega)
    have hr := rep_cnt (n := k + 1 + 1) (by omega) (by omega)
    have hs := mg_succ (k + 1) 62
    refine bet_add ih ht (rep_neg hr) hr ?_ ?_ <;> grind
theorem bet_lit {k : FloatKind} {b m : Nat} {s : Bool} {p : Int} (h : k.format.read b = .number s m p) : Bet k (some b) (vD (.number s m p)) (vD (.number s m p)) := bet_of h Rat.le_refl Rat.le_refl
theorem bet_half : Bet .f64 (some 4602678819172646912) (p2 (-1)) (p2 (-1)) := by
  have := bet_lit (k := .f64) (b := 4602678819172646912) (m := 2 ^ 52) (s := false) (p := -53) (by decide)
  simp only [vD, sg_f] at this
  rwa [mg_pow] at this
theorem bet_mhalf : Bet .f64 (some 13826050856027422720) (-p2 (-1)) (-p2 (-1)) := by
  have := bet_lit (k := .f64) (b := 13826050856027422720) (m := 2 ^ 52) (s := true) (p := -53) (by decide)
  simp only [vD, sg_t] at this
  rwa [mg_pow] at this
theorem bet_root : Bet .f64 (some 4612826843881809669) (p2 1) (p2 2) := by
  have := bet_lit (k := .f64) (b := 4612826843881809669) (m := 5644425081792261) (s := false) (p := -51) (by decide)
  simp only [vD, sg_f] at this
  refine this.mono ?_ ?_
  · have h := (mg_le (p := -51)).2 (show 2 ^ 52 ≤ 5644425081792261 by decide)
    rwa [mg_pow] at h
  · have h := (mg_le (p := -51)).2 (show 5644425081792261 ≤ 2 ^ 53 by decide)
    rwa [mg_pow] at h

theorem WBet.fin {f : Ieee.Format} {b : Nat} {lo hi : Rat} {s : Bool} (h : WBet f b lo hi) : f.read b ≠ .infinity s := by
  obtain ⟨_, _, _, e, _⟩ := h.read
  rw [e]
  intro h
  cases h
/-- Minus a part of the square of what is no NaN. -/
theorem negS_sq {k : FloatKind} {c mc : Nat} {pc : Int} (hc : k.format.read c = .number true mc pc) (hm : mc ≠ 0) (h1 : mg mc pc ≤ 1) {x : Nat} (hx : (k.decode x).isNaN = false) : NegS k (opF .mul k (opF .mul k (some c) (some x)) (some x)) := by
  cases e : k.format.read x with
  | nan s t =>
    have : (k.decode x).isNaN = true := by
      show (k.format.read x).isNaN = true
      rw [e]; rfl
    rw [this] at hx
    cases hx
  | infinity s =>
    have p1 : opF .mul k (some c) (some x) = some (k.format.word (s ^^ true) k.format.infRung) := by
      show ((k.format.read c).product (k.format.read x)).map k.format.write = _
      rw [hc, e]
      simp only [Ieee.Datum.product, if_neg hm]
      rfl
    have hinf := k.format.infRung_lt
    have r1 : k.format.read (k.format.word (s ^^ true) k.format.infRung) = .infinity (s ^^ true) := by
      rw [read_word _ _ hinf, if_neg (by have := binade_le k; omega), if_neg (by omega), if_pos rfl]
    rw [p1]
    have p2 : opF .mul k (some (k.format.word (s ^^ true) k.format.infRung)) (some x) = some (k.encode (.infinity true)) := by
      show ((k.format.read _).product (k.format.read x)).map k.format.write = _
      rw [r1, e]
      simp only [Ieee.Datum.product]
      cases s <;> rfl
    rw [p2]
    exact negS_enc k (.inr rfl)
  | number s m p =>
    have p1 : opF .mul k (some c) (some x) = some (k.format.nearest (true ^^ s) (mc * m) (pc + p)) := by
      show ((k.format.read c).product (k.format.read x)).map k.format.write = _
      rw [hc, e]
      rfl
    have hle : mg (mc * m) (pc + p) ≤ mg m p := by
      rw [← mg_mul]
      have := Rat.mul_le_mul_of_nonneg_right h1 (mg_nn m p)
      rwa [Rat.one_mul] at this
    have hr : RepK k (mg m p) := by
      have := rep_of e
      cases s
      · exact this
      · have := rep_neg this
        simp only [vD, sg_t, Rat.neg_neg] at this
        exact this
    have hz := mg_nn (mc * m) (pc + p)
    have hb : WBet k.format (k.format.nearest (true ^^ s) (mc * m) (pc + p)) (-mg m p) (mg m p) := by
      refine near_bet (inf_pos k) (rep_neg hr) hr ?_ ?_
      · simp only [vD]
        cases s <;> simp only [Bool.xor_false, Bool.xor_true, Bool.not_true, sg_t, sg_f] <;> grind
      · simp only [vD]
        cases s <;> simp only [Bool.xor_false, Bool.xor_true, Bool.not_true, sg_t, sg_f] <;> grind
    obtain ⟨r, e1, hr1, h | h⟩ := near_sign k (true ^^ s) (mc * m) (pc + p)
    · rw [p1]
      have p2 : opF .mul k (some (k.format.nearest (true ^^ s) (mc * m) (pc + p))) (some x) = some (k.encode (.number ((true ^^ s) ^^ s) (rM k.format r * m) (k.format.leastPlace + rJ k.format r + p))) := by
        show ((k.format.read _).product (k.format.read x)).map k.format.write = _
        rw [h.2, e]
        rfl
      rw [p2]
      exact negS_enc k (.inl ⟨_, _, by cases s <;> rfl⟩)
    · exact absurd h hb.fin
theorem mhalf64 : FloatKind.f64.format.read 13826050856027422720 = .number true (2 ^ 52) (-53) := by decide
theorem mhalf_le : mg (2 ^ 52) (-53) ≤ 1 := by
  rw [mg_pow, ← p2_zero]
  exact p2_mono (by omega)
theorem negS_dn {y : Option Nat} (h : NegS .f64 y) : NegS .f32 (dnF y) := by
  obtain ⟨b, rfl, h⟩ := h
  exact negS_enc .f32 h
/-- A half and what stands around: the sign is clear where it is nearly 0. -/
theorem half_add {z : Nat} (hz : Bet .f64 (some z) (-p2 69) (p2 69)) : ∃ w, opF .add .f64 (some 4602678819172646912) (some z) = some w ∧ WBet FloatKind.f64.format w (-p2 70) (p2 70) ∧ ((∃ m p, FloatKind.f64.format.read w = .number false m p) ∨ WBet FloatKind.f64.format w (-p2 70) (-p2 (-53))) := by
  obtain ⟨z', e, hz⟩ := hz
  cases e
  obtain ⟨t, n, j, ez, z1, z2⟩ := hz.read
  have rh : FloatKind.f64.format.read 4602678819172646912 = .number false (2 ^ 52) (-53) := by decide
  have hmin : p2 69 + p2 69 = p2 70 := by
    have h1 := mg_succ 1 69
    have h2 := mg_pow 1 69
    rw [mg_one] at h1
    rw [← h1]
    exact h2
  have hhv : vD (.number false (2 ^ 52) (-53)) = p2 (-1) := by
    simp only [vD, sg_f]
    exact mg_pow 52 (-53)
  have hhp : p2 (-1) ≤ p2 69 := p2_mono (by omega)
  have hhn := p2_pos (-1)
  obtain ⟨r, l, p, es, hs⟩ := sum_val false (2 ^ 52) (-53) t n j
  rw [hhv] at hs
  have ew : opF .add .f64 (some 4602678819172646912) (some z) = some (FloatKind.f64.format.nearest r l p) := by
    show ((FloatKind.f64.format.read _).sum (FloatKind.f64.format.read z)).map FloatKind.f64.format.write = _
    rw [rh, ez, es]
    rfl
  have hw : WBet FloatKind.f64.format (FloatKind.f64.format.nearest r l p) (-p2 70) (p2 70) := by
    have h70 := rep64 (E := 70) (by omega) (by omega)
    refine near_bet (inf_pos .f64) (rep_neg h70) h70 ?_ ?_ <;> rw [hs] <;> grind
  refine ⟨_, ew, hw, ?_⟩
  cases r
  · left
    obtain ⟨r, e1, hr1, h | h⟩ := near_sign .f64 false l p
    · exact ⟨_, _, h.2⟩
    · exact absurd h hw.fin
  · right
    have hneg : vD (.number true l p) < 0 ∧ p = min (-53) j := by
      have := es
      simp only [Ieee.Datum.sum, Option.some.injEq, Ieee.Datum.number.injEq] at this
      obtain ⟨h1, h2, h3⟩ := this
      refine ⟨?_, h3.symm⟩
      have hl : l ≠ 0 := by
        rintro rfl
        have : (Ieee.signed false (2 ^ 52) (-53 - min (-53) j).toNat + Ieee.signed t n (j - min (-53) j).toNat) = 0 := by omega
        rw [if_pos this] at h1
        cases h1
      have := mg_pos hl p
      simp only [vD, sg_t]
      grind
    obtain ⟨hneg, hp⟩ := hneg
    have hjj : -53 ≤ j := by
      obtain ⟨R, hR, hn, hj⟩ := rung_of ez
      rcases Int.lt_or_le j (-53) with h | h
      · exfalso
        have h1 : n < 2 ^ 53 := by
          rw [hn]
          exact rM_lt FloatKind.f64.format R
        have h2 := (mg_lt (p := j)).2 h1
        rw [mg_pow] at h2
        have h3 : p2 (j + ((53 : Nat) : Int)) ≤ p2 (-1) := p2_mono (by omega)
        have hnn := mg_nn n j
        rw [hs] at hneg
        cases t
        · simp only [vD, sg_f] at hneg
          grind
        · simp only [vD, sg_t] at hneg
          grind
      · exact h
    have hpe : p = -53 := by omega
    subst hpe
    have hl : l ≠ 0 := by
      rintro rfl
      simp only [vD, mg_zero, sg_zero] at hneg
      exact absurd hneg Rat.lt_irrefl
    have hle : vD (.number true l (-53)) ≤ -p2 (-53) := by
      have := (mg_le (p := -53)).2 (Nat.one_le_iff_ne_zero.2 hl)
      rw [mg_one] at this
      simp only [vD, sg_t]
      grind
    have h70 := rep64 (E := 70) (by omega) (by omega)
    have h53 := rep64 (E := -53) (by omega) (by omega)
    refine near_bet (inf_pos .f64) (rep_neg h70) (rep_neg h53) ?_ hle
    rw [hs]
    grind
theorem rM_zero {f : Ieee.Format} {r : Nat} (h : rM f r = 0) : r = 0 := by
  have e := rR_eq f r
  by_cases hj : rJ f r = 0
  · rw [hj, h] at e
    omega
  · have := rM_ge f hj
    have := binade_pos f
    omega
/-- .. narrowed: in range, and a zero is +0. -/
theorem half_dn {z : Nat} (hz : Bet .f64 (some z) (-p2 69) (p2 69)) : ∃ y, dnF (opF .add .f64 (some 4602678819172646912) (some z)) = some y ∧ (∀ w, absF .f64 w = opF .add .f64 (some 4602678819172646912) (some z) → dnOver w = false) ∧ WBet FloatKind.f32.format y (-p2 70) (p2 70) ∧ (FloatKind.f32.format.order y 0 = some .eq → y = 0) := by
  obtain ⟨w, ew, hw, h⟩ := half_add hz
  have h70 := rep32 (E := 70) (by omega) (by omega)
  obtain ⟨hb, ho⟩ := bet_dn ⟨w, ew, hw⟩ (rep_neg h70) h70
  obtain ⟨y, ey, hy⟩ := hb
  refine ⟨y, ey, ho, hy, fun h0 => ?_⟩
  rw [ew] at ey
  have ey' : y = dnBits w := by
    have : dnF (some w) = some (dnBits w) := rfl
    rw [this] at ey
    exact (Option.some.inj ey).symm
  subst ey'
  have r0 : FloatKind.f32.format.read 0 = .number false 0 (-149) := rfl
  have v0 : vD (.number false 0 (-149)) = 0 := by simp only [vD, mg_zero, sg_zero]
  rcases h with ⟨m, p, h⟩ | h
  · have e1 : dnBits w = FloatKind.f32.format.nearest false m p := by
      unfold dnBits
      show FloatKind.f32.format.write (FloatKind.f64.format.read w) = _
      rw [h]; rfl
    obtain ⟨r, e2, hr, h' | h'⟩ := near_sign .f32 false m p
    · rw [← e1] at h' e2
      unfold Ieee.Format.order at h0
      rw [h'.2, r0] at h0
      have := (order_cmp _ _ _ _ _ _).2.2.1 h0
      rw [v0] at this
      simp only [vD, sg_f] at this
      have hz : rM FloatKind.f32.format r = 0 := by
        rcases Nat.eq_zero_or_pos (rM FloatKind.f32.format r) with h | h
        · exact h
        · have := mg_pos (Nat.pos_iff_ne_zero.1 h) (FloatKind.f32.format.leastPlace + rJ FloatKind.f32.format r)
          grind
      rw [e2, rM_zero hz]
      rfl
    · rw [← e1] at h'
      exact absurd h' hy.fin
  · exfalso
    obtain ⟨s, m, p, e, a1, a2⟩ := h.read
    have h53 := rep32 (E := -53) (by omega) (by omega)
    have hb : WBet FloatKind.f32.format (dnBits w) (-p2 70) (-p2 (-53)) := by
      unfold dnBits
      have e' : FloatKind.f64.decode w = .number s m p := e
      rw [e']
      exact enc_bet (rep_neg h70) (rep_neg h53) a1 a2
    obtain ⟨t, n, j, et, b1, b2⟩ := hb.read
    unfold Ieee.Format.order at h0
    rw [et, r0] at h0
    have := (order_cmp _ _ _ _ _ _).2.2.1 h0
    rw [v0] at this
    have := p2_pos (-53)
    grind
/-- All that the walks ask of the numbers met on the way. -/
structure BellOk (x : Option Nat) : Prop where
  neg : NegS .f32 (dnF (sqA (upF x)))
  sq : ∀ w, absF .f64 w = sqA (upF x) → dnOver w = false
  raw : ∀ w, absF .f64 w = rawA (upF x) → dnOver w = false
  out : ∃ y, dnF (rawA (upF x)) = some y ∧ WBet FloatKind.f32.format y (-p2 70) (p2 70) ∧ (FloatKind.f32.format.order y 0 = some .eq → y = 0)
theorem bellOk {x : Option Nat} (hx : Bet .f32 x (-p2 3) (p2 3)) : BellOk x := by
  have h3 := rep64 (E := 3) (by omega) (by omega)
  have hX := bet_up hx (rep_neg h3) h3
  have hsq : Bet .f64 (sqA (upF x)) (-p2 5) (p2 5) := by
    have h1 : Bet .f64 (some 13826050856027422720) (-p2 (-1)) (p2 (-1)) := bet_mhalf.mono Rat.le_refl (by have := p2_pos (-1); grind)
    exact bet_mul2 (bet_mul2 h1 hX (rep64 (by omega) (by omega))) hX (rep64 (by omega) (by omega))
  have hneg : NegS .f64 (sqA (upF x)) := by
    obtain ⟨w, ew, hw⟩ := hX
    rw [ew]
    refine negS_sq mhalf64 (by decide) mhalf_le ?_
    obtain ⟨s, m, p, e, _⟩ := hw.read
    show (FloatKind.f64.format.read w).isNaN = false
    rw [e]; rfl
  have h5 := rep32 (E := 5) (by omega) (by omega)
  have hn := negS_dn hneg
  have he := (exp32_bet hn).1
  have heu := bet_up he rep0 rep1
  have hs := sumA_bet hX 120 (by omega)
  have h69 : mg (120 + 1) 62 ≤ p2 69 := by
    have := (mg_le (p := 62)).2 (show 121 ≤ 2 ^ 7 by decide)
    rwa [mg_pow] at this
  have hs' : Bet .f64 (sumA (upF x) 120) (-p2 69) (p2 69) := hs.mono (by grind) h69
  have hp : Bet .f64 (opF .mul .f64 (sumA (upF x) 120) (upF (exp32 (dnF (sqA (upF x)))))) (-p2 69) (p2 69) := by
    have h0 : Bet .f64 (upF (exp32 (dnF (sqA (upF x))))) (-p2 0) (p2 0) := heu.mono (by rw [p2_zero]; grind) (by rw [p2_zero]; exact Rat.le_refl)
    have := bet_mul2 hs' h0 (rep64 (by omega) (by omega))
    rwa [show (69 : Int) + 0 = 69 by omega] at this
  have hq : Bet .f64 (opF .quo .f64 (opF .mul .f64 (sumA (upF x) 120) (upF (exp32 (dnF (sqA (upF x)))))) (some 4612826843881809669)) (-p2 69) (p2 69) := by
    refine bet_quo (E := 69) hp bet_root (p2_pos _) (rep64 (by omega) (by omega)) ?_ (.inr rfl) (.inr rfl)
    intro u v u1 u2 v1 v2
    have h1 : (1 : Rat) ≤ v := Rat.le_trans (by rw [← p2_zero]; exact p2_mono (by omega)) v1
    have := Rat.mul_le_mul_of_nonneg_left h1 (p2_nn 69)
    rw [Rat.mul_one] at this
    constructor <;> grind
  obtain ⟨z, ez, hz⟩ := hq
  obtain ⟨y, e1, e2, e3, e4⟩ := half_dn ⟨z, rfl, hz⟩
  rw [← ez] at e1 e2
  exact ⟨hn, (bet_dn hsq (rep_neg h5) h5).2, e2, ⟨y, e1, e3, e4⟩⟩
end

section
open Go.RowKit

/-- The whole numbers as float64s. -/
def dI (z : Int) : Nat := floatOfInt .f64 z
/-- Horner's rounds, from the last. -/
def logQ (u : Option Nat) : Nat → Option Nat
  | 0 => some 0
  | j + 1 => opF .add .f64 (opF .quo .f64 (some 4607182418800017408) (some (dI (25 - 2 * (j : Int))))) (opF .mul .f64 u (logQ u j))
def logS (y : Option Nat) : Option Nat := opF .quo .f64 (opF .sub .f64 y (some 4607182418800017408)) (opF .add .f64 y (some 4607182418800017408))
def logB (y e : Option Nat) : Option Nat :=
  opF .add .f64 (opF .mul .f64 (some 4611686018427387904) (opF .mul .f64 (logS y) (logQ (opF .mul .f64 (logS y) (logS y)) 13))) (opF .mul .f64 e (some 4604418534313441775))
/-- Where a word ends that is doubled or halved until it is from 0.75 to 1.5, and the power of two. -/
def normY (X : Nat) : Nat := (4604930618986332160 + ((X : Int) - 4604930618986332160) % 4503599627370496).toNat
def normE (X : Nat) : Int := ((X : Int) - 4604930618986332160) / 4503599627370496
theorem norm_of {X Y : Nat} {e : Int} (h1 : 4604930618986332160 ≤ Y) (h2 : Y < 4609434218613702656) (h : (Y : Int) + e * 4503599627370496 = X) : Y = normY X ∧ e = normE X := by
  unfold normY normE
  omega
def posB (x : Nat) : Bool := finB x && (FloatKind.f32.format.order x 0 == some .gt)
/-- The logarithm of what a float32 stands for. -/
def log32 (x : Nat) : Option Nat :=
  if posB x then dnF (logB (some (normY (upBits x))) (some (dI (normE (upBits x)))))
  else if FloatKind.f32.format.order x 0 == some .eq then some 4286578688
  else if FloatKind.f32.format.order x 0 == some .gt then some 2139095040 else none
theorem dI_tab : ∀ n : Nat, n < 600 → (FloatKind.f64.decode (dI ((n : Int) - 300))).isNaN = false ∧ floatBits .sub .f64 (dI ((n : Int) - 300 + 1)) 4607182418800017408 = some (dI ((n : Int) - 300)) ∧ floatBits .add .f64 (dI ((n : Int) - 300)) 4607182418800017408 = some (dI ((n : Int) - 300 + 1)) := by decide +kernel
theorem dI_nan {z : Int} (h1 : -300 ≤ z) (h2 : z < 300) : absF .f64 (dI z) = some (dI z) := by
  obtain ⟨n, rfl⟩ : ∃ n : Nat, z = (n : Int) - 300 := ⟨(z + 300).toNat, by omega⟩
  exact absD (dI_tab n (by omega)).1
theorem dI_down {z : Int} (h1 : -300 ≤ z) (h2 : z < 300) (w : World) : flR .sub .f64 (dI (z + 1)) 4607182418800017408 w = dI z := by
  obtain ⟨n, rfl⟩ : ∃ n : Nat, z = (n : Int) - 300 := ⟨(z + 300).toNat, by omega⟩
  exact flR_some (dI_tab n (by omega)).2.1 w
theorem dI_up {z : Int} (h1 : -300 ≤ z) (h2 : z < 300) (w : World) : flR .add .f64 (dI z) 4607182418800017408 w = dI (z + 1) := by
  obtain ⟨n, rfl⟩ : ∃ n : Nat, z = (n : Int) - 300 := ⟨(z + 300).toNat, by omega⟩
  exact flR_some (dI_tab n (by omega)).2.2 w
theorem dQ_tab : ∀ j : Nat, j < 13 → floatBits .sub .f64 (dI (25 - 2 * (j : Int))) 4611686018427387904 = some (dI (25 - 2 * ((j + 1 : Nat) : Int))) ∧ (FloatKind.f64.format.order (dI (25 - 2 * (j : Int))) 4607182418800017408 == some .gt || FloatKind.f64.format.order (dI (25 - 2 * (j : Int))) 4607182418800017408 == some .eq) = true ∧ dI (25 - 2 * (j : Int)) < 9223372036854775808 ∧ (dI (25 - 2 * ((j + 1 : Nat) : Int)) < dI (25 - 2 * (j : Int)) ∨ 9223372036854775808 ≤ dI (25 - 2 * ((j + 1 : Nat) : Int))) := by decide +kernel
theorem dQ_end : (FloatKind.f64.format.order (dI (25 - 2 * ((13 : Nat) : Int))) 4607182418800017408 == some .gt || FloatKind.f64.format.order (dI (25 - 2 * ((13 : Nat) : Int))) 4607182418800017408 == some .eq) = false := by decide +kernel
theorem dQ_start : dV 4627730092099895296 = dV (dI (25 - 2 * ((0 : Nat) : Int))) := by
  have : dI (25 - 2 * ((0 : Nat) : Int)) = 4627730092099895296 := by decide +kernel
  rw [this]
theorem dI_zero : dV 0 = dV (dI 0) := by
  have : dI 0 = 0 := by decide +kernel
  rw [this]
def mF (v : Value) : Nat := if wordF v < 9223372036854775808 then wordF v + 1 else 0
theorem mF_down {a b : Nat} (hb : b < 9223372036854775808) (h : a < b ∨ 9223372036854775808 ≤ a) : mF (dV a) < mF (dV b) := by
  unfold mF
  rw [wordF_f, wordF_f, if_pos hb]
  split <;> omega

/-! ### Words of one sign -/
section
open Ieee
theorem rV_lt {f : Format} {R S : Nat} (h : R < S) : rV f R < rV f S := mg_lt.2 (rU_lt f h)
theorem rV_iff {f : Format} {R S : Nat} : rV f R < rV f S ↔ R < S := by
  constructor
  · intro h
    rcases Nat.lt_or_ge R S with h' | h'
    · exact h'
    · exact absurd (Std.lt_of_lt_of_le h (rV_le f h')) Rat.lt_irrefl
  · exact rV_lt
theorem read_pos {k : FloatKind} {R : Nat} (h : R < k.format.infRung) : k.format.read R = .number false (rM k.format R) (k.format.leastPlace + rJ k.format R) := read_rung k.format false h
/-- Words of numbers that are not negative are ordered as they are. -/
theorem ord_word {k : FloatKind} {R S : Nat} (hR : R < k.format.infRung) (hS : S < k.format.infRung) : (k.format.order R S = some .lt ↔ R < S) ∧ (k.format.order R S = some .gt ↔ S < R) ∧ (k.format.order R S = some .eq ↔ R = S) := by
  unfold Format.order
  rw [read_pos hR, read_pos hS]
  obtain ⟨h1, h2, h3⟩ := order_cmp false (rM k.format R) (k.format.leastPlace + rJ k.format R) false (rM k.format S) (k.format.leastPlace + rJ k.format S)
  have eR : vD (.number false (rM k.format R) (k.format.leastPlace + rJ k.format R)) = rV k.format R := (rV_eq _ _).symm
  have eS : vD (.number false (rM k.format S) (k.format.leastPlace + rJ k.format S)) = rV k.format S := (rV_eq _ _).symm
  rw [eR, eS] at h1 h2 h3
  refine ⟨h1.trans rV_iff, h2.trans rV_iff, h3.trans ?_⟩
  constructor
  · intro h
    rcases Nat.lt_trichotomy R S with h' | h' | h'
    · exact absurd (h ▸ rV_lt (f := k.format) h') Rat.lt_irrefl
    · exact h'
    · exact absurd (h ▸ rV_lt (f := k.format) h') Rat.lt_irrefl
  · rintro rfl; rfl
theorem nearest_rung {f : Format} {R : Nat} (s : Bool) (h : R < f.infRung) : f.nearest s (rM f R) (f.leastPlace + rJ f R) = f.word s R := by
  by_cases hm : rM f R = 0
  · have := rM_zero hm
    subst this
    rw [hm]
    unfold Format.nearest
    rw [if_pos rfl]
  · have e : mg (rM f R) (f.leastPlace + rJ f R) = rV f R := (rV_eq _ _).symm
    have h1 := rung_hi f (p := f.leastPlace + rJ f R) (R := R) hm (by rw [e]; exact Rat.le_refl)
    have h2 := rung_lo f (p := f.leastPlace + rJ f R) (R := R) hm (by rw [e]; exact Rat.le_refl)
    rw [nearest_eq f s _ hm, show rungOf f (rM f R) (f.leastPlace + rJ f R) = R by omega, Nat.min_eq_left (Nat.le_of_lt h)]
theorem rung_next {f : Format} {R : Nat} (h : f.binade ≤ R) : rM f (R + f.binade) = rM f R ∧ rJ f (R + f.binade) = rJ f R + 1 := by
  have hb := binade_pos f
  have h1 : 1 ≤ R / f.binade := (Nat.one_le_div_iff hb).2 h
  unfold rM rJ
  rw [if_neg (by omega), if_neg (by omega), if_neg (by omega), if_neg (by omega), Nat.add_mod_right, Nat.add_div_right _ hb]
  exact ⟨rfl, by omega⟩
/-- A word doubled. -/
theorem twice {X : Nat} (h1 : 4503599627370496 ≤ X) (h2 : X < 9214364837600034816) : opF .mul .f64 (some X) (some 4611686018427387904) = some (X + 4503599627370496) := by
  have r2 : FloatKind.f64.format.read 4611686018427387904 = .number false (2 ^ 52) (-51) := by decide
  have hX : X < FloatKind.f64.format.infRung := by show X < 9218868437227405312; omega
  have hX2 : X + FloatKind.f64.format.binade < FloatKind.f64.format.infRung := by show X + 4503599627370496 < 9218868437227405312; omega
  show ((FloatKind.f64.format.read X).product (FloatKind.f64.format.read 4611686018427387904)).map FloatKind.f64.format.write = _
  rw [r2, read_pos hX]
  obtain ⟨e1, e2⟩ := rung_next (f := FloatKind.f64.format) (R := X) h1
  simp only [Datum.product, Option.map_some]
  show some (FloatKind.f64.format.nearest false (rM FloatKind.f64.format X * 2 ^ 52) _) = _
  rw [nearest_shift, ← e1, show FloatKind.f64.format.leastPlace + (rJ FloatKind.f64.format X : Int) + -51 + ((52 : Nat) : Int) = FloatKind.f64.format.leastPlace + (rJ FloatKind.f64.format (X + FloatKind.f64.format.binade) : Int) by rw [e2]; omega]
  rw [nearest_rung false hX2]
  rfl
/-- A word halved. -/
theorem halved {X : Nat} (h1 : 9007199254740992 ≤ X) (h2 : X < 9218868437227405312) : opF .quo .f64 (some X) (some 4611686018427387904) = some (X - 4503599627370496) := by
  obtain ⟨R, rfl⟩ : ∃ R, X = R + FloatKind.f64.format.binade := ⟨X - 4503599627370496, by show X = X - 4503599627370496 + 4503599627370496; omega⟩
  have hbn : FloatKind.f64.format.binade = 4503599627370496 := rfl
  rw [hbn] at h1 h2
  have r2 : FloatKind.f64.format.read 4611686018427387904 = .number false (2 ^ 52) (-51) := by decide
  have hX : R + FloatKind.f64.format.binade < FloatKind.f64.format.infRung := by show R + 4503599627370496 < 9218868437227405312; omega
  have hR : R < FloatKind.f64.format.infRung := by show R < 9218868437227405312; omega
  obtain ⟨e1, e2⟩ := rung_next (f := FloatKind.f64.format) (R := R) (by rw [hbn]; omega)
  show ((FloatKind.f64.format.read (R + FloatKind.f64.format.binade)).quotient (FloatKind.f64.format.fractionBits + 2) (FloatKind.f64.format.read 4611686018427387904)).map FloatKind.f64.format.write = _
  rw [r2, read_pos hX, e1, e2]
  have hf : FloatKind.f64.format.fractionBits = 52 := rfl
  have hmlt := rM_lt FloatKind.f64.format R
  have hmge : FloatKind.f64.format.binade ≤ rM FloatKind.f64.format R := by
    unfold rM
    rw [if_neg (by rw [hbn]; omega)]
    omega
  rw [hbn] at hmlt hmge
  have hl : (rM FloatKind.f64.format R).log2 = 52 := by
    rw [Nat.log2_eq_iff (by omega)]
    constructor <;> omega
  simp only [Datum.quotient, hf, hl]
  rw [if_neg (by decide)]
  have hn : Nat.log2 (2 ^ 52) = 52 := by decide
  rw [hn, show 52 + 2 + 52 - 52 = 2 + 52 from rfl, Nat.shiftLeft_eq, Nat.pow_add, ← Nat.mul_assoc, Nat.mul_div_cancel _ (by decide), Nat.mul_mod_left]
  simp only [bne_self_eq_false, Bool.toNat_false, Nat.add_zero, Option.map_some]
  show some (FloatKind.f64.format.nearest false (2 * (rM FloatKind.f64.format R * 2 ^ 2)) _) = _
  rw [show 2 * (rM FloatKind.f64.format R * 2 ^ 2) = rM FloatKind.f64.format R * 2 ^ 3 by omega, nearest_shift]
  rw [show FloatKind.f64.format.leastPlace + ((rJ FloatKind.f64.format R + 1 : Nat) : Int) - -51 - ((2 + 52 : Nat) : Int) - 1 + ((3 : Nat) : Int) = FloatKind.f64.format.leastPlace + (rJ FloatKind.f64.format R : Int) by omega]
  rw [nearest_rung false hR, hbn, show FloatKind.f64.format.word false R = R from rfl, Nat.add_sub_cancel]
theorem up_val {x : Nat} {s : Bool} {m : Nat} {p : Int} (h : FloatKind.f32.format.read x = .number s m p) : ∃ R, upBits x = FloatKind.f64.format.word s R ∧ R < FloatKind.f64.format.infRung ∧ sg s (rV FloatKind.f64.format R) = vD (.number s m p) := by
  have hr := rep_up h
  have e : upBits x = FloatKind.f64.format.nearest s m p := by
    unfold upBits
    show FloatKind.f64.format.write (FloatKind.f32.format.read x) = _
    rw [h]; rfl
  have hb : WBet FloatKind.f64.format (FloatKind.f64.format.nearest s m p) (vD (.number s m p)) (vD (.number s m p)) := near_bet (inf_pos .f64) hr hr Rat.le_refl Rat.le_refl
  obtain ⟨r, e1, hr1, h' | h'⟩ := near_sign .f64 s m p
  · refine ⟨r, e.trans e1, h'.1, ?_⟩
    obtain ⟨t, n, j, et, b1, b2⟩ := hb.read
    rw [h'.2] at et
    injection et with g1 g2 g3
    subst g1 g2 g3
    have : vD (.number s (rM FloatKind.f64.format r) (FloatKind.f64.format.leastPlace + rJ FloatKind.f64.format r)) = sg s (rV FloatKind.f64.format r) := by rw [rV_eq]; rfl
    rw [this] at b1 b2
    exact Rat.le_antisymm b2 b1
  · exact absurd h' hb.fin
end
/-- The word of a float32 above 0, as a float64. -/
theorem pos_up {x : Nat} (h : posB x = true) : 3935144174415872 * 1000 ≤ upBits x ∧ upBits x < 5183643171103440896 := by
  unfold posB at h
  rw [Bool.and_eq_true] at h
  obtain ⟨hf, hg⟩ := h
  unfold finB at hf
  cases e : FloatKind.f32.decode x with
  | nan s t => rw [e] at hf; cases hf
  | infinity s => rw [e] at hf; cases hf
  | number s m p =>
    have e' : FloatKind.f32.format.read x = .number s m p := e
    obtain ⟨b1, b2, b3⟩ := read_bound x e
    have r0 : FloatKind.f32.format.read 0 = .number false 0 (-149) := rfl
    have v0 : vD (.number false 0 (-149)) = 0 := by simp only [vD, mg_zero, sg_zero]
    have hg' : FloatKind.f32.format.order x 0 = some .gt := eq_of_beq hg
    unfold Ieee.Format.order at hg'
    rw [e', r0] at hg'
    have hpos := (order_cmp _ _ _ _ _ _).2.1.1 hg'
    rw [v0] at hpos
    have hs : s = false := by
      cases s
      · rfl
      · exfalso
        simp only [vD, sg_t] at hpos
        have := mg_nn m p
        grind
    subst hs
    simp only [vD, sg_f] at hpos
    have hm : m ≠ 0 := by
      rintro rfl
      rw [mg_zero] at hpos
      exact Rat.lt_irrefl hpos
    obtain ⟨R, eR, hR, hv⟩ := up_val e'
    simp only [vD, sg_f] at hv
    have eW : upBits x = R := eR.trans rfl
    rw [eW]
    have lo : rV FloatKind.f64.format 3936146074321813504 = p2 (-149) := by
      have h1 : rM FloatKind.f64.format 3936146074321813504 = 2 ^ 52 := by decide
      have h2 : rJ FloatKind.f64.format 3936146074321813504 = 873 := by decide
      rw [rV_eq, h1, h2, mg_pow]
      rfl
    have hi : rV FloatKind.f64.format 5183643171103440896 = p2 128 := by
      have h1 : rM FloatKind.f64.format 5183643171103440896 = 2 ^ 52 := by decide
      have h2 : rJ FloatKind.f64.format 5183643171103440896 = 1150 := by decide
      rw [rV_eq, h1, h2, mg_pow]
      rfl
    constructor
    · rcases Nat.lt_or_ge R 3936146074321813504 with h | h
      · exfalso
        have hlt := rV_lt (f := FloatKind.f64.format) h
        rw [lo, hv] at hlt
        have : p2 (-149) ≤ mg m p := by
          have h1 := (mg_le (p := p)).2 (Nat.one_le_iff_ne_zero.2 hm)
          rw [mg_one] at h1
          exact Rat.le_trans (p2_mono b2) h1
        exact absurd (Std.lt_of_lt_of_le hlt this) Rat.lt_irrefl
      · omega
    · refine (rV_iff (f := FloatKind.f64.format)).1 ?_
      rw [hi, hv]
      have h1 := (mg_lt (p := p)).2 b1
      rw [mg_pow] at h1
      exact Std.lt_of_lt_of_le h1 (p2_mono (by omega))
end

section
open Go.RowKit
attribute [local go_sem] run_fl_add run_fl_sub run_fl_mul run_fl_quo run_up_ run_dn_

/-- What a step of the halving, of the doubling yields. -/
theorem half_R {X : Nat} (h1 : 9007199254740992 ≤ X) (h2 : X < 9218868437227405312) (w : World) : flR .quo .f64 X 4611686018427387904 w = X - 4503599627370496 := flR_some (show floatBits .quo .f64 X 4611686018427387904 = some (X - 4503599627370496) from halved h1 h2) w
theorem twice_R {X : Nat} (h1 : 4503599627370496 ≤ X) (h2 : X < 9214364837600034816) (w : World) : flR .mul .f64 X 4611686018427387904 w = X + 4503599627370496 := flR_some (show floatBits .mul .f64 X 4611686018427387904 = some (X + 4503599627370496) from twice h1 h2) w
theorem lt_word {X C : Nat} (hX : X < 9218868437227405312) (hC : C < 9218868437227405312) : (FloatKind.f64.format.order X C == some .lt) = decide (X < C) := by
  rw [Bool.eq_iff_iff, beq_iff_eq, decide_eq_true_eq]
  exact (ord_word (k := .f64) hX hC).1
theorem ge_word {X C : Nat} (hX : X < 9218868437227405312) (hC : C < 9218868437227405312) : (FloatKind.f64.format.order X C == some .gt || FloatKind.f64.format.order X C == some .eq) = decide (C ≤ X) := by
  rw [Bool.eq_iff_iff, Bool.or_eq_true, beq_iff_eq, beq_iff_eq, decide_eq_true_eq]
  obtain ⟨_, h2, h3⟩ := ord_word (k := .f64) hX hC
  rw [h2, h3]
  omega
theorem absX {X : Nat} (h : X < 9218868437227405312) : absF .f64 X = some X := by
  refine absF_of ?_
  show (FloatKind.f64.format.read X).isNaN = false
  rw [read_pos (k := .f64) h]; rfl
theorem logB_abs {Y q u s : Nat} {W1 W2 W3 W4 : World} {e : Option Nat} {E : Nat} (hs : absF .f64 s = logS (some Y)) (hu : absF .f64 u = opF .mul .f64 (logS (some Y)) (logS (some Y))) (hq : absF .f64 q = logQ (absF .f64 u) 13) (hE : absF .f64 E = e) :
    absF .f64 (flR .add .f64 (flR .mul .f64 4611686018427387904 (flR .mul .f64 s q W1) W2) (flR .mul .f64 E 4604418534313441775 W3) W4) = logB (some Y) e := by
  rw [abs_flR .add rfl, abs_flR .mul rfl, abs_flR .mul rfl, abs_flR .mul rfl, hs, hq, hu, hE, absD (b := 4611686018427387904) (by decide), absD (b := 4604418534313441775) (by decide)]
  rfl
theorem logS_abs {Y : Nat} {W1 W2 W3 : World} (hY : Y < 9218868437227405312) : absF .f64 (flR .quo .f64 (flR .sub .f64 Y 4607182418800017408 W1) (flR .add .f64 Y 4607182418800017408 W2) W3) = logS (some Y) := by
  rw [abs_flR .quo rfl, abs_flR .sub rfl, abs_flR .add rfl, absX hY, absD (b := 4607182418800017408) (by decide)]
  rfl
set_option maxHeartbeats 3200000 in
set_option maxRecDepth 4096 in
theorem logarithm_any (X : Nat) (h1 : 3935144174415872000 ≤ X) (h2 : X < 5183643171103440896) (w : World) :
    Calls Try.prog 62 #[dV X] w fun e w' => ∃ b, e = .returned (dV b) ∧ absF .f64 b = logB (some (normY X)) (some (dI (normE X))) ∧ ∃ n, w.drewN n = w' := by
  go_enter Try.func62, Try.ntmps62
  go_wp2
  go_loopw [0, 3] (fun s0 s3 wr => ∃ (Y : Nat) (e : Int), s0 = dV Y ∧ s3 = dV (dI e) ∧ (Y : Int) + e * 4503599627370496 = X ∧ 3935144174415872000 ≤ Y ∧ Y < 5183643171103440896 ∧ ∃ n, w.drewN n = wr) (fun s0 _ _ => 5200000000000000000 - wordF s0)
  case atStart => exact ⟨X, 0, rfl, dI_zero, by omega, h1, h2, 0, rfl⟩
  case round =>
    obtain ⟨Y, e, rfl, rfl, hXY, hY1, hY2, q, rfl⟩ := hrel
    have hc := lt_word (X := Y) (C := 4604930618986332160) (by omega) (by omega)
    by_cases hlt : Y < 4604930618986332160
    · rw [decide_eq_true hlt] at hc
      go_wp2
      go_roundw
      case rel =>
        refine ⟨Y + 4503599627370496, e - 1, ?_, ?_, by omega, by omega, by omega, _, rfl⟩
        · rw [twice_R (by omega) (by omega)]
        · have := dI_down (z := e - 1) (by omega) (by omega)
          rw [show e - 1 + 1 = e by omega] at this
          rw [this]
      case measure =>
        rw [wordF_f, wordF_f, twice_R (by omega) (by omega)]
        omega
    · rw [decide_eq_false hlt] at hc
      go_wp2
      go_loopw [0, 3] (fun s0 s3 wr => ∃ (Y : Nat) (e : Int), s0 = dV Y ∧ s3 = dV (dI e) ∧ (Y : Int) + e * 4503599627370496 = X ∧ 4604930618986332160 ≤ Y ∧ Y < 5183643171103440896 ∧ ∃ n, w.drewN n = wr) (fun s0 _ _ => wordF s0)
      case atStart => exact ⟨Y, e, rfl, rfl, hXY, by omega, hY2, _, rfl⟩
      case round =>
        obtain ⟨Z, g, rfl, rfl, hXZ, hZ1, hZ2, q, rfl⟩ := hrel
        have hd := ge_word (X := Z) (C := 4609434218613702656) (by omega) (by omega)
        by_cases hge : 4609434218613702656 ≤ Z
        · rw [decide_eq_true hge] at hd
          go_wp2
          go_roundw
          case rel =>
            refine ⟨Z - 4503599627370496, g + 1, ?_, ?_, by omega, by omega, by omega, _, rfl⟩
            · rw [half_R (by omega) (by omega)]
            · rw [dI_up (by omega) (by omega)]
          case measure =>
            rw [wordF_f, wordF_f, half_R (by omega) (by omega)]
            omega
        · rw [decide_eq_false hge] at hd
          obtain ⟨n1, n2⟩ := norm_of hZ1 (by omega) hXZ
          have HN1 := Lib.hid n1
          have HN2 := Lib.hid n2
          have hZt : Z < 9218868437227405312 := by omega
          have hg1 : -300 ≤ g := by omega
          have hg2 : g < 300 := by omega
          clear hc hXY hY1 hY2 hlt hXZ n1 n2 hZ1 hZ2 hge
          have HZ := Lib.hid hZt
          clear hZt
          go_wp2
          generalize hs : flR .quo .f64 (flR .sub .f64 Z 4607182418800017408 _) (flR .add .f64 Z 4607182418800017408 _) _ = S
          have HS : Hid (absF .f64 S = logS (some Z)) := by unfold Hid; rw [← hs]; exact logS_abs HZ.out
          clear hs
          generalize hu : flR .mul .f64 S S _ = U
          have HU : Hid (absF .f64 U = opF .mul .f64 (logS (some Z)) (logS (some Z))) := by unfold Hid; rw [← hu, abs_flR .mul rfl, HS.out]
          clear hu
          go_loopw [6, 7] (fun sq sk wr => ∃ (j q : Nat), j ≤ 13 ∧ sq = dV q ∧ sk = dV (dI (25 - 2 * (j : Int))) ∧ Hid (absF .f64 q = logQ (absF .f64 U) j) ∧ ∃ n, w.drewN n = wr) (fun _ sk _ => mF sk)
          case atStart => exact ⟨0, 0, by omega, rfl, dQ_start, by unfold Hid; rw [logQ]; exact absD (by decide), _, rfl⟩
          case round =>
            obtain ⟨j, qq, hj, rfl, rfl, hq, nn, rfl⟩ := hrel
            by_cases hj13 : j < 13
            · obtain ⟨t1, t2, t3, t4⟩ := dQ_tab j hj13
              have HT1 := Lib.hid t1
              have HT3 := Lib.hid t3
              have HT4 := Lib.hid t4
              clear t1 t3 t4
              go_wp2
              go_roundw
              case rel =>
                refine ⟨j + 1, _, by omega, rfl, ?_, ?_, _, rfl⟩
                · rw [flR_some HT1.out]
                · unfold Hid
                  rw [logQ, abs_flR .add rfl, abs_flR .quo rfl, abs_flR .mul rfl, hq.out, absD (b := 4607182418800017408) (by decide), dI_nan (by omega) (by omega)]
              case measure =>
                rw [flR_some HT1.out]
                exact mF_down HT3.out HT4.out
            · have hje : j = 13 := by omega
              subst hje
              have t1 := dQ_end
              go_wp2
              go_ret
              exact ⟨_, rfl, by rw [← HN1.out, ← HN2.out]; exact logB_abs HS.out HU.out hq.out (dI_nan hg1 hg2), _, rfl⟩

theorem bet_pos {k : FloatKind} {R A B : Nat} (hB : B < k.format.infRung) (h1 : A ≤ R) (h2 : R ≤ B) : Bet k (some R) (rV k.format A) (rV k.format B) := by
  have hR : R < k.format.infRung := by omega
  refine bet_of (read_pos hR) ?_ ?_
  · show _ ≤ mg _ _
    rw [← rV_eq]
    exact rV_le _ h1
  · show mg _ _ ≤ _
    rw [← rV_eq]
    exact rV_le _ h2
theorem bet_int {z : Int} {n : Nat} (h1 : -(2 ^ n : Nat) ≤ z) (h2 : z ≤ (2 ^ n : Nat)) (hn : n ≤ 1000) : Bet .f64 (some (dI z)) (-p2 n) (p2 n) := by
  have e : dI z = FloatKind.f64.encode (.number (decide (z < 0)) z.natAbs 0) := rfl
  have hr := rep64 (E := n) (by omega) (by omega)
  have hm : mg z.natAbs 0 ≤ p2 n := by
    have := (mg_le (p := 0)).2 (show z.natAbs ≤ 2 ^ n by omega)
    rw [mg_pow] at this
    rwa [Int.zero_add] at this
  have hz := mg_nn z.natAbs 0
  refine ⟨_, rfl, ?_⟩
  rw [e]
  refine enc_bet (rep_neg hr) hr ?_ ?_
  all_goals
    simp only [vD]
    cases decide (z < 0) <;> simp only [sg_f, sg_t] <;> grind
theorem p2_1L : p2 1 = 2 := by
  have := p2_nat 1
  exact this
theorem p2_2 : p2 2 = 4 := by
  have := p2_nat 2
  exact this
theorem bet_y {Y : Nat} (h1 : 4604930618986332160 ≤ Y) (h2 : Y < 4609434218613702656) : Bet .f64 (some Y) (p2 (-1)) (p2 1) := by
  have lo : rV FloatKind.f64.format 4602678819172646912 = p2 (-1) := by
    have e1 : rM FloatKind.f64.format 4602678819172646912 = 2 ^ 52 := by decide
    have e2 : rJ FloatKind.f64.format 4602678819172646912 = 1021 := by decide
    rw [rV_eq, e1, e2, mg_pow]
    rfl
  have hi : rV FloatKind.f64.format 4611686018427387904 = p2 1 := by
    have e1 : rM FloatKind.f64.format 4611686018427387904 = 2 ^ 52 := by decide
    have e2 : rJ FloatKind.f64.format 4611686018427387904 = 1023 := by decide
    rw [rV_eq, e1, e2, mg_pow]
    rfl
  rw [← lo, ← hi]
  exact bet_pos (k := .f64) (by show (4611686018427387904 : Nat) < 9218868437227405312; omega) (by omega) (by omega)
theorem bet_two : Bet .f64 (some 4611686018427387904) (-p2 1) (p2 1) := by
  have := bet_lit (k := .f64) (b := 4611686018427387904) (m := 2 ^ 52) (s := false) (p := -51) (by decide)
  simp only [vD, sg_f] at this
  rw [mg_pow] at this
  have hp := p2_pos 1
  exact this.mono (by show -p2 1 ≤ p2 1; grind) Rat.le_refl
theorem bet_ln2 : Bet .f64 (some 4604418534313441775) (-p2 0) (p2 0) := by
  have := bet_lit (k := .f64) (b := 4604418534313441775) (m := 6243314768165359) (s := false) (p := -53) (by decide)
  simp only [vD, sg_f] at this
  have h := (mg_le (p := -53)).2 (show 6243314768165359 ≤ 2 ^ 53 by decide)
  rw [mg_pow] at h
  have hz := mg_nn 6243314768165359 (-53)
  have hp := p2_pos 0
  exact this.mono (by grind) h
theorem logS_bet {Y : Nat} (h1 : 4604930618986332160 ≤ Y) (h2 : Y < 4609434218613702656) : Bet .f64 (logS (some Y)) (-p2 0) (p2 0) := by
  have hy := bet_y h1 h2
  have hp := p2_pos (-1)
  have e1 := p2_1L
  have e2 := p2_2
  have e0 := p2_zero
  have ha : Bet .f64 (opF .sub .f64 (some Y) (some 4607182418800017408)) (-p2 0) (p2 0) := bet_sub hy bet_one (rep_neg (rep64 (by omega) (by omega))) (rep64 (by omega) (by omega)) (by grind) (by grind)
  have hb : Bet .f64 (opF .add .f64 (some Y) (some 4607182418800017408)) 1 (p2 2) := bet_add hy bet_one rep1 (rep64 (by omega) (by omega)) (by grind) (by grind)
  refine bet_quo (E := 0) ha hb (by decide) (rep64 (by omega) (by omega)) ?_ (.inr rfl) (.inr rfl)
  intro u v u1 u2 v1 v2
  rw [p2_zero] at *
  rw [Rat.one_mul]
  constructor <;> grind
theorem logQ_bet {u : Option Nat} (hu : Bet .f64 u (-p2 0) (p2 0)) : ∀ j : Nat, j ≤ 13 → Bet .f64 (logQ u j) (-p2 j) (p2 j)
  | 0, _ => by
    have r0 : FloatKind.f64.format.read 0 = .number false 0 (-1074) := by decide
    have hp := p2_pos ((0 : Nat) : Int)
    refine bet_of r0 ?_ ?_ <;> simp only [vD, mg_zero, sg_zero] <;> grind
  | j + 1, hj => by
    have ih := logQ_bet hu j (by omega)
    have hk : Bet .f64 (some (dI (25 - 2 * (j : Int)))) (p2 (0 : Nat)) (p2 (5 : Nat)) := by
      have := bet_nat (k := .f64) (n := 25 - 2 * j) (a := 0) (b := 5) (by omega) (by omega) (rep64 (by omega) (by omega)) (rep64 (by omega) (by omega))
      rwa [show ((25 - 2 * j : Nat) : Int) = 25 - 2 * (j : Int) by omega] at this
    have hq : Bet .f64 (opF .quo .f64 (some 4607182418800017408) (some (dI (25 - 2 * (j : Int))))) (-p2 0) (p2 0) := by
      refine bet_quo (E := 0) bet_one hk (p2_pos _) (rep64 (by omega) (by omega)) ?_ (.inr rfl) (.inr rfl)
      intro u v u1 u2 v1 v2
      have e0 : p2 ((0 : Nat) : Int) = 1 := p2_zero
      rw [e0] at v1
      rw [p2_zero, Rat.one_mul]
      constructor <;> grind
    have hm := bet_mul2 hu ih (rep64 (by omega) (by omega))
    rw [Int.zero_add] at hm
    have hr := rep64 (E := ((j + 1 : Nat) : Int)) (by omega) (by omega)
    have e1 : p2 ((j + 1 : Nat) : Int) = p2 j + p2 j := by
      have h1 := mg_succ 1 j
      have h2 := mg_pow 1 j
      rw [mg_one] at h1
      rw [← h1]
      exact h2.symm
    have h0 : p2 0 ≤ p2 j := p2_mono (by omega)
    exact bet_add hq hm (rep_neg hr) hr (by grind) (by grind)
theorem logB_bet {Y : Nat} {e : Int} (h1 : 4604930618986332160 ≤ Y) (h2 : Y < 4609434218613702656) (h3 : -300 ≤ e) (h4 : e < 300) : Bet .f64 (logB (some Y) (some (dI e))) (-p2 15) (p2 15) := by
  have hs := logS_bet h1 h2
  have hu := bet_mul2 hs hs (rep64 (by omega) (by omega))
  have hq := logQ_bet hu 13 (by omega)
  have hm := bet_mul2 bet_two (bet_mul2 hs hq (rep64 (by omega) (by omega))) (rep64 (by omega) (by omega))
  have he := bet_int (z := e) (n := 9) (by omega) (by omega) (by omega)
  have hl := bet_mul2 he bet_ln2 (rep64 (by omega) (by omega))
  have hr := rep64 (E := 15) (by omega) (by omega)
  have a1 : p2 (1 + (0 + ((13 : Nat) : Int))) = p2 14 := rfl
  have a2 : p2 (((9 : Nat) : Int) + 0) ≤ p2 14 := p2_mono (by omega)
  have a3 : p2 15 = p2 14 + p2 14 := by
    have h1 := mg_succ 1 14
    have h2 := mg_pow 1 14
    rw [mg_one] at h1
    rw [← h1]
    exact h2.symm
  exact bet_add hm hl (rep_neg hr) hr (by grind) (by grind)
theorem norm_in (X : Nat) : 4604930618986332160 ≤ normY X ∧ normY X < 4609434218613702656 := by
  unfold normY
  omega
theorem normE_in {X : Nat} (h1 : 3935144174415872000 ≤ X) (h2 : X < 5183643171103440896) : -300 ≤ normE X ∧ normE X < 300 := by
  unfold normE
  omega
theorem logB_dn {X : Nat} (h1 : 3935144174415872000 ≤ X) (h2 : X < 5183643171103440896) : ∀ w, absF .f64 w = logB (some (normY X)) (some (dI (normE X))) → dnOver w = false := by
  have h := logB_bet (norm_in X).1 (norm_in X).2 (normE_in h1 h2).1 (normE_in h1 h2).2
  have hr := rep32 (E := 15) (by omega) (by omega)
  exact (bet_dn h (rep_neg hr) hr).2
end

section
open Go.RowKit
attribute [local go_sem] run_fl_add run_fl_sub run_fl_mul run_fl_quo run_up_ run_dn_

theorem mathNegInf_any (w : World) : Calls Try.prog 60 #[.int .i64 (-1)] w fun e w' => e = .returned (dV 18442240474082181120) ∧ w = w' := by
  have hr : ∀ w, (callFunc 70 #[.int .u64 18442240474082181120]).run Try.prog w = .ok (.value (.float .f64 18442240474082181120)) w := run_frombits64 18442240474082181120
  go_enter Try.func60, Try.ntmps60
  go_wp2
  go_ret
  exact ⟨rfl, rfl⟩
theorem mathNaN_any (w : World) : Calls Try.prog 61 #[] w fun e w' => e = .returned (dV 9221120237041090561) ∧ w = w' := by
  have hr : ∀ w, (callFunc 70 #[.int .u64 9221120237041090561]).run Try.prog w = .ok (.value (.float .f64 9221120237041090561)) w := run_frombits64 9221120237041090561
  go_enter Try.func61, Try.ntmps61
  go_wp2
  go_ret
  exact ⟨rfl, rfl⟩
theorem isInf1_any (y : Nat) (w : World) : Calls Try.prog 69 #[dV y, .int .i64 1] w fun e w' => e = .returned (.bool (FloatKind.f64.format.order y 9218868437227405311 == some .gt)) ∧ w = w' := by
  go_enter Try.func69, Try.ntmps69
  go_wp2
  go_ret
  exact ⟨rfl, rfl⟩
/-- What 'x != x', 'x < 0', 'x == 0' say. -/
theorem nan_neq {k : FloatKind} {x : Nat} (h : absF k x = none) : (k.format.order x x != some .eq) = true := by
  have := absF_none h
  have e : k.format.order x x = none := ord_nan this
  rw [e]; rfl
theorem num_eq {k : FloatKind} {x : Nat} (h : (k.decode x).isNaN = false) : (k.format.order x x != some .eq) = false := by
  rw [ord_refl h]; rfl
theorem nan_ord {k : FloatKind} {x c : Nat} (h : absF k x = none) : k.format.order x c = none := ord_nan (absF_none h)
/-- The kinds of a float64 that the logarithm parts. -/
inductive LogCase (Z : Nat) : Option Nat → Prop
  | nan : absF .f64 Z = none → LogCase Z none
  | neg : (FloatKind.f64.format.order Z Z != some .eq) = false → (FloatKind.f64.format.order Z 0 == some .lt) = true → LogCase Z none
  | zero : (FloatKind.f64.format.order Z Z != some .eq) = false → (FloatKind.f64.format.order Z 0 == some .lt) = false → (FloatKind.f64.format.order Z 0 == some .eq) = true → LogCase Z (some 18442240474082181120)
  | inf : Z = 9218868437227405312 → LogCase Z (some 9218868437227405312)
  | pos : 3935144174415872000 ≤ Z → Z < 5183643171103440896 → LogCase Z (logB (some (normY Z)) (some (dI (normE Z))))
set_option maxHeartbeats 3200000 in
set_option maxRecDepth 4096 in
theorem l01LogPos_any (X : Nat) (h1 : 3935144174415872000 ≤ X) (h2 : X < 5183643171103440896) (w : World) :
    Calls Try.prog 59 #[dV X] w fun e w' => ∃ b, e = .returned (dV b) ∧ absF .f64 b = logB (some (normY X)) (some (dI (normE X))) ∧ ∃ n, w.drewN n = w' := by
  have hX : X < FloatKind.f64.format.infRung := by show X < 9218868437227405312; omega
  have c1 : (FloatKind.f64.format.order X X != some .eq) = false := num_eq (by show (FloatKind.f64.format.read X).isNaN = false; rw [read_pos (k := .f64) hX]; rfl)
  have c2 : (FloatKind.f64.format.order X 0 == some .lt) = false := by rw [lt_word (by omega) (by omega)]; exact decide_eq_false (by omega)
  have c3 : (FloatKind.f64.format.order X 0 == some .eq) = false := by
    rw [beq_eq_false_iff_ne]
    intro h
    have := (ord_word (k := .f64) hX (S := 0) (inf_pos .f64)).2.2.1 h
    omega
  have c4 : (FloatKind.f64.format.order X 9218868437227405311 == some .gt) = false := by
    rw [beq_eq_false_iff_ne]
    intro h
    have := (ord_word (k := .f64) hX (S := 9218868437227405311) (by show (9218868437227405311 : Nat) < 9218868437227405312; omega)).2.1.1 h
    omega
  clear hX
  go_enter Try.func59, Try.ntmps59
  go_wp2_with (go_at_call 69; refine (isInf1_any _ _).mono ?_; rintro e w' ⟨rfl, rfl⟩; rw [c4])
  clear c1 c2 c3 c4
  go_loopw [0, 3] (fun s0 s3 wr => ∃ (Y : Nat) (e : Int), s0 = dV Y ∧ s3 = .int .i64 e ∧ (Y : Int) + e * 4503599627370496 = X ∧ 3935144174415872000 ≤ Y ∧ Y < 5183643171103440896 ∧ ∃ n, w.drewN n = wr) (fun s0 _ _ => wordF s0)
  case atStart => exact ⟨X, 0, rfl, rfl, by omega, h1, h2, 0, rfl⟩
  case round =>
    obtain ⟨Y, e, rfl, rfl, hXY, hY1, hY2, q, rfl⟩ := hrel
    have hc := ge_word (X := Y) (C := 4609434218613702656) (by omega) (by omega)
    by_cases hlt : 4609434218613702656 ≤ Y
    · rw [decide_eq_true hlt] at hc
      go_wp2
      go_roundw
      case rel =>
        refine ⟨Y - 4503599627370496, e + 1, ?_, by go_num, by omega, by omega, by omega, _, rfl⟩
        rw [half_R (by omega) (by omega)]
      case measure =>
        rw [wordF_f, wordF_f, half_R (by omega) (by omega)]
        omega
    · rw [decide_eq_false hlt] at hc
      go_wp2
      go_loopw [0, 3] (fun s0 s3 wr => ∃ (Y : Nat) (e : Int), s0 = dV Y ∧ s3 = .int .i64 e ∧ (Y : Int) + e * 4503599627370496 = X ∧ 3935144174415872000 ≤ Y ∧ Y < 4609434218613702656 ∧ ∃ n, w.drewN n = wr) (fun s0 _ _ => 5200000000000000000 - wordF s0)
      case atStart => exact ⟨Y, e, rfl, rfl, hXY, by omega, by omega, _, rfl⟩
      case round =>
        obtain ⟨Z, g, rfl, rfl, hXZ, hZ1, hZ2, q, rfl⟩ := hrel
        have hd := lt_word (X := Z) (C := 4604930618986332160) (by omega) (by omega)
        by_cases hge : Z < 4604930618986332160
        · rw [decide_eq_true hge] at hd
          go_wp2
          go_roundw
          case rel =>
            refine ⟨Z + 4503599627370496, g - 1, ?_, by go_num, by omega, by omega, by omega, _, rfl⟩
            rw [twice_R (by omega) (by omega)]
          case measure =>
            rw [wordF_f, wordF_f, twice_R (by omega) (by omega)]
            omega
        · rw [decide_eq_false hge] at hd
          obtain ⟨n1, n2⟩ := norm_of (by omega) (by omega) hXZ
          have HN1 := Lib.hid n1
          have HN2 := Lib.hid n2
          have hZt : Z < 9218868437227405312 := by omega
          have hg1 : -300 ≤ g := by omega
          have hg2 : g < 300 := by omega
          clear hc hXY hY1 hY2 hlt hXZ n1 n2 hZ1 hZ2 hge
          have HZ := Lib.hid hZt
          clear hZt
          go_wp2
          generalize hs : flR .quo .f64 (flR .sub .f64 Z 4607182418800017408 _) (flR .add .f64 Z 4607182418800017408 _) _ = S
          have HS : Hid (absF .f64 S = logS (some Z)) := by unfold Hid; rw [← hs]; exact logS_abs HZ.out
          clear hs
          generalize hu : flR .mul .f64 S S _ = U
          have HU : Hid (absF .f64 U = opF .mul .f64 (logS (some Z)) (logS (some Z))) := by unfold Hid; rw [← hu, abs_flR .mul rfl, HS.out]
          clear hu
          go_loopw [6, 7] (fun sq sk wr => ∃ (j q : Nat), j ≤ 13 ∧ sq = dV q ∧ sk = .int .i64 (25 - 2 * (j : Int)) ∧ Hid (absF .f64 q = logQ (absF .f64 U) j) ∧ ∃ n, w.drewN n = wr) (fun _ sk _ => (intOf sk + 1).toNat)
          case atStart => exact ⟨0, 0, by omega, rfl, rfl, by unfold Hid; rw [logQ]; exact absD (by decide), _, rfl⟩
          case round =>
            obtain ⟨j, qq, hj, rfl, rfl, hq, nn, rfl⟩ := hrel
            by_cases hj13 : j < 13
            · go_wp2
              go_roundw
              case rel =>
                refine ⟨j + 1, _, by omega, rfl, by go_num, ?_, _, rfl⟩
                unfold Hid
                rw [logQ, abs_flR .add rfl, abs_flR .quo rfl, abs_flR .mul rfl, hq.out, absD (b := 4607182418800017408) (by decide), show floatOfInt .f64 (25 - 2 * (j : Int)) = dI (25 - 2 * (j : Int)) from rfl, dI_nan (by omega) (by omega)]
              case measure => simp [intOf]; omega
            · have hje : j = 13 := by omega
              subst hje
              go_wp2
              go_ret
              exact ⟨_, rfl, by rw [← HN1.out, ← HN2.out]; exact logB_abs HS.out HU.out hq.out (dI_nan hg1 hg2), _, rfl⟩
set_option maxHeartbeats 1600000 in
set_option maxRecDepth 4096 in
theorem l01LogWide_any (Z : Nat) (L : Option Nat) (h : LogCase Z L) (w : World) :
    Calls Try.prog 59 #[dV Z] w fun e w' => ∃ b, e = .returned (dV b) ∧ absF .f64 b = L ∧ ∃ n, w.drewN n = w' := by
  cases h with
  | pos h1 h2 => exact l01LogPos_any Z h1 h2 w
  | nan h =>
    have c1 := nan_neq h
    go_enter Try.func59, Try.ntmps59
    go_wp2_with (go_at_call 61; refine (mathNaN_any _).mono ?_; rintro e w' ⟨rfl, rfl⟩)
    go_ret
    exact ⟨_, rfl, absF_nan (by decide), 0, rfl⟩
  | neg c1 c2 =>
    go_enter Try.func59, Try.ntmps59
    go_wp2_with (go_at_call 61; refine (mathNaN_any _).mono ?_; rintro e w' ⟨rfl, rfl⟩)
    go_ret
    exact ⟨_, rfl, absF_nan (by decide), 0, rfl⟩
  | zero c1 c2 c3 =>
    go_enter Try.func59, Try.ntmps59
    go_wp2_with (go_at_call 60; refine (mathNegInf_any _).mono ?_; rintro e w' ⟨rfl, rfl⟩)
    go_ret
    exact ⟨_, rfl, absD (by decide), 0, rfl⟩
  | inf h =>
    subst h
    have c1 : (FloatKind.f64.format.order 9218868437227405312 9218868437227405312 != some .eq) = false := by decide
    have c2 : (FloatKind.f64.format.order 9218868437227405312 0 == some .lt) = false := by decide
    have c3 : (FloatKind.f64.format.order 9218868437227405312 0 == some .eq) = false := by decide
    have c4 : (FloatKind.f64.format.order 9218868437227405312 9218868437227405311 == some .gt) = true := by decide
    go_enter Try.func59, Try.ntmps59
    go_wp2_with (go_at_call 69; refine (isInf1_any _ _).mono ?_; rintro e w' ⟨rfl, rfl⟩; rw [c4])
    go_ret
    exact ⟨_, rfl, absD (by decide), 0, rfl⟩

/-- The kinds of a float32 that the logarithm parts. -/
inductive LogKind (x : Nat) : Prop
  | nan : absF .f32 x = none → LogKind x
  | neg : (FloatKind.f32.decode x).isNaN = false → FloatKind.f32.format.order x 0 = some .lt → LogKind x
  | zero : (FloatKind.f32.decode x).isNaN = false → FloatKind.f32.format.order x 0 = some .eq → LogKind x
  | inf : x = 2139095040 → LogKind x
  | pos : posB x = true → LogKind x
/-- Only the word of the infinity reads as it. -/
def InfOk (x : Nat) : Prop := FloatKind.f32.decode x = .infinity false → x = 2139095040
theorem log_kind {x : Nat} (hx : InfOk x) : LogKind x := by
  have r0 : FloatKind.f32.format.read 0 = .number false 0 (-149) := rfl
  cases e : FloatKind.f32.decode x with
  | nan s t => exact .nan (absF_nan (by rw [e]; rfl))
  | infinity s =>
    cases s
    · exact .inf (hx e)
    · refine .neg (by rw [e]; rfl) ?_
      have e' : FloatKind.f32.format.read x = .infinity true := e
      unfold Ieee.Format.order
      rw [e', r0]; rfl
  | number s m p =>
    have hn : (FloatKind.f32.decode x).isNaN = false := by rw [e]; rfl
    have e' : FloatKind.f32.format.read x = .number s m p := e
    cases ho : FloatKind.f32.format.order x 0 with
    | none =>
      unfold Ieee.Format.order at ho
      rw [e', r0] at ho
      cases ho
    | some o =>
      cases o with
      | lt => exact .neg hn ho
      | eq => exact .zero hn ho
      | gt => exact .pos (by unfold posB finB; rw [e, ho]; rfl)
theorem log32_nan {x : Nat} (h : absF .f32 x = none) : log32 x = none := by
  have := nan_ord (c := 0) h
  unfold log32 posB
  rw [this, Bool.and_comm]; rfl
theorem log32_ord {x : Nat} {o : Ordering} (h : FloatKind.f32.format.order x 0 = some o) (ho : o ≠ .gt) : log32 x = if o = .eq then some 4286578688 else none := by
  unfold log32 posB
  rw [h, Bool.and_comm]
  cases o <;> first | rfl | exact absurd rfl ho
theorem log32_pos {x : Nat} (h : posB x = true) : log32 x = dnF (logB (some (normY (upBits x))) (some (dI (normE (upBits x))))) := by unfold log32; rw [if_pos h]
theorem dn_nan {w : Nat} (h : absF .f64 w = none) : dnOver w = false := by
  obtain ⟨s, t, e⟩ := nan_cases (absF_none h)
  unfold dnOver
  rw [e]
theorem pos_facts {x : Nat} (h : posB x = true) : finB x = true ∧ (FloatKind.f32.format.order x 0 == some .eq) = false ∧ (FloatKind.f32.format.order x 0 == some .lt) = false ∧ (FloatKind.f32.decode x).isNaN = false := by
  unfold posB at h
  rw [Bool.and_eq_true] at h
  obtain ⟨h1, h2⟩ := h
  rw [eq_of_beq h2]
  refine ⟨h1, rfl, rfl, ?_⟩
  unfold finB at h1
  cases e : FloatKind.f32.decode x with
  | nan s t => rw [e] at h1; cases h1
  | infinity s => rfl
  | number s m p => rfl
theorem up_pos {x Z : Nat} (h : posB x = true) (hZ : absF .f64 Z = upF (absF .f32 x)) : Z = upBits x := by
  rw [absF_of (pos_facts h).2.2.2] at hZ
  exact (absF_some hZ).1
theorem log_case {x Z : Nat} (hk : LogKind x) (hZ : absF .f64 Z = upF (absF .f32 x)) : ∃ L, LogCase Z L ∧ dnF L = log32 x ∧ ∀ w, absF .f64 w = L → dnOver w = false := by
  have r0 : FloatKind.f64.format.read 0 = .number false 0 (-1074) := by decide
  have v0 : ∀ p, vD (.number false 0 p) = 0 := fun p => by simp only [vD, mg_zero, sg_zero]
  cases hk with
  | nan h =>
    rw [h] at hZ
    exact ⟨none, .nan hZ, (log32_nan h).symm, fun w hw => dn_nan hw⟩
  | inf h =>
    subst h
    have : absF .f32 2139095040 = some 2139095040 := by decide
    rw [this] at hZ
    have hz : Z = 9218868437227405312 := (absF_some hZ).1.trans (by decide)
    refine ⟨_, .inf hz, by decide, fun w hw => ?_⟩
    obtain ⟨rfl, _⟩ := absF_some hw
    decide
  | pos h =>
    have hz := up_pos h hZ
    obtain ⟨h1, h2⟩ := pos_up h
    subst hz
    exact ⟨_, .pos h1 h2, (log32_pos h).symm, logB_dn h1 h2⟩
  | zero hn ho =>
    rw [absF_of hn] at hZ
    obtain ⟨rfl, _⟩ := absF_some hZ
    have hc : FloatKind.f32.decode x = .number false 0 0 ∨ ∃ s m p, FloatKind.f32.decode x = .number s m p ∧ m = 0 := by
      right
      cases e : FloatKind.f32.decode x with
      | nan s t => rw [e] at hn; cases hn
      | infinity s =>
        have e' : FloatKind.f32.format.read x = .infinity s := e
        unfold Ieee.Format.order at ho
        rw [e', show FloatKind.f32.format.read 0 = .number false 0 (-149) from rfl] at ho
        cases s <;> cases ho
      | number s m p =>
        refine ⟨s, m, p, rfl, ?_⟩
        have e' : FloatKind.f32.format.read x = .number s m p := e
        unfold Ieee.Format.order at ho
        rw [e', show FloatKind.f32.format.read 0 = .number false 0 (-149) from rfl] at ho
        have := (order_cmp _ _ _ _ _ _).2.2.1 ho
        rw [v0] at this
        rcases Nat.eq_zero_or_pos m with h | h
        · exact h
        · exfalso
          have hp := mg_pos (Nat.pos_iff_ne_zero.1 h) p
          cases s <;> simp only [vD, sg_f, sg_t] at this <;> grind
    have hu : upBits x = 0 ∨ upBits x = 9223372036854775808 := by
      rcases hc with e | ⟨s, m, p, e, rfl⟩
      · left; unfold upBits; rw [e]; rfl
      · unfold upBits
        rw [e]
        cases s
        · left; rfl
        · right; rfl
    refine ⟨some 18442240474082181120, ?_, ?_, fun w hw => ?_⟩
    · rcases hu with h | h <;> rw [h] <;> exact .zero (by decide) (by decide) (by decide)
    · rw [log32_ord ho (by decide)]; decide
    · obtain ⟨rfl, _⟩ := absF_some hw
      decide
  | neg hn ho =>
    rw [absF_of hn] at hZ
    obtain ⟨rfl, hzn⟩ := absF_some hZ
    refine ⟨none, .neg (num_eq hzn) ?_, by rw [log32_ord ho (by decide)]; rfl, fun w hw => dn_nan hw⟩
    cases e : FloatKind.f32.decode x with
    | nan s t => rw [e] at hn; cases hn
    | infinity s =>
      have e' : FloatKind.f32.format.read x = .infinity s := e
      unfold Ieee.Format.order at ho
      rw [e', show FloatKind.f32.format.read 0 = .number false 0 (-149) from rfl] at ho
      cases s
      · cases ho
      · have : upBits x = 18442240474082181120 := by unfold upBits; rw [e]; rfl
        rw [this]; decide
    | number s m p =>
      have e' : FloatKind.f32.format.read x = .number s m p := e
      unfold Ieee.Format.order at ho
      rw [e', show FloatKind.f32.format.read 0 = .number false 0 (-149) from rfl] at ho
      have hlt := (order_cmp _ _ _ _ _ _).1.1 ho
      rw [v0] at hlt
      obtain ⟨R, eR, hR, hv⟩ := up_val e'
      rw [beq_iff_eq]
      unfold Ieee.Format.order
      rw [eR, read_rung _ _ hR, r0]
      refine (order_cmp _ _ _ _ _ _).1.2 ?_
      rw [← hv, rV_eq] at hlt
      rw [v0]
      exact hlt
set_option maxRecDepth 4096 in
theorem l01Log_any (x : Nat) (hx : InfOk x) (w : World) : Calls Try.prog 43 #[fV x] w fun e w' => ∃ b, e = .returned (fV b) ∧ absF .f32 b = log32 x ∧ ∃ n, w.drewN n = w' := by
  have hk := log_kind hx
  have HK := Lib.hid hk
  clear hx hk
  go_enter Try.func43, Try.ntmps43
  go_wp2_with fail
  generalize hZ : upR x _ = Z
  have hZa : absF .f64 Z = upF (absF .f32 x) := by rw [← hZ]; exact abs_upR _ _
  clear hZ
  obtain ⟨L, h1, h2, h3⟩ := log_case HK.out hZa
  have H2 := Lib.hid h2
  have H3 := Lib.hid h3
  clear h2 h3 hZa
  refine (l01LogWide_any Z L h1 _).mono ?_
  rintro e w' ⟨b, rfl, hb, n, rfl⟩
  have ho := H3.out b hb
  have HB := Lib.hid hb
  clear hb h1
  go_wp2_with fail
  refine (l01Narrow_any _ ho _).mono ?_
  rintro e w' ⟨c, rfl, hc, m, rfl⟩
  have HC := Lib.hid hc
  clear hc ho
  go_wp2
  go_ret
  exact ⟨_, rfl, by rw [HC.out, HB.out, H2.out], _, rfl⟩
set_option maxRecDepth 4096 in
theorem logNumber_any (x : Nat) (hx : InfOk x) (w : World) : Calls Try.prog 45 #[fV x] w fun e w' => ∃ b, e = .returned (fV b) ∧ absF .f32 b = log32 x ∧ ∃ n, w.drewN n = w' := by
  have hk := log_kind hx
  clear hx
  cases hk with
  | nan h =>
    have c1 : (FloatKind.f32.format.order x 0 == some .eq) = false := by rw [nan_ord h]; rfl
    have c2 := nan_neq h
    have HL := Lib.hid (log32_nan h)
    clear h
    go_enter Try.func45, Try.ntmps45
    go_wp2_with (go_at_call 61; refine (mathNaN_any _).mono ?_; rintro e w' ⟨rfl, rfl⟩)
    go_ret
    refine ⟨_, rfl, ?_, _, rfl⟩
    rw [HL.out, abs_dnR _ _ (by decide)]
    decide
  | neg hn h =>
    have c1 : (FloatKind.f32.format.order x 0 == some .eq) = false := by rw [h]; rfl
    have c2 := num_eq hn
    have c3 : (FloatKind.f32.format.order x 0 == some .lt) = true := by rw [h]; rfl
    have HL := Lib.hid (log32_ord h (by decide))
    clear h
    go_enter Try.func45, Try.ntmps45
    go_wp2_with (go_at_call 61; refine (mathNaN_any _).mono ?_; rintro e w' ⟨rfl, rfl⟩)
    go_ret
    refine ⟨_, rfl, ?_, _, rfl⟩
    rw [HL.out, abs_dnR _ _ (by decide)]
    decide
  | zero hn h =>
    have c1 : (FloatKind.f32.format.order x 0 == some .eq) = true := by rw [h]; rfl
    have HL := Lib.hid (log32_ord h (by decide))
    clear h
    go_enter Try.func45, Try.ntmps45
    go_wp2_with (go_at_call 60; refine (mathNegInf_any _).mono ?_; rintro e w' ⟨rfl, rfl⟩)
    go_ret
    refine ⟨_, rfl, ?_, _, rfl⟩
    rw [HL.out, abs_dnR _ _ (by decide)]
    decide
  | inf h =>
    subst h
    have c1 : (FloatKind.f32.format.order 2139095040 0 == some .eq) = false := by decide
    have c2 : (FloatKind.f32.format.order 2139095040 2139095040 != some .eq) = false := by decide
    have c3 : (FloatKind.f32.format.order 2139095040 0 == some .lt) = false := by decide
    have c4 : finB 2139095040 = false := by decide
    go_enter Try.func45, Try.ntmps45
    go_wp2_with (go_at_call 36; refine (isFinite_any _ _).mono ?_; rintro e w' ⟨rfl, n, rfl⟩; rw [c4])
    go_ret
    exact ⟨_, rfl, by decide, _, rfl⟩
  | pos h =>
    obtain ⟨c4, c1, c3, hn⟩ := pos_facts h
    have c2 := num_eq hn
    have HP := Lib.hid h
    have H4 := Lib.hid c4
    clear h hn c4
    go_enter Try.func45, Try.ntmps45
    go_wp2_with (go_at_call 36; refine (isFinite_any _ _).mono ?_; rintro e w' ⟨rfl, n, rfl⟩; rw [H4.out])
    generalize hZ : upR x _ = Z
    have hZa : absF .f64 Z = upF (absF .f32 x) := by rw [← hZ]; exact abs_upR _ _
    have hz := up_pos HP.out hZa
    clear hZ hZa
    subst hz
    obtain ⟨h1, h2⟩ := pos_up HP.out
    have HD := Lib.hid (logB_dn h1 h2)
    refine (logarithm_any _ h1 h2 _).mono ?_
    rintro e w' ⟨b, rfl, hb, m, rfl⟩
    have HB := Lib.hid hb
    clear hb h1 h2
    go_wp2
    go_ret
    refine ⟨_, rfl, ?_, _, rfl⟩
    rw [abs_dnR _ _ (HD.out _ HB.out), HB.out, log32_pos HP.out]
end

section
open Go.RowKit

/-- At least a number of the format's, or above all. -/
def UpE (R : Nat) (o : Option Nat) : Prop :=
  ∃ b, o = some b ∧ ((∃ s m p, FloatKind.f32.format.read b = .number s m p ∧ rV FloatKind.f32.format R ≤ vD (.number s m p)) ∨ FloatKind.f32.format.read b = .infinity false)
theorem UpE.mono {R S : Nat} {o : Option Nat} (h : UpE R o) (hle : S ≤ R) : UpE S o := by
  obtain ⟨b, e, h⟩ := h
  refine ⟨b, e, ?_⟩
  rcases h with ⟨s, m, p, e1, h1⟩ | h
  · exact .inl ⟨s, m, p, e1, Rat.le_trans (rV_le _ hle) h1⟩
  · exact .inr h
theorem read_inf32 : FloatKind.f32.format.read (FloatKind.f32.encode (.infinity false)) = .infinity false := by decide
theorem up_near {R : Nat} {s : Bool} {m : Nat} {p : Int} (h : rV FloatKind.f32.format R ≤ vD (.number s m p)) : UpE R (some (FloatKind.f32.encode (.number s m p))) := by
  refine ⟨_, rfl, ?_⟩
  show (∃ s' m' p', FloatKind.f32.format.read (FloatKind.f32.format.nearest s m p) = .number s' m' p' ∧ _) ∨ FloatKind.f32.format.read (FloatKind.f32.format.nearest s m p) = _
  by_cases hm : m = 0
  · subst hm
    left
    have e : FloatKind.f32.format.nearest s 0 p = FloatKind.f32.format.word s 0 := by unfold Ieee.Format.nearest; rw [if_pos rfl]
    rw [e]
    refine ⟨_, _, _, read_rung _ s (by decide), ?_⟩
    have h0 : vD (.number s 0 p) = 0 := by simp only [vD, mg_zero, sg_zero]
    have e1 : rM FloatKind.f32.format 0 = 0 := by decide
    rw [h0] at h
    simp only [vD, e1, mg_zero, sg_zero]
    exact h
  have hn := nearest_eq FloatKind.f32.format s p hm
  have hv := rV_nn FloatKind.f32.format R
  have hp := mg_pos hm p
  cases s
  case true => simp only [vD, sg_t] at h; exfalso; grind
  simp only [vD, sg_f] at h
  have hr := rung_lo FloatKind.f32.format hm h
  rw [hn]
  by_cases hlt : rungOf FloatKind.f32.format m p < FloatKind.f32.format.infRung
  · left
    rw [Nat.min_eq_left (Nat.le_of_lt hlt)]
    refine ⟨_, _, _, read_rung _ false hlt, ?_⟩
    simp only [vD, sg_f]
    rw [← rV_eq]
    exact rV_le _ hr
  · right
    rw [Nat.min_eq_right (by omega)]
    decide
theorem up_add {R S : Nat} {x y : Option Nat} (hx : UpE R x) (hy : UpE S y) : UpE R (opF .add .f32 x y) ∧ UpE S (opF .add .f32 x y) := by
  obtain ⟨u, rfl, hu⟩ := hx
  obtain ⟨v, rfl, hv⟩ := hy
  have eo : opF .add .f32 (some u) (some v) = ((FloatKind.f32.format.read u).sum (FloatKind.f32.format.read v)).map FloatKind.f32.format.write := rfl
  rw [eo]
  have hR := rV_nn FloatKind.f32.format R
  have hS := rV_nn FloatKind.f32.format S
  have hinf : ∀ T, UpE T (some (FloatKind.f32.encode (.infinity false))) := fun T => ⟨_, rfl, .inr read_inf32⟩
  rcases hu with ⟨s, m, i, eu, hu⟩ | eu <;> rcases hv with ⟨t, n, j, ev, hv⟩ | ev <;> rw [eu, ev]
  · obtain ⟨r, l, p, es, hs⟩ := sum_val s m i t n j
    rw [es]
    exact ⟨up_near (by rw [hs]; grind), up_near (by rw [hs]; grind)⟩
  · exact ⟨hinf _, hinf _⟩
  · exact ⟨hinf _, hinf _⟩
  · exact ⟨hinf _, hinf _⟩
theorem foldl_up {R : Nat} : ∀ (l : List (Option Nat)) (a : Option Nat), (∀ x ∈ l, UpE 0 x) → UpE R a → UpE R (l.foldl (opF .add .f32) a)
  | [], _, _, h => h
  | x :: t, a, hl, h => foldl_up t _ (fun y hy => hl y (by simp [hy])) (up_add h (hl x (by simp))).1
theorem foldl_up_mem {R : Nat} {c : Option Nat} : ∀ (l : List (Option Nat)) (a : Option Nat), (∀ x ∈ l, UpE 0 x) → UpE 0 a → c ∈ l → UpE R c → UpE R (l.foldl (opF .add .f32) a)
  | [], _, _, _, hc, _ => by cases hc
  | x :: t, a, hl, ha, hc, h => by
    rcases List.mem_cons.1 hc with rfl | hc
    · exact foldl_up t _ (fun y hy => hl y (by simp [hy])) (up_add ha h).2
    · exact foldl_up_mem t _ (fun y hy => hl y (by simp [hy])) (up_add ha (hl x (by simp))).1 hc h
theorem rV_two : rV FloatKind.f32.format 1073741824 = p2 1 := by
  rw [rV_eq, show rM FloatKind.f32.format 1073741824 = 2 ^ 23 from by decide, show FloatKind.f32.format.leastPlace + (rJ FloatKind.f32.format 1073741824 : Nat) = -22 from by decide, mg_pow]
  rfl
theorem rV_one : rV FloatKind.f32.format 1065353216 = p2 0 := by
  rw [rV_eq, show rM FloatKind.f32.format 1065353216 = 2 ^ 23 from by decide, show FloatKind.f32.format.leastPlace + (rJ FloatKind.f32.format 1065353216 : Nat) = -23 from by decide, mg_pow]
  rfl
theorem up_far {s : Option Nat} (h : UpE 1073741824 s) : nearA s = false := by
  have hd : UpE 1065353216 (opF .sub .f32 s (some 1065353216)) := by
    obtain ⟨u, rfl, hu⟩ := h
    have eo : opF .sub .f32 (some u) (some 1065353216) = ((FloatKind.f32.format.read u).sum (FloatKind.f32.format.read 1065353216).opposite).map FloatKind.f32.format.write := rfl
    have r1 : (FloatKind.f32.format.read 1065353216).opposite = .number true (2 ^ 23) (-23) := by decide
    rw [eo, r1]
    rcases hu with ⟨t, m, i, eu, hu⟩ | eu <;> rw [eu]
    · obtain ⟨r, l, p, es, hs⟩ := sum_val t m i true (2 ^ 23) (-23)
      rw [es]
      refine up_near ?_
      rw [hs]
      simp only [vD, sg_t]
      rw [mg_pow, rV_one]
      rw [rV_two, show (1 : Int) = 0 + 1 from rfl, p2_add] at hu
      have h2 : p2 1 = p2 0 + p2 0 := by
        have := mg_succ 1 0
        rw [mg_one, show (1 + 1 : Nat) = 2 ^ 1 from rfl, mg_pow] at this
        exact this
      have h0 : p2 0 = 1 := p2_zero
      have e3 : (-23 : Int) + (23 : Nat) = 0 := by omega
      rw [e3]
      rw [h2, h0] at hu
      simp only [vD] at hu
      grind
    · exact ⟨_, rfl, .inr read_inf32⟩
  have key : ordF .f32 (opF .sub .f32 s (some 1065353216)) (some 981668463) = some .gt := by
    obtain ⟨d, e, hd⟩ := hd
    rw [e]
    show (FloatKind.f32.format.read d).order (FloatKind.f32.format.read 981668463) = some .gt
    have rc : FloatKind.f32.format.read 981668463 = .number false 8589935 (-33) := by decide
    rw [rc]
    rcases hd with ⟨t, m, i, ed, hd⟩ | ed <;> rw [ed]
    · refine (order_cmp _ _ _ _ _ _).2.1.2 ?_
      have hlt : vD (.number false 8589935 (-33)) < rV FloatKind.f32.format 1065353216 := by
        rw [rV_one]
        simp only [vD, sg_f]
        have := (mg_lt (p := -33)).2 (show 8589935 < 2 ^ 33 by decide)
        rw [mg_pow] at this
        exact this
      grind
    · rfl
  unfold nearA
  simp only
  rw [key]
  rfl
theorem least_num {c : Nat} (h : leastB c = true) : ∃ s m p, FloatKind.f32.format.read c = .number s m p ∧ 0 ≤ vD (.number s m p) := by
  unfold leastB finB at h
  rw [Bool.and_eq_true] at h
  obtain ⟨h1, h2⟩ := h
  cases e : FloatKind.f32.decode c with
  | nan s t => rw [e] at h1; cases h1
  | infinity s => rw [e] at h1; cases h1
  | number s m p =>
    have e' : FloatKind.f32.format.read c = .number s m p := e
    refine ⟨s, m, p, e', ?_⟩
    have v0 : vD (.number false 0 (-149)) = 0 := by simp only [vD, mg_zero, sg_zero]
    have ho : ord32 c 0 = (Ieee.Datum.number s m p).order (.number false 0 (-149)) := by
      show (FloatKind.f32.format.read c).order (FloatKind.f32.format.read 0) = _
      rw [e']; rfl
    rw [ho] at h2
    rw [Bool.or_eq_true, beq_iff_eq, beq_iff_eq] at h2
    rcases h2 with h2 | h2
    · have := (order_cmp _ _ _ _ _ _).2.1.1 h2
      rw [v0] at this
      exact Rat.le_of_lt this
    · have := (order_cmp _ _ _ _ _ _).2.2.1 h2
      rw [v0] at this
      rw [this]; exact Rat.le_refl
theorem num_abs {c : Nat} {s : Bool} {m : Nat} {p : Int} (h : FloatKind.f32.format.read c = .number s m p) : absF .f32 c = some c := by
  refine absF_of ?_
  show (FloatKind.f32.format.read c).isNaN = false
  rw [h]; rfl
theorem least_up {c : Nat} (h : leastB c = true) : UpE 0 (absF .f32 c) := by
  obtain ⟨s, m, p, e, hv⟩ := least_num h
  exact ⟨c, num_abs e, .inl ⟨s, m, p, e, by rw [rV_zero]; exact hv⟩⟩
theorem zero_up : UpE 0 (some 0) := ⟨0, rfl, .inl ⟨false, 0, -149, rfl, by rw [rV_zero]; simp only [vD, mg_zero, sg_zero]; exact Rat.le_refl⟩⟩
/-- A chance of a share stands from 0 to 2. -/
theorem chance_bet {cs : List Nat} {c : Nat} (h : cs.all leastB = true) (hn : nearA (sumF (absL cs)) = true) (hc : c ∈ cs) : Bet .f32 (absF .f32 c) 0 (p2 1) := by
  have hl := List.all_eq_true.1 h
  obtain ⟨s, m, p, e, hv⟩ := least_num (hl c hc)
  rw [num_abs e]
  refine bet_of e hv ?_
  refine Rat.not_lt.1 fun hlt => ?_
  have hup : UpE 1073741824 (absF .f32 c) := ⟨c, num_abs e, .inl ⟨s, m, p, e, by rw [rV_two]; exact Rat.le_of_lt hlt⟩⟩
  have := up_far (foldl_up_mem (absL cs) (some 0) (fun x hx => by
    obtain ⟨y, hy, rfl⟩ := List.mem_map.1 hx
    exact least_up (hl y hy)) zero_up (List.mem_map.2 ⟨c, hc, rfl⟩) hup)
  rw [show sumF (absL cs) = (absL cs).foldl (opF .add .f32) (some 0) from rfl, this] at hn
  cases hn

/-! The entropy. -/
def posG (c : Nat) : Bool := FloatKind.f32.format.order c 0 == some .gt
def entT (c : Nat) : Option Nat := opF .quo .f32 (opF .mul .f32 (absF .f32 c) (log32 c)) (some 1060205080)
def entStep (s : Option Nat) (c : Nat) : Option Nat := if posG c = true then opF .add .f32 s (entT c) else s
def entTo (cs : List Nat) (k : Nat) : Option Nat := (cs.take k).foldl entStep (some 0)
theorem entTo_succ {cs : List Nat} {k c : Nat} (h : cs[k]? = some c) : entTo cs (k + 1) = entStep (entTo cs k) c := by simp [entTo, take_snoc h]
theorem log32_bet {c : Nat} (h : posB c = true) : Bet .f32 (log32 c) (-p2 15) (p2 15) := by
  rw [log32_pos h]
  obtain ⟨h1, h2⟩ := pos_up h
  have hb := logB_bet (norm_in (upBits c)).1 (norm_in (upBits c)).2 (normE_in h1 h2).1 (normE_in h1 h2).2
  have hr := rep32 (E := 15) (by omega) (by omega)
  exact (bet_dn hb (rep_neg hr) hr).1
theorem bet_ln2f : Bet .f32 (some 1060205080) (p2 (-1)) (p2 0) := by
  have := bet_lit (k := .f32) (b := 1060205080) (m := 11629080) (s := false) (p := -24) (by decide)
  simp only [vD, sg_f] at this
  refine this.mono ?_ ?_
  · have h := (mg_le (p := -24)).2 (show 2 ^ 23 ≤ 11629080 by decide)
    rw [mg_pow] at h
    exact h
  · have h := (mg_le (p := -24)).2 (show 11629080 ≤ 2 ^ 24 by decide)
    rw [mg_pow] at h
    exact h
theorem entT_bet {c : Nat} (h : posB c = true) (hc : Bet .f32 (absF .f32 c) 0 (p2 1)) : Bet .f32 (entT c) (-p2 17) (p2 17) := by
  have h1 := p2_nn 1
  have hm := bet_mul2 (hc.mono (lo := -p2 1) (by grind) Rat.le_refl) (log32_bet h) (rep32 (by omega) (by omega))
  refine bet_quo hm bet_ln2f (p2_pos _) (rep32 (E := 17) (by omega) (by omega)) ?_ (.inr rfl) (.inr rfl)
  intro u v u1 u2 v1 v2
  have e : p2 (1 + 15) = p2 17 * p2 (-1) := by rw [← p2_add]; rfl
  have := Rat.mul_le_mul_of_nonneg_left v1 (p2_nn 17)
  rw [e] at u1 u2
  constructor <;> grind
theorem rep_cnt32 {n : Nat} (h0 : n ≠ 0) (h : n < 256) : RepK .f32 (mg n 17) := by
  have hl : n.log2 < 8 := (Nat.log2_lt h0).2 h
  refine rep_mg h0 ?_ ?_ ?_
  · show n.log2 ≤ 23; omega
  · show (-149 : Int) ≤ 17 - ((23 - n.log2 : Nat) : Int); omega
  · show (17 - ((23 - n.log2 : Nat) : Int) - (-149)).toNat + 2 < 255; omega
theorem entTo_bet {cs : List Nat} (h : cs.all leastB = true) (hn : nearA (sumF (absL cs)) = true) : ∀ k, k ≤ cs.length → k ≤ 200 → Bet .f32 (entTo cs k) (-mg (k + 1) 17) (mg (k + 1) 17)
  | 0, _, _ => by
    have h0 : Bet .f32 (some 0) 0 0 := by
      have := bet_lit (k := .f32) (b := 0) (m := 0) (s := false) (p := -149) (by decide)
      simp only [vD, mg_zero, sg_zero] at this
      exact this
    have := mg_nn (0 + 1) 17
    exact h0.mono (by grind) this
  | k + 1, hk, hk2 => by
    have ih := entTo_bet h hn k (by omega) (by omega)
    obtain ⟨c, hc⟩ := get_of_lt (xs := cs) (k := k) (by omega)
    have hm := List.mem_of_getElem? hc
    rw [entTo_succ hc]
    unfold entStep
    have hs := mg_succ (k + 1) 17
    have hp := p2_nn 17
    by_cases hg : posG c = true
    · rw [if_pos hg]
      have hb : posB c = true := by
        have := List.all_eq_true.1 h c hm
        unfold leastB at this
        rw [Bool.and_eq_true] at this
        unfold posB
        rw [this.1]
        exact hg
      have hr := rep_cnt32 (n := k + 1 + 1) (by omega) (by omega)
      refine bet_add ih (entT_bet hb (chance_bet h hn hm)) (rep_neg hr) hr ?_ ?_ <;> grind
    · rw [if_neg hg]
      exact ih.mono (by grind) (by grind)
theorem shareB_near {v c : List Nat} (h : shareB v c = true) : c.all leastB = true ∧ nearA (sumF (absL c)) = true := by
  unfold shareB at h
  simp only [Bool.and_eq_true] at h
  exact h.2
/-- The entropy of a share is a number. -/
theorem ent_num {v c : List Nat} (h : shareB v c = true) : ∃ b s m p, entTo c c.length = some b ∧ FloatKind.f32.format.read b = .number s m p := by
  obtain ⟨h1, h2⟩ := shareB_near h
  obtain ⟨⟨_, h3⟩, h4⟩ := shareB_len h
  obtain ⟨b, e, hb⟩ := entTo_bet h1 h2 c.length (Nat.le_refl _) (by omega)
  obtain ⟨s, m, p, er, _⟩ := hb.read
  exact ⟨b, s, m, p, e, er⟩
end

section
open Go.RowKit
attribute [local go_sem] run_fl_add run_fl_sub run_fl_mul run_fl_quo run_up_ run_neg_fl

def entR (x0 x1 : List Nat) : Option Nat := if shareB x0 x1 = true then (entTo x1 x1.length).map (Op.negFloat .f32) else some 0
def RetEntropyOf (x0 x1 : List Nat) (w : World) (e : Ending) (w' : World) : Prop :=
  ∃ b, e = .returned (.tuple #[fV b, .bool (shareB x0 x1)]) ∧ absF .f32 b = entR x0 x1 ∧ Below w.heap.size w w'
theorem entR_no {x0 x1 : List Nat} (h : shareB x0 x1 = false) : entR x0 x1 = some 0 := by unfold entR; rw [h]; rfl
theorem ent_out {x0 x1 : List Nat} {b : Nat} (h : shareB x0 x1 = true) (hb : absF .f32 b = entTo x1 x1.length) : finB (Op.negFloat .f32 b) = true ∧ numF (Op.negFloat .f32 b) = Op.negFloat .f32 b ∧ absF .f32 (Op.negFloat .f32 b) = entR x0 x1 := by
  obtain ⟨b', s, m, p, e, er⟩ := ent_num h
  rw [e] at hb
  obtain ⟨rfl, _⟩ := absF_some hb
  have hr : FloatKind.f32.format.read (Op.negFloat .f32 b) = .number (!s) m p := by rw [read_neg, er]; rfl
  have hf : finB (Op.negFloat .f32 b) = true := by
    unfold finB
    have : FloatKind.f32.decode (Op.negFloat .f32 b) = .number (!s) m p := hr
    rw [this]
  refine ⟨hf, by unfold numF; rw [hf]; rfl, ?_⟩
  unfold entR
  rw [if_pos h, e, num_abs hr]
  rfl
theorem infOk_fin {c : Nat} (h : finB c = true) : InfOk c := by
  intro e
  unfold finB at h
  rw [e] at h
  cases h
theorem chance_at {x0 x1 : List Nat} {k c : Nat} (h : shareB x0 x1 = true) (hc : x1[k]? = some c) : InfOk c ∧ entTo x1 (k + 1) = entStep (entTo x1 k) c := by
  have hl := List.all_eq_true.1 (shareB_near h).1 c (List.mem_of_getElem? hc)
  unfold leastB at hl
  rw [Bool.and_eq_true] at hl
  exact ⟨infOk_fin hl.1, entTo_succ hc⟩
theorem entStep_t {s : Option Nat} {c : Nat} (h : (FloatKind.f32.format.order c 0 == some .gt) = true) : entStep s c = opF .add .f32 s (opF .quo .f32 (opF .mul .f32 (absF .f32 c) (log32 c)) (some 1060205080)) := if_pos h
theorem entStep_f {s : Option Nat} {c : Nat} (h : (FloatKind.f32.format.order c 0 == some .gt) = false) : entStep s c = s := by
  unfold entStep posG
  rw [h]; rfl
theorem enter_l01Log (args : Array Value) (w : World) : (callFunc 43 args).run Try.prog w = .ok (.enter 43 args) w :=
  enter_of Try.func43 (by kernel_rfl) (by kernel_rfl) args w
theorem drew_trans {w w1 w2 : World} (h : ∃ n, w1 = w.drewN n) (h2 : ∃ n, w1.drewN n = w2) : ∃ n, w2 = w.drewN n := by
  obtain ⟨n, rfl⟩ := h
  obtain ⟨m, rfl⟩ := h2
  exact ⟨n + m, by rw [World.drewN_drewN]⟩
theorem lit_ln2 : absF .f32 1060205080 = some 1060205080 := absF_of (by decide)

end
end Go.Proofs.Ytimpabceellihaa
