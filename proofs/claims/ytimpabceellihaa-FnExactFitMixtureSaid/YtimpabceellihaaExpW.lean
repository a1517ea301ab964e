/-
  The walks of impl.exponential, impl.ExpNumber, spec.l01ExpWide, spec.l01Exp.
-/
import Derived.Test.YtimpabceellihaaExp
import Derived.Test.YtimpabceellihaaFp
namespace Go.Proofs.Ytimpabceellihaa
open Go.RowKit
attribute [local go_sem] run_fl_add run_fl_sub run_fl_mul run_fl_quo run_up_

abbrev dV (b : Nat) : Value := .float .f64 b
/-- The whole numbers as float64s, from 0 on. -/
def iF (n : Nat) : Nat := floatOfInt .f64 (n : Int)
theorem absD {b : Nat} (h : (FloatKind.f64.decode b).isNaN = false) : absF .f64 b = some b := absF_of h
theorem iF_tab : ∀ n, n < 256 → (FloatKind.f64.decode (iF n)).isNaN = false ∧ floatBits .sub .f64 (iF (n + 1)) 4607182418800017408 = some (iF n) ∧ floatBits .add .f64 (iF n) 4607182418800017408 = some (iF (n + 1)) ∧ (FloatKind.f64.format.order (iF (n + 1)) 4607182418800017408 == some .gt || FloatKind.f64.format.order (iF (n + 1)) 4607182418800017408 == some .eq) = true ∧ iF n < iF (n + 1) := by decide +kernel
theorem iF_nan {n : Nat} (h : n < 256) : absF .f64 (iF n) = some (iF n) := absD (iF_tab n h).1
theorem flR_some {op : BinOp} {k : FloatKind} {x y r : Nat} (h : floatBits op k x y = some r) (w : World) : flR op k x y w = r := by unfold flR; rw [h]; rfl
theorem iF_down {n : Nat} (h : n < 256) (w : World) : flR .sub .f64 (iF (n + 1)) 4607182418800017408 w = iF n := flR_some (iF_tab n h).2.1 w
theorem iF_up {n : Nat} (h : n < 256) (w : World) : flR .add .f64 (iF n) 4607182418800017408 w = iF (n + 1) := flR_some (iF_tab n h).2.2.1 w

theorem run_frombits64 (b : Nat) (w : World) : (callFunc 70 #[.int .u64 (b : Int)]).run Try.prog w = .ok (.value (.float .f64 b)) w := by kernel_rfl
theorem mathInf_any (w : World) : Calls Try.prog 60 #[.int .i64 1] w fun e w' => e = .returned (dV 9218868437227405312) ∧ w = w' := by
  have hr : ∀ w, (callFunc 70 #[.int .u64 9218868437227405312]).run Try.prog w = .ok (.value (.float .f64 9218868437227405312)) w := run_frombits64 9218868437227405312
  go_enter Try.func60, Try.ntmps60
  go_wp2
  go_ret
  exact ⟨rfl, rfl⟩
theorem iF12 : dV 4622945017495814144 = dV (iF 12) := by
  have : iF 12 = 4622945017495814144 := by decide +kernel
  rw [this]
def wordF : Value → Nat | .float _ b => b | _ => 0
theorem wordF_f (b : Nat) : wordF (dV b) = b := rfl
set_option maxHeartbeats 1600000 in
theorem exponential_any (y : Nat) (w : World) : Calls Try.prog 67 #[dV y] w fun e w' => ∃ b, e = .returned (dV b) ∧ absF .f64 b = expA (absF .f64 y) ∧ ∃ n, w.drewN n = w' := by
  unfold expA
  rw [← absD (b := 4641240890982006784) (by decide), ← absD (b := 13864612927836782592) (by decide), ← ord_abs, ← ord_abs]
  cases h1 : (FloatKind.f64.format.order y 4641240890982006784 == some .gt)
  · cases h2 : (FloatKind.f64.format.order y 13864612927836782592 == some .lt)
    · go_enter Try.func67, Try.ntmps67
      go_wp2
      go_loopw [4, 5] (fun sp sk wr => ∃ (n p : Nat), n ≤ 12 ∧ sp = dV p ∧ sk = dV (iF n) ∧ Hid (absF .f64 p = expP (opF .quo .f64 (absF .f64 y) (some 4643211215818981376)) (12 - n)) ∧ ∃ n, w.drewN n = wr) (fun _ sk _ => wordF sk)
      case atStart => exact ⟨12, _, by omega, rfl, iF12, by unfold Hid; rw [Nat.sub_self, expP]; exact absD (by decide), _, rfl⟩
      case round =>
        obtain ⟨n, p, hn, rfl, rfl, hp, q, rfl⟩ := hrel
        cases n with
        | succ n =>
          obtain ⟨-, t2, -, t4, t5⟩ := iF_tab n (by omega)
          have HT2 := Lib.hid t2
          have HT5 := Lib.hid t5
          clear t2 t5
          go_wp2
          go_roundw
          case rel =>
            refine ⟨n, _, by omega, rfl, ?_, ?_, _, rfl⟩
            · rw [flR_some HT2.out]
            · have e : 12 - n = (12 - (n + 1)) + 1 := by omega
              unfold Hid
              rw [e, abs_flR .add rfl, abs_flR .quo rfl, abs_flR .mul rfl, hp.out, absD (b := 4607182418800017408) (by decide), abs_flR .quo rfl, absD (b := 4643211215818981376) (by decide), iF_nan (n := n + 1) (by omega)]
              rw [expP, show 12 - (12 - (n + 1)) = n + 1 by omega, iF]
          case measure =>
            rw [wordF_f, wordF_f, flR_some HT2.out]
            exact HT5.out
        | zero =>
          have t4 : (FloatKind.f64.format.order (iF 0) 4607182418800017408 == some .gt || FloatKind.f64.format.order (iF 0) 4607182418800017408 == some .eq) = false := by decide
          go_wp2
          go_loopw [4, 25] (fun sp sk wr => ∃ (j p : Nat), j ≤ 8 ∧ sp = dV p ∧ sk = .int .i64 j ∧ Hid (absF .f64 p = sqP (expP (opF .quo .f64 (absF .f64 y) (some 4643211215818981376)) 12) j) ∧ ∃ n, w.drewN n = wr) (fun _ sk _ => 8 - (intOf sk).toNat)
          case atStart => exact ⟨0, _, by omega, rfl, rfl, by unfold Hid; rw [sqP]; exact hp.out, _, rfl⟩
          case round =>
            obtain ⟨j, p, hj, rfl, rfl, hp, q, rfl⟩ := hrel
            by_cases hlt : j < 8
            · go_wp2
              go_roundw
              case rel => exact ⟨j + 1, _, by omega, rfl, by go_num, by unfold Hid; rw [abs_flR .mul rfl, hp.out, sqP], _, rfl⟩
              case measure => simp [intOf]; omega
            · have hje : j = 8 := by omega
              subst hje
              go_wp2
              go_ret
              refine ⟨_, rfl, ?_, _, rfl⟩
              unfold expB
              exact hp.out
    · go_enter Try.func67, Try.ntmps67
      go_wp2
      go_ret
      exact ⟨_, rfl, absD (by decide), 0, rfl⟩
  · go_enter Try.func67, Try.ntmps67
    go_wp2_with (go_at_call 60; refine (mathInf_any _).mono ?_; rintro e w' ⟨rfl, rfl⟩)
    go_ret
    exact ⟨_, rfl, absD (by decide), 0, rfl⟩
set_option maxHeartbeats 1600000 in
set_option maxRecDepth 4096 in
theorem l01ExpWide_any (y : Nat) (w : World) : Calls Try.prog 63 #[dV y] w fun e w' => ∃ b, e = .returned (dV b) ∧ absF .f64 b = expA (absF .f64 y) ∧ ∃ n, w.drewN n = w' := by
  cases hn : (FloatKind.f64.format.order y y != some .eq)
  case true =>
    have hz : absF .f64 y = none := by
      refine absF_nan ?_
      rw [← Bool.not_eq_false]
      intro h
      have := ord_refl (k := .f64) h
      rw [this] at hn
      cases hn
    go_enter Try.func63, Try.ntmps63
    go_wp2
    go_ret
    exact ⟨_, rfl, by rw [hz]; rfl, 0, rfl⟩
  unfold expA
  rw [← absD (b := 4641240890982006784) (by decide), ← absD (b := 13864612927836782592) (by decide), ← ord_abs, ← ord_abs]
  cases h1 : (FloatKind.f64.format.order y 4641240890982006784 == some .gt)
  · cases h2 : (FloatKind.f64.format.order y 13864612927836782592 == some .lt)
    · go_enter Try.func63, Try.ntmps63
      go_wp2
      go_loopw [4, 5] (fun sp sk wr => ∃ (n p : Nat), n ≤ 12 ∧ sp = dV p ∧ sk = .int .i64 (n : Int) ∧ Hid (absF .f64 p = expP (opF .quo .f64 (absF .f64 y) (some 4643211215818981376)) (12 - n)) ∧ ∃ n, w.drewN n = wr) (fun _ sk _ => (intOf sk).toNat)
      case atStart => exact ⟨12, _, by omega, rfl, rfl, by unfold Hid; rw [Nat.sub_self, expP]; exact absD (by decide), _, rfl⟩
      case round =>
        obtain ⟨n, p, hn, rfl, rfl, hp, q, rfl⟩ := hrel
        cases n with
        | succ n =>
          go_wp2
          go_roundw
          case rel =>
            refine ⟨n, _, by omega, rfl, by go_num, ?_, _, rfl⟩
            have e : 12 - n = (12 - (n + 1)) + 1 := by omega
            have e2 : absF .f64 (floatOfInt .f64 ((n + 1 : Nat) : Int)) = some (floatOfInt .f64 ((n + 1 : Nat) : Int)) := iF_nan (n := n + 1) (by omega)
            unfold Hid
            rw [e, abs_flR .add rfl, abs_flR .quo rfl, abs_flR .mul rfl, hp.out, absD (b := 4607182418800017408) (by decide), abs_flR .quo rfl, absD (b := 4643211215818981376) (by decide), show (n : Int) + 1 = ((n + 1 : Nat) : Int) from rfl, e2]
            rw [expP, show 12 - (12 - (n + 1)) = n + 1 by omega]
          case measure => simp [intOf]
        | zero =>
          go_wp2
          go_loopw [4, 6] (fun sp sk wr => ∃ (j p : Nat), j ≤ 8 ∧ sp = dV p ∧ sk = .int .i64 j ∧ Hid (absF .f64 p = sqP (expP (opF .quo .f64 (absF .f64 y) (some 4643211215818981376)) 12) j) ∧ ∃ n, w.drewN n = wr) (fun _ sk _ => 8 - (intOf sk).toNat)
          case atStart => exact ⟨0, _, by omega, rfl, rfl, by unfold Hid; rw [sqP]; exact hp.out, _, rfl⟩
          case round =>
            obtain ⟨j, p, hj, rfl, rfl, hp, q, rfl⟩ := hrel
            by_cases hlt : j < 8
            · go_wp2
              go_roundw
              case rel => exact ⟨j + 1, _, by omega, rfl, by go_num, by unfold Hid; rw [abs_flR .mul rfl, hp.out, sqP], _, rfl⟩
              case measure => simp [intOf]; omega
            · have hje : j = 8 := by omega
              subst hje
              go_wp2
              go_ret
              refine ⟨_, rfl, ?_, _, rfl⟩
              unfold expB
              exact hp.out
    · go_enter Try.func63, Try.ntmps63
      go_wp2
      go_ret
      exact ⟨_, rfl, absD (by decide), 0, rfl⟩
  · go_enter Try.func63, Try.ntmps63
    go_wp2_with (go_at_call 60; refine (mathInf_any _).mono ?_; rintro e w' ⟨rfl, rfl⟩)
    go_ret
    exact ⟨_, rfl, absD (by decide), 0, rfl⟩
theorem run_dn_ (b : Nat) (W : World) : (convert 42 39 (.float .f64 b)).run Try.prog W = .ok (.float .f32 (dnR b W)) (W.drewN (dnN b)) := run_dn _ _ (by kernel_rfl) Try.underlying39 b W
attribute [local go_sem] run_dn_
set_option maxRecDepth 4096 in
theorem expNumber_any (x : Nat) (hx : NegS .f32 (absF .f32 x)) (w : World) : Calls Try.prog 53 #[fV x] w fun e w' => ∃ b, e = .returned (fV b) ∧ absF .f32 b = exp32 (absF .f32 x) ∧ ∃ n, w.drewN n = w' := by
  have HE := Lib.hid (exp32_bet hx).2
  clear hx
  go_enter Try.func53, Try.ntmps53
  go_wp2_with (go_at_call 67; refine (exponential_any _ _).mono ?_; rintro e w' ⟨b, rfl, hb, n, rfl⟩)
  have HB := Lib.hid hb
  clear hb
  go_wp2
  go_ret
  refine ⟨_, rfl, ?_, _, rfl⟩
  rw [abs_upR] at HB
  rw [abs_dnR _ _ (HE.out _ HB.out), HB.out]
  rfl
theorem l01Narrow_any (y : Nat) (ho : dnOver y = false) (w : World) : Calls Try.prog 50 #[dV y] w fun e w' => ∃ b, e = .returned (fV b) ∧ absF .f32 b = dnF (absF .f64 y) ∧ ∃ n, w.drewN n = w' := by
  have HO := Lib.hid ho
  clear ho
  go_enter Try.func50, Try.ntmps50
  go_wp2
  go_ret
  exact ⟨_, rfl, abs_dnR _ _ HO.out, _, rfl⟩
set_option maxRecDepth 4096 in
theorem l01Exp_any (x : Nat) (hx : NegS .f32 (absF .f32 x)) (w : World) : Calls Try.prog 49 #[fV x] w fun e w' => ∃ b, e = .returned (fV b) ∧ absF .f32 b = exp32 (absF .f32 x) ∧ ∃ n, w.drewN n = w' := by
  have HE := Lib.hid (exp32_bet hx).2
  clear hx
  go_enter Try.func49, Try.ntmps49
  go_wp2_with (go_at_call 63; refine (l01ExpWide_any _ _).mono ?_; rintro e w' ⟨b, rfl, hb, n, rfl⟩)
  rw [abs_upR] at hb
  have HB := Lib.hid hb
  have ho := Lib.hid (HE.out _ hb)
  clear hb
  go_wp2_with (go_at_call 50; refine (l01Narrow_any _ ho.out _).mono ?_; rintro e w' ⟨c, rfl, hc, m, rfl⟩)
  have HC := Lib.hid hc
  clear hc
  go_wp2
  go_ret
  refine ⟨_, rfl, ?_, _, rfl⟩
  rw [HC.out, HB.out]
  rfl
end Go.Proofs.Ytimpabceellihaa
