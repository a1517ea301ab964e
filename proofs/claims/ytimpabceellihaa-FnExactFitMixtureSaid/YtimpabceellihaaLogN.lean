/-
  The walks of impl.LogNumber, spec.l01LogWide and spec.l01Log.
-/
import Derived.Test.YtimpabceellihaaLogW
namespace Go.Proofs.Ytimpabceellihaa
open Go.RowKit
attribute [local go_sem] run_fl_add run_fl_sub run_fl_mul run_fl_quo run_up_ run_dn_

theorem mathNegInf_any (w : World) : Calls Try.prog 60 #[.int .i64 (-1)] w fun e w' => e = .returned (dV 18442240474082181120) ∧ w = w' := by
  have hr : ∀ w, (callFunc 70 #[.int .u64 18442240474082181120]).run Try.prog w = .ok (.value (.float .f64 18442240474082181120)) w := run_frombits64 18442240474082181120
  go_enter Try.func60, Try.ntmps60
  go_wp2
  go_ret
  exact ⟨rfl, rfl⟩
theorem mathNaN_any (w : World) : Calls Try.prog 61 #[] w fun e w' => e = .returned (dV 9221120237041090561) ∧ w = w' := by
  have hr : ∀ w, (callFunc 70 #[.int .u64 9221120237041090561]).run Try.prog w = .ok (.value (.float .f64 9221120237041090561)) w := run_frombits64 9221120237041090561
  go_enter Try.func61, Try.ntmps61
  go_wp2
  go_ret
  exact ⟨rfl, rfl⟩
theorem isInf1_any (y : Nat) (w : World) : Calls Try.prog 69 #[dV y, .int .i64 1] w fun e w' => e = .returned (.bool (FloatKind.f64.format.order y 9218868437227405311 == some .gt)) ∧ w = w' := by
  go_enter Try.func69, Try.ntmps69
  go_wp2
  go_ret
  exact ⟨rfl, rfl⟩
/-- What 'x != x', 'x < 0', 'x == 0' say. -/
theorem nan_neq {k : FloatKind} {x : Nat} (h : absF k x = none) : (k.format.order x x != some .eq) = true := by
  have := absF_none h
  have e : k.format.order x x = none := ord_nan this
  rw [e]; rfl
theorem num_eq {k : FloatKind} {x : Nat} (h : (k.decode x).isNaN = false) : (k.format.order x x != some .eq) = false := by
  rw [ord_refl h]; rfl
theorem nan_ord {k : FloatKind} {x c : Nat} (h : absF k x = none) : k.format.order x c = none := ord_nan (absF_none h)
/-- The kinds of a float64 that the logarithm parts. -/
inductive LogCase (Z : Nat) : Option Nat → Prop
  | nan : absF .f64 Z = none → LogCase Z none
  | neg : (FloatKind.f64.format.order Z Z != some .eq) = false → (FloatKind.f64.format.order Z 0 == some .lt) = true → LogCase Z none
  | zero : (FloatKind.f64.format.order Z Z != some .eq) = false → (FloatKind.f64.format.order Z 0 == some .lt) = false → (FloatKind.f64.format.order Z 0 == some .eq) = true → LogCase Z (some 18442240474082181120)
  | inf : Z = 9218868437227405312 → LogCase Z (some 9218868437227405312)
  | pos : 3935144174415872000 ≤ Z → Z < 5183643171103440896 → LogCase Z (logB (some (normY Z)) (some (dI (normE Z))))
set_option maxHeartbeats 3200000 in
set_option maxRecDepth 4096 in
theorem l01LogPos_any (X : Nat) (h1 : 3935144174415872000 ≤ X) (h2 : X < 5183643171103440896) (w : World) :
    Calls Try.prog 59 #[dV X] w fun e w' => ∃ b, e = .returned (dV b) ∧ absF .f64 b = logB (some (normY X)) (some (dI (normE X))) ∧ ∃ n, w.drewN n = w' := by
  have hX : X < FloatKind.f64.format.infRung := by show X < 9218868437227405312; omega
  have c1 : (FloatKind.f64.format.order X X != some .eq) = false := num_eq (by show (FloatKind.f64.format.read X).isNaN = false; rw [read_pos (k := .f64) hX]; rfl)
  have c2 : (FloatKind.f64.format.order X 0 == some .lt) = false := by rw [lt_word (by omega) (by omega)]; exact decide_eq_false (by omega)
  have c3 : (FloatKind.f64.format.order X 0 == some .eq) = false := by
    rw [beq_eq_false_iff_ne]
    intro h
    have := (ord_word (k := .f64) hX (S := 0) (inf_pos .f64)).2.2.1 h
    omega
  have c4 : (FloatKind.f64.format.order X 9218868437227405311 == some .gt) = false := by
    rw [beq_eq_false_iff_ne]
    intro h
    have := (ord_word (k := .f64) hX (S := 9218868437227405311) (by show (9218868437227405311 : Nat) < 9218868437227405312; omega)).2.1.1 h
    omega
  clear hX
  go_enter Try.func59, Try.ntmps59
  go_wp2_with (go_at_call 69; refine (isInf1_any _ _).mono ?_; rintro e w' ⟨rfl, rfl⟩; rw [c4])
  clear c1 c2 c3 c4
  go_loopw [0, 3] (fun s0 s3 wr => ∃ (Y : Nat) (e : Int), s0 = dV Y ∧ s3 = .int .i64 e ∧ (Y : Int) + e * 4503599627370496 = X ∧ 3935144174415872000 ≤ Y ∧ Y < 5183643171103440896 ∧ ∃ n, w.drewN n = wr) (fun s0 _ _ => wordF s0)
  case atStart => exact ⟨X, 0, rfl, rfl, by omega, h1, h2, 0, rfl⟩
  case round =>
    obtain ⟨Y, e, rfl, rfl, hXY, hY1, hY2, q, rfl⟩ := hrel
    have hc := ge_word (X := Y) (C := 4609434218613702656) (by omega) (by omega)
    by_cases hlt : 4609434218613702656 ≤ Y
    · rw [decide_eq_true hlt] at hc
      go_wp2
      go_roundw
      case rel =>
        refine ⟨Y - 4503599627370496, e + 1, ?_, by go_num, by omega, by omega, by omega, _, rfl⟩
        rw [half_R (by omega) (by omega)]
      case measure =>
        rw [wordF_f, wordF_f, half_R (by omega) (by omega)]
        omega
    · rw [decide_eq_false hlt] at hc
      go_wp2
      go_loopw [0, 3] (fun s0 s3 wr => ∃ (Y : Nat) (e : Int), s0 = dV Y ∧ s3 = .int .i64 e ∧ (Y : Int) + e * 4503599627370496 = X ∧ 3935144174415872000 ≤ Y ∧ Y < 4609434218613702656 ∧ ∃ n, w.drewN n = wr) (fun s0 _ _ => 5200000000000000000 - wordF s0)
      case atStart => exact ⟨Y, e, rfl, rfl, hXY, by omega, by omega, _, rfl⟩
      case round =>
        obtain ⟨Z, g, rfl, rfl, hXZ, hZ1, hZ2, q, rfl⟩ := hrel
        have hd := lt_word (X := Z) (C := 4604930618986332160) (by omega) (by omega)
        by_cases hge : Z < 4604930618986332160
        · rw [decide_eq_true hge] at hd
          go_wp2
          go_roundw
          case rel =>
            refine ⟨Z + 4503599627370496, g - 1, ?_, by go_num, by omega, by omega, by omega, _, rfl⟩
            rw [twice_R (by omega) (by omega)]
          case measure =>
            rw [wordF_f, wordF_f, twice_R (by omega) (by omega)]
            omega
        · rw [decide_eq_false hge] at hd
          obtain ⟨n1, n2⟩ := norm_of (by omega) (by omega) hXZ
          have HN1 := Lib.hid n1
          have HN2 := Lib.hid n2
          have hZt : Z < 9218868437227405312 := by omega
          have hg1 : -300 ≤ g := by omega
          have hg2 : g < 300 := by omega
          clear hc hXY hY1 hY2 hlt hXZ n1 n2 hZ1 hZ2 hge
          have HZ := Lib.hid hZt
          clear hZt
          go_wp2
          generalize hs : flR .quo .f64 (flR .sub .f64 Z 4607182418800017408 _) (flR .add .f64 Z 4607182418800017408 _) _ = S
          have HS : Hid (absF .f64 S = logS (some Z)) := by unfold Hid; rw [← hs]; exact logS_abs HZ.out
          clear hs
          generalize hu : flR .mul .f64 S S _ = U
          have HU : Hid (absF .f64 U = opF .mul .f64 (logS (some Z)) (logS (some Z))) := by unfold Hid; rw [← hu, abs_flR .mul rfl, HS.out]
          clear hu
          go_loopw [6, 7] (fun sq sk wr => ∃ (j q : Nat), j ≤ 13 ∧ sq = dV q ∧ sk = .int .i64 (25 - 2 * (j : Int)) ∧ Hid (absF .f64 q = logQ (absF .f64 U) j) ∧ ∃ n, w.drewN n = wr) (fun _ sk _ => (intOf sk + 1).toNat)
          case atStart => exact ⟨0, 0, by omega, rfl, rfl, by unfold Hid; rw [logQ]; exact absD (by decide), _, rfl⟩
          case round =>
            obtain ⟨j, qq, hj, rfl, rfl, hq, nn, rfl⟩ := hrel
            by_cases hj13 : j < 13
            · go_wp2
              go_roundw
              case rel =>
                refine ⟨j + 1, _, by omega, rfl, by go_num, ?_, _, rfl⟩
                unfold Hid
                rw [logQ, abs_flR .add rfl, abs_flR .quo rfl, abs_flR .mul rfl, hq.out, absD (b := 4607182418800017408) (by decide), show floatOfInt .f64 (25 - 2 * (j : Int)) = dI (25 - 2 * (j : Int)) from rfl, dI_nan (by omega) (by omega)]
              case measure => simp [intOf]; omega
            · have hje : j = 13 := by omega
              subst hje
              go_wp2
              go_ret
              exact ⟨_, rfl, by rw [← HN1.out, ← HN2.out]; exact logB_abs HS.out HU.out hq.out (dI_nan hg1 hg2), _, rfl⟩
set_option maxHeartbeats 1600000 in
set_option maxRecDepth 4096 in
theorem l01LogWide_any (Z : Nat) (L : Option Nat) (h : LogCase Z L) (w : World) :
    Calls Try.prog 59 #[dV Z] w fun e w' => ∃ b, e = .returned (dV b) ∧ absF .f64 b = L ∧ ∃ n, w.drewN n = w' := by
  cases h with
  | pos h1 h2 => exact l01LogPos_any Z h1 h2 w
  | nan h =>
    have c1 := nan_neq h
    go_enter Try.func59, Try.ntmps59
    go_wp2_with (go_at_call 61; refine (mathNaN_any _).mono ?_; rintro e w' ⟨rfl, rfl⟩)
    go_ret
    exact ⟨_, rfl, absF_nan (by decide), 0, rfl⟩
  | neg c1 c2 =>
    go_enter Try.func59, Try.ntmps59
    go_wp2_with (go_at_call 61; refine (mathNaN_any _).mono ?_; rintro e w' ⟨rfl, rfl⟩)
    go_ret
    exact ⟨_, rfl, absF_nan (by decide), 0, rfl⟩
  | zero c1 c2 c3 =>
    go_enter Try.func59, Try.ntmps59
    go_wp2_with (go_at_call 60; refine (mathNegInf_any _).mono ?_; rintro e w' ⟨rfl, rfl⟩)
    go_ret
    exact ⟨_, rfl, absD (by decide), 0, rfl⟩
  | inf h =>
    subst h
    have c1 : (FloatKind.f64.format.order 9218868437227405312 9218868437227405312 != some .eq) = false := by decide
    have c2 : (FloatKind.f64.format.order 9218868437227405312 0 == some .lt) = false := by decide
    have c3 : (FloatKind.f64.format.order 9218868437227405312 0 == some .eq) = false := by decide
    have c4 : (FloatKind.f64.format.order 9218868437227405312 9218868437227405311 == some .gt) = true := by decide
    go_enter Try.func59, Try.ntmps59
    go_wp2_with (go_at_call 69; refine (isInf1_any _ _).mono ?_; rintro e w' ⟨rfl, rfl⟩; rw [c4])
    go_ret
    exact ⟨_, rfl, absD (by decide), 0, rfl⟩

/-- The kinds of a float32 that the logarithm parts. -/
inductive LogKind (x : Nat) : Prop
  | nan : absF .f32 x = none → LogKind x
  | neg : (FloatKind.f32.decode x).isNaN = false → FloatKind.f32.format.order x 0 = some .lt → LogKind x
  | zero : (FloatKind.f32.decode x).isNaN = false → FloatKind.f32.format.order x 0 = some .eq → LogKind x
  | inf : x = 2139095040 → LogKind x
  | pos : posB x = true → LogKind x
/-- Only the word of the infinity reads as it. -/
def InfOk (x : Nat) : Prop := FloatKind.f32.decode x = .infinity false → x = 2139095040
theorem log_kind {x : Nat} (hx : InfOk x) : LogKind x := by
  have r0 : FloatKind.f32.format.read 0 = .number false 0 (-149) := rfl
  cases e : FloatKind.f32.decode x with
  | nan s t => exact .nan (absF_nan (by rw [e]; rfl))
  | infinity s =>
    cases s
    · exact .inf (hx e)
    · refine .neg (by rw [e]; rfl) ?_
      have e' : FloatKind.f32.format.read x = .infinity true := e
      unfold Ieee.Format.order
      rw [e', r0]; rfl
  | number s m p =>
    have hn : (FloatKind.f32.decode x).isNaN = false := by rw [e]; rfl
    have e' : FloatKind.f32.format.read x = .number s m p := e
    cases ho : FloatKind.f32.format.order x 0 with
    | none =>
      unfold Ieee.Format.order at ho
      rw [e', r0] at ho
      cases ho
    | some o =>
      cases o with
      | lt => exact .neg hn ho
      | eq => exact .zero hn ho
      | gt => exact .pos (by unfold posB finB; rw [e, ho]; rfl)
theorem log32_nan {x : Nat} (h : absF .f32 x = none) : log32 x = none := by
  have := nan_ord (c := 0) h
  unfold log32 posB
  rw [this, Bool.and_comm]; rfl
theorem log32_ord {x : Nat} {o : Ordering} (h : FloatKind.f32.format.order x 0 = some o) (ho : o ≠ .gt) : log32 x = if o = .eq then some 4286578688 else none := by
  unfold log32 posB
  rw [h, Bool.and_comm]
  cases o <;> first | rfl | exact absurd rfl ho
theorem log32_pos {x : Nat} (h : posB x = true) : log32 x = dnF (logB (some (normY (upBits x))) (some (dI (normE (upBits x))))) := by unfold log32; rw [if_pos h]
theorem dn_nan {w : Nat} (h : absF .f64 w = none) : dnOver w = false := by
  obtain ⟨s, t, e⟩ := nan_cases (absF_none h)
  unfold dnOver
  rw [e]
theorem pos_facts {x : Nat} (h : posB x = true) : finB x = true ∧ (FloatKind.f32.format.order x 0 == some .eq) = false ∧ (FloatKind.f32.format.order x 0 == some .lt) = false ∧ (FloatKind.f32.decode x).isNaN = false := by
  unfold posB at h
  rw [Bool.and_eq_true] at h
  obtain ⟨h1, h2⟩ := h
  rw [eq_of_beq h2]
  refine ⟨h1, rfl, rfl, ?_⟩
  unfold finB at h1
  cases e : FloatKind.f32.decode x with
  | nan s t => rw [e] at h1; cases h1
  | infinity s => rfl
  | number s m p => rfl
theorem up_pos {x Z : Nat} (h : posB x = true) (hZ : absF .f64 Z = upF (absF .f32 x)) : Z = upBits x := by
  rw [absF_of (pos_facts h).2.2.2] at hZ
  exact (absF_some hZ).1
theorem log_case {x Z : Nat} (hk : LogKind x) (hZ : absF .f64 Z = upF (absF .f32 x)) : ∃ L, LogCase Z L ∧ dnF L = log32 x ∧ ∀ w, absF .f64 w = L → dnOver w = false := by
  have r0 : FloatKind.f64.format.read 0 = .number false 0 (-1074) := by decide
  have v0 : ∀ p, vD (.number false 0 p) = 0 := fun p => by simp only [vD, mg_zero, sg_zero]
  cases hk with
  | nan h =>
    rw [h] at hZ
    exact ⟨none, .nan hZ, (log32_nan h).symm, fun w hw => dn_nan hw⟩
  | inf h =>
    subst h
    have : absF .f32 2139095040 = some 2139095040 := by decide
    rw [this] at hZ
    have hz : Z = 9218868437227405312 := (absF_some hZ).1.trans (by decide)
    refine ⟨_, .inf hz, by decide, fun w hw => ?_⟩
    obtain ⟨rfl, _⟩ := absF_some hw
    decide
  | pos h =>
    have hz := up_pos h hZ
    obtain ⟨h1, h2⟩ := pos_up h
    subst hz
    exact ⟨_, .pos h1 h2, (log32_pos h).symm, logB_dn h1 h2⟩
  | zero hn ho =>
    rw [absF_of hn] at hZ
    obtain ⟨rfl, _⟩ := absF_some hZ
    have hc : FloatKind.f32.decode x = .number false 0 0 ∨ ∃ s m p, FloatKind.f32.decode x = .number s m p ∧ m = 0 := by
      right
      cases e : FloatKind.f32.decode x with
      | nan s t => rw [e] at hn; cases hn
      | infinity s =>
        have e' : FloatKind.f32.format.read x = .infinity s := e
        unfold Ieee.Format.order at ho
        rw [e', show FloatKind.f32.format.read 0 = .number false 0 (-149) from rfl] at ho
        cases s <;> cases ho
      | number s m p =>
        refine ⟨s, m, p, rfl, ?_⟩
        have e' : FloatKind.f32.format.read x = .number s m p := e
        unfold Ieee.Format.order at ho
        rw [e', show FloatKind.f32.format.read 0 = .number false 0 (-149) from rfl] at ho
        have := (order_cmp _ _ _ _ _ _).2.2.1 ho
        rw [v0] at this
        rcases Nat.eq_zero_or_pos m with h | h
        · exact h
        · exfalso
          have hp := mg_pos (Nat.pos_iff_ne_zero.1 h) p
          cases s <;> simp only [vD, sg_f, sg_t] at this <;> grind
    have hu : upBits x = 0 ∨ upBits x = 9223372036854775808 := by
      rcases hc with e | ⟨s, m, p, e, rfl⟩
      · left; unfold upBits; rw [e]; rfl
      · unfold upBits
        rw [e]
        cases s
        · left; rfl
        · right; rfl
    refine ⟨some 18442240474082181120, ?_, ?_, fun w hw => ?_⟩
    · rcases hu with h | h <;> rw [h] <;> exact .zero (by decide) (by decide) (by decide)
    · rw [log32_ord ho (by decide)]; decide
    · obtain ⟨rfl, _⟩ := absF_some hw
      decide
  | neg hn ho =>
    rw [absF_of hn] at hZ
    obtain ⟨rfl, hzn⟩ := absF_some hZ
    refine ⟨none, .neg (num_eq hzn) ?_, by rw [log32_ord ho (by decide)]; rfl, fun w hw => dn_nan hw⟩
    cases e : FloatKind.f32.decode x with
    | nan s t => rw [e] at hn; cases hn
    | infinity s =>
      have e' : FloatKind.f32.format.read x = .infinity s := e
      unfold Ieee.Format.order at ho
      rw [e', show FloatKind.f32.format.read 0 = .number false 0 (-149) from rfl] at ho
      cases s
      · cases ho
      · have : upBits x = 18442240474082181120 := by unfold upBits; rw [e]; rfl
        rw [this]; decide
    | number s m p =>
      have e' : FloatKind.f32.format.read x = .number s m p := e
      unfold Ieee.Format.order at ho
      rw [e', show FloatKind.f32.format.read 0 = .number false 0 (-149) from rfl] at ho
      have hlt := (order_cmp _ _ _ _ _ _).1.1 ho
      rw [v0] at hlt
      obtain ⟨R, eR, hR, hv⟩ := up_val e'
      rw [beq_iff_eq]
      unfold Ieee.Format.order
      rw [eR, read_rung _ _ hR, r0]
      refine (order_cmp _ _ _ _ _ _).1.2 ?_
      rw [← hv, rV_eq] at hlt
      rw [v0]
      exact hlt
set_option maxRecDepth 4096 in
theorem l01Log_any (x : Nat) (hx : InfOk x) (w : World) : Calls Try.prog 43 #[fV x] w fun e w' => ∃ b, e = .returned (fV b) ∧ absF .f32 b = log32 x ∧ ∃ n, w.drewN n = w' := by
  have hk := log_kind hx
  have HK := Lib.hid hk
  clear hx hk
  go_enter Try.func43, Try.ntmps43
  go_wp2_with fail
  generalize hZ : upR x _ = Z
  have hZa : absF .f64 Z = upF (absF .f32 x) := by rw [← hZ]; exact abs_upR _ _
  clear hZ
  obtain ⟨L, h1, h2, h3⟩ := log_case HK.out hZa
  have H2 := Lib.hid h2
  have H3 := Lib.hid h3
  clear h2 h3 hZa
  refine (l01LogWide_any Z L h1 _).mono ?_
  rintro e w' ⟨b, rfl, hb, n, rfl⟩
  have ho := H3.out b hb
  have HB := Lib.hid hb
  clear hb h1
  go_wp2_with fail
  refine (l01Narrow_any _ ho _).mono ?_
  rintro e w' ⟨c, rfl, hc, m, rfl⟩
  have HC := Lib.hid hc
  clear hc ho
  go_wp2
  go_ret
  exact ⟨_, rfl, by rw [HC.out, HB.out, H2.out], _, rfl⟩
set_option maxRecDepth 4096 in
theorem logNumber_any (x : Nat) (hx : InfOk x) (w : World) : Calls Try.prog 45 #[fV x] w fun e w' => ∃ b, e = .returned (fV b) ∧ absF .f32 b = log32 x ∧ ∃ n, w.drewN n = w' := by
  have hk := log_kind hx
  clear hx
  cases hk with
  | nan h =>
    have c1 : (FloatKind.f32.format.order x 0 == some .eq) = false := by rw [nan_ord h]; rfl
    have c2 := nan_neq h
    have HL := Lib.hid (log32_nan h)
    clear h
    go_enter Try.func45, Try.ntmps45
    go_wp2_with (go_at_call 61; refine (mathNaN_any _).mono ?_; rintro e w' ⟨rfl, rfl⟩)
    go_ret
    refine ⟨_, rfl, ?_, _, rfl⟩
    rw [HL.out, abs_dnR _ _ (by decide)]
    decide
  | neg hn h =>
    have c1 : (FloatKind.f32.format.order x 0 == some .eq) = false := by rw [h]; rfl
    have c2 := num_eq hn
    have c3 : (FloatKind.f32.format.order x 0 == some .lt) = true := by rw [h]; rfl
    have HL := Lib.hid (log32_ord h (by decide))
    clear h
    go_enter Try.func45, Try.ntmps45
    go_wp2_with (go_at_call 61; refine (mathNaN_any _).mono ?_; rintro e w' ⟨rfl, rfl⟩)
    go_ret
    refine ⟨_, rfl, ?_, _, rfl⟩
    rw [HL.out, abs_dnR _ _ (by decide)]
    decide
  | zero hn h =>
    have c1 : (FloatKind.f32.format.order x 0 == some .eq) = true := by rw [h]; rfl
    have HL := Lib.hid (log32_ord h (by decide))
    clear h
    go_enter Try.func45, Try.ntmps45
    go_wp2_with (go_at_call 60; refine (mathNegInf_any _).mono ?_; rintro e w' ⟨rfl, rfl⟩)
    go_ret
    refine ⟨_, rfl, ?_, _, rfl⟩
    rw [HL.out, abs_dnR _ _ (by decide)]
    decide
  | inf h =>
    subst h
    have c1 : (FloatKind.f32.format.order 2139095040 0 == some .eq) = false := by decide
    have c2 : (FloatKind.f32.format.order 2139095040 2139095040 != some .eq) = false := by decide
    have c3 : (FloatKind.f32.format.order 2139095040 0 == some .lt) = false := by decide
    have c4 : finB 2139095040 = false := by decide
    go_enter Try.func45, Try.ntmps45
    go_wp2_with (go_at_call 36; refine (isFinite_any _ _).mono ?_; rintro e w' ⟨rfl, n, rfl⟩; rw [c4])
    go_ret
    exact ⟨_, rfl, by decide, _, rfl⟩
  | pos h =>
    obtain ⟨c4, c1, c3, hn⟩ := pos_facts h
    have c2 := num_eq hn
    have HP := Lib.hid h
    have H4 := Lib.hid c4
    clear h hn c4
    go_enter Try.func45, Try.ntmps45
    go_wp2_with (go_at_call 36; refine (isFinite_any _ _).mono ?_; rintro e w' ⟨rfl, n, rfl⟩; rw [H4.out])
    generalize hZ : upR x _ = Z
    have hZa : absF .f64 Z = upF (absF .f32 x) := by rw [← hZ]; exact abs_upR _ _
    have hz := up_pos HP.out hZa
    clear hZ hZa
    subst hz
    obtain ⟨h1, h2⟩ := pos_up HP.out
    have HD := Lib.hid (logB_dn h1 h2)
    refine (logarithm_any _ h1 h2 _).mono ?_
    rintro e w' ⟨b, rfl, hb, m, rfl⟩
    have HB := Lib.hid hb
    clear hb h1 h2
    go_wp2
    go_ret
    refine ⟨_, rfl, ?_, _, rfl⟩
    rw [abs_dnR _ _ (HD.out _ HB.out), HB.out, log32_pos HP.out]
end Go.Proofs.Ytimpabceellihaa
