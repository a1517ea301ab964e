/-
  The walks of impl.logarithm, impl.LogNumber, spec.l01LogWide, spec.l01Log.
-/
import Derived.Test.YtimpabceellihaaLog
import Derived.Test.YtimpabceellihaaFp
namespace Go.Proofs.Ytimpabceellihaa
open Go.RowKit
attribute [local go_sem] run_fl_add run_fl_sub run_fl_mul run_fl_quo run_up_ run_dn_

/-- What a step of the halving, of the doubling yields. -/
theorem half_R {X : Nat} (h1 : 9007199254740992 ≤ X) (h2 : X < 9218868437227405312) (w : World) : flR .quo .f64 X 4611686018427387904 w = X - 4503599627370496 := flR_some (show floatBits .quo .f64 X 4611686018427387904 = some (X - 4503599627370496) from halved h1 h2) w
theorem twice_R {X : Nat} (h1 : 4503599627370496 ≤ X) (h2 : X < 9214364837600034816) (w : World) : flR .mul .f64 X 4611686018427387904 w = X + 4503599627370496 := flR_some (show floatBits .mul .f64 X 4611686018427387904 = some (X + 4503599627370496) from twice h1 h2) w
theorem lt_word {X C : Nat} (hX : X < 9218868437227405312) (hC : C < 9218868437227405312) : (FloatKind.f64.format.order X C == some .lt) = decide (X < C) := by
  rw [Bool.eq_iff_iff, beq_iff_eq, decide_eq_true_eq]
  exact (ord_word (k := .f64) hX hC).1
theorem ge_word {X C : Nat} (hX : X < 9218868437227405312) (hC : C < 9218868437227405312) : (FloatKind.f64.format.order X C == some .gt || FloatKind.f64.format.order X C == some .eq) = decide (C ≤ X) := by
  rw [Bool.eq_iff_iff, Bool.or_eq_true, beq_iff_eq, beq_iff_eq, decide_eq_true_eq]
  obtain ⟨_, h2, h3⟩ := ord_word (k := .f64) hX hC
  rw [h2, h3]
  omega
theorem absX {X : Nat} (h : X < 9218868437227405312) : absF .f64 X = some X := by
  refine absF_of ?_
  show (FloatKind.f64.format.read X).isNaN = false
  rw [read_pos (k := .f64) h]; rfl
theorem logB_abs {Y q u s : Nat} {W1 W2 W3 W4 : World} {e : Option Nat} {E : Nat} (hs : absF .f64 s = logS (some Y)) (hu : absF .f64 u = opF .mul .f64 (logS (some Y)) (logS (some Y))) (hq : absF .f64 q = logQ (absF .f64 u) 13) (hE : absF .f64 E = e) :
    absF .f64 (flR .add .f64 (flR .mul .f64 4611686018427387904 (flR .mul .f64 s q W1) W2) (flR .mul .f64 E 4604418534313441775 W3) W4) = logB (some Y) e := by
  rw [abs_flR .add rfl, abs_flR .mul rfl, abs_flR .mul rfl, abs_flR .mul rfl, hs, hq, hu, hE, absD (b := 4611686018427387904) (by decide), absD (b := 4604418534313441775) (by decide)]
  rfl
theorem logS_abs {Y : Nat} {W1 W2 W3 : World} (hY : Y < 9218868437227405312) : absF .f64 (flR .quo .f64 (flR .sub .f64 Y 4607182418800017408 W1) (flR .add .f64 Y 4607182418800017408 W2) W3) = logS (some Y) := by
  rw [abs_flR .quo rfl, abs_flR .sub rfl, abs_flR .add rfl, absX hY, absD (b := 4607182418800017408) (by decide)]
  rfl
set_option maxHeartbeats 3200000 in
set_option maxRecDepth 4096 in
theorem logarithm_any (X : Nat) (h1 : 3935144174415872000 ≤ X) (h2 : X < 5183643171103440896) (w : World) :
    Calls Try.prog 62 #[dV X] w fun e w' => ∃ b, e = .returned (dV b) ∧ absF .f64 b = logB (some (normY X)) (some (dI (normE X))) ∧ ∃ n, w.drewN n = w' := by
  go_enter Try.func62, Try.ntmps62
  go_wp2
  go_loopw [0, 3] (fun s0 s3 wr => ∃ (Y : Nat) (e : Int), s0 = dV Y ∧ s3 = dV (dI e) ∧ (Y : Int) + e * 4503599627370496 = X ∧ 3935144174415872000 ≤ Y ∧ Y < 5183643171103440896 ∧ ∃ n, w.drewN n = wr) (fun s0 _ _ => 5200000000000000000 - wordF s0)
  case atStart => exact ⟨X, 0, rfl, dI_zero, by omega, h1, h2, 0, rfl⟩
  case round =>
    obtain ⟨Y, e, rfl, rfl, hXY, hY1, hY2, q, rfl⟩ := hrel
    have hc := lt_word (X := Y) (C := 4604930618986332160) (by omega) (by omega)
    by_cases hlt : Y < 4604930618986332160
    · rw [decide_eq_true hlt] at hc
      go_wp2
      go_roundw
      case rel =>
        refine ⟨Y + 4503599627370496, e - 1, ?_, ?_, by omega, by omega, by omega, _, rfl⟩
        · rw [twice_R (by omega) (by omega)]
        · have := dI_down (z := e - 1) (by omega) (by omega)
          rw [show e - 1 + 1 = e by omega] at this
          rw [this]
      case measure =>
        rw [wordF_f, wordF_f, twice_R (by omega) (by omega)]
        omega
    · rw [decide_eq_false hlt] at hc
      go_wp2
      go_loopw [0, 3] (fun s0 s3 wr => ∃ (Y : Nat) (e : Int), s0 = dV Y ∧ s3 = dV (dI e) ∧ (Y : Int) + e * 4503599627370496 = X ∧ 4604930618986332160 ≤ Y ∧ Y < 5183643171103440896 ∧ ∃ n, w.drewN n = wr) (fun s0 _ _ => wordF s0)
      case atStart => exact ⟨Y, e, rfl, rfl, hXY, by omega, hY2, _, rfl⟩
      case round =>
        obtain ⟨Z, g, rfl, rfl, hXZ, hZ1, hZ2, q, rfl⟩ := hrel
        have hd := ge_word (X := Z) (C := 4609434218613702656) (by omega) (by omega)
        by_cases hge : 4609434218613702656 ≤ Z
        · rw [decide_eq_true hge] at hd
          go_wp2
          go_roundw
          case rel =>
            refine ⟨Z - 4503599627370496, g + 1, ?_, ?_, by omega, by omega, by omega, _, rfl⟩
            · rw [half_R (by omega) (by omega)]
            · rw [dI_up (by omega) (by omega)]
          case measure =>
            rw [wordF_f, wordF_f, half_R (by omega) (by omega)]
            omega
        · rw [decide_eq_false hge] at hd
          obtain ⟨n1, n2⟩ := norm_of hZ1 (by omega) hXZ
          have HN1 := Lib.hid n1
          have HN2 := Lib.hid n2
          have hZt : Z < 9218868437227405312 := by omega
          have hg1 : -300 ≤ g := by omega
          have hg2 : g < 300 := by omega
          clear hc hXY hY1 hY2 hlt hXZ n1 n2 hZ1 hZ2 hge
          have HZ := Lib.hid hZt
          clear hZt
          go_wp2
          generalize hs : flR .quo .f64 (flR .sub .f64 Z 4607182418800017408 _) (flR .add .f64 Z 4607182418800017408 _) _ = S
          have HS : Hid (absF .f64 S = logS (some Z)) := by unfold Hid; rw [← hs]; exact logS_abs HZ.out
          clear hs
          generalize hu : flR .mul .f64 S S _ = U
          have HU : Hid (absF .f64 U = opF .mul .f64 (logS (some Z)) (logS (some Z))) := by unfold Hid; rw [← hu, abs_flR .mul rfl, HS.out]
          clear hu
          go_loopw [6, 7] (fun sq sk wr => ∃ (j q : Nat), j ≤ 13 ∧ sq = dV q ∧ sk = dV (dI (25 - 2 * (j : Int))) ∧ Hid (absF .f64 q = logQ (absF .f64 U) j) ∧ ∃ n, w.drewN n = wr) (fun _ sk _ => mF sk)
          case atStart => exact ⟨0, 0, by omega, rfl, dQ_start, by unfold Hid; rw [logQ]; exact absD (by decide), _, rfl⟩
          case round =>
            obtain ⟨j, qq, hj, rfl, rfl, hq, nn, rfl⟩ := hrel
            by_cases hj13 : j < 13
            · obtain ⟨t1, t2, t3, t4⟩ := dQ_tab j hj13
              have HT1 := Lib.hid t1
              have HT3 := Lib.hid t3
              have HT4 := Lib.hid t4
              clear t1 t3 t4
              go_wp2
              go_roundw
              case rel =>
                refine ⟨j + 1, _, by omega, rfl, ?_, ?_, _, rfl⟩
                · rw [flR_some HT1.out]
                · unfold Hid
                  rw [logQ, abs_flR .add rfl, abs_flR .quo rfl, abs_flR .mul rfl, hq.out, absD (b := 4607182418800017408) (by decide), dI_nan (by omega) (by omega)]
              case measure =>
                rw [flR_some HT1.out]
                exact mF_down HT3.out HT4.out
            · have hje : j = 13 := by omega
              subst hje
              have t1 := dQ_end
              go_wp2
              go_ret
              exact ⟨_, rfl, by rw [← HN1.out, ← HN2.out]; exact logB_abs HS.out HU.out hq.out (dI_nan hg1 hg2), _, rfl⟩

theorem bet_pos {k : FloatKind} {R A B : Nat} (hB : B < k.format.infRung) (h1 : A ≤ R) (h2 : R ≤ B) : Bet k (some R) (rV k.format A) (rV k.format B) := by
  have hR : R < k.format.infRung := by omega
  refine bet_of (read_pos hR) ?_ ?_
  · show _ ≤ mg _ _
    rw [← rV_eq]
    exact rV_le _ h1
  · show mg _ _ ≤ _
    rw [← rV_eq]
    exact rV_le _ h2
theorem bet_int {z : Int} {n : Nat} (h1 : -(2 ^ n : Nat) ≤ z) (h2 : z ≤ (2 ^ n : Nat)) (hn : n ≤ 1000) : Bet .f64 (some (dI z)) (-p2 n) (p2 n) := by
  have e : dI z = FloatKind.f64.encode (.number (decide (z < 0)) z.natAbs 0) := rfl
  have hr := rep64 (E := n) (by omega) (by omega)
  have hm : mg z.natAbs 0 ≤ p2 n := by
    have := (mg_le (p := 0)).2 (show z.natAbs ≤ 2 ^ n by omega)
    rw [mg_pow] at this
    rwa [Int.zero_add] at this
  have hz := mg_nn z.natAbs 0
  refine ⟨_, rfl, ?_⟩
  rw [e]
  refine enc_bet (rep_neg hr) hr ?_ ?_
  all_goals
    simp only [vD]
    cases decide (z < 0) <;> simp only [sg_f, sg_t] <;> grind
theorem p2_1 : p2 1 = 2 := by
  have := p2_nat 1
  exact this
theorem p2_2 : p2 2 = 4 := by
  have := p2_nat 2
  exact this
theorem bet_y {Y : Nat} (h1 : 4604930618986332160 ≤ Y) (h2 : Y < 4609434218613702656) : Bet .f64 (some Y) (p2 (-1)) (p2 1) := by
  have lo : rV FloatKind.f64.format 4602678819172646912 = p2 (-1) := by
    have e1 : rM FloatKind.f64.format 4602678819172646912 = 2 ^ 52 := by decide
    have e2 : rJ FloatKind.f64.format 4602678819172646912 = 1021 := by decide
    rw [rV_eq, e1, e2, mg_pow]
    rfl
  have hi : rV FloatKind.f64.format 4611686018427387904 = p2 1 := by
    have e1 : rM FloatKind.f64.format 4611686018427387904 = 2 ^ 52 := by decide
    have e2 : rJ FloatKind.f64.format 4611686018427387904 = 1023 := by decide
    rw [rV_eq, e1, e2, mg_pow]
    rfl
  rw [← lo, ← hi]
  exact bet_pos (k := .f64) (by show (4611686018427387904 : Nat) < 9218868437227405312; omega) (by omega) (by omega)
theorem bet_two : Bet .f64 (some 4611686018427387904) (-p2 1) (p2 1) := by
  have := bet_lit (k := .f64) (b := 4611686018427387904) (m := 2 ^ 52) (s := false) (p := -51) (by decide)
  simp only [vD, sg_f] at this
  rw [mg_pow] at this
  have hp := p2_pos 1
  exact this.mono (by show -p2 1 ≤ p2 1; grind) Rat.le_refl
theorem bet_ln2 : Bet .f64 (some 4604418534313441775) (-p2 0) (p2 0) := by
  have := bet_lit (k := .f64) (b := 4604418534313441775) (m := 6243314768165359) (s := false) (p := -53) (by decide)
  simp only [vD, sg_f] at this
  have h := (mg_le (p := -53)).2 (show 6243314768165359 ≤ 2 ^ 53 by decide)
  rw [mg_pow] at h
  have hz := mg_nn 6243314768165359 (-53)
  have hp := p2_pos 0
  exact this.mono (by grind) h
theorem logS_bet {Y : Nat} (h1 : 4604930618986332160 ≤ Y) (h2 : Y < 4609434218613702656) : Bet .f64 (logS (some Y)) (-p2 0) (p2 0) := by
  have hy := bet_y h1 h2
  have hp := p2_pos (-1)
  have e1 := p2_1
  have e2 := p2_2
  have e0 := p2_zero
  have ha : Bet .f64 (opF .sub .f64 (some Y) (some 4607182418800017408)) (-p2 0) (p2 0) := bet_sub hy bet_one (rep_neg (rep64 (by omega) (by omega))) (rep64 (by omega) (by omega)) (by grind) (by grind)
  have hb : Bet .f64 (opF .add .f64 (some Y) (some 4607182418800017408)) 1 (p2 2) := bet_add hy bet_one rep1 (rep64 (by omega) (by omega)) (by grind) (by grind)
  refine bet_quo (E := 0) ha hb (by decide) (rep64 (by omega) (by omega)) ?_ (.inr rfl) (.inr rfl)
  intro u v u1 u2 v1 v2
  rw [p2_zero] at *
  rw [Rat.one_mul]
  constructor <;> grind
theorem logQ_bet {u : Option Nat} (hu : Bet .f64 u (-p2 0) (p2 0)) : ∀ j : Nat, j ≤ 13 → Bet .f64 (logQ u j) (-p2 j) (p2 j)
  | 0, _ => by
    have r0 : FloatKind.f64.format.read 0 = .number false 0 (-1074) := by decide
    have hp := p2_pos ((0 : Nat) : Int)
    refine bet_of r0 ?_ ?_ <;> simp only [vD, mg_zero, sg_zero] <;> grind
  | j + 1, hj => by
    have ih := logQ_bet hu j (by omega)
    have hk : Bet .f64 (some (dI (25 - 2 * (j : Int)))) (p2 (0 : Nat)) (p2 (5 : Nat)) := by
      have := bet_nat (k := .f64) (n := 25 - 2 * j) (a := 0) (b := 5) (by omega) (by omega) (rep64 (by omega) (by omega)) (rep64 (by omega) (by omega))
      rwa [show ((25 - 2 * j : Nat) : Int) = 25 - 2 * (j : Int) by omega] at this
    have hq : Bet .f64 (opF .quo .f64 (some 4607182418800017408) (some (dI (25 - 2 * (j : Int))))) (-p2 0) (p2 0) := by
      refine bet_quo (E := 0) bet_one hk (p2_pos _) (rep64 (by omega) (by omega)) ?_ (.inr rfl) (.inr rfl)
      intro u v u1 u2 v1 v2
      have e0 : p2 ((0 : Nat) : Int) = 1 := p2_zero
      rw [e0] at v1
      rw [p2_zero, Rat.one_mul]
      constructor <;> grind
    have hm := bet_mul2 hu ih (rep64 (by omega) (by omega))
    rw [Int.zero_add] at hm
    have hr := rep64 (E := ((j + 1 : Nat) : Int)) (by omega) (by omega)
    have e1 : p2 ((j + 1 : Nat) : Int) = p2 j + p2 j := by
      have h1 := mg_succ 1 j
      have h2 := mg_pow 1 j
      rw [mg_one] at h1
      rw [← h1]
      exact h2.symm
    have h0 : p2 0 ≤ p2 j := p2_mono (by omega)
    exact bet_add hq hm (rep_neg hr) hr (by grind) (by grind)
theorem logB_bet {Y : Nat} {e : Int} (h1 : 4604930618986332160 ≤ Y) (h2 : Y < 4609434218613702656) (h3 : -300 ≤ e) (h4 : e < 300) : Bet .f64 (logB (some Y) (some (dI e))) (-p2 15) (p2 15) := by
  have hs := logS_bet h1 h2
  have hu := bet_mul2 hs hs (rep64 (by omega) (by omega))
  have hq := logQ_bet hu 13 (by omega)
  have hm := bet_mul2 bet_two (bet_mul2 hs hq (rep64 (by omega) (by omega))) (rep64 (by omega) (by omega))
  have he := bet_int (z := e) (n := 9) (by omega) (by omega) (by omega)
  have hl := bet_mul2 he bet_ln2 (rep64 (by omega) (by omega))
  have hr := rep64 (E := 15) (by omega) (by omega)
  have a1 : p2 (1 + (0 + ((13 : Nat) : Int))) = p2 14 := rfl
  have a2 : p2 (((9 : Nat) : Int) + 0) ≤ p2 14 := p2_mono (by omega)
  have a3 : p2 15 = p2 14 + p2 14 := by
    have h1 := mg_succ 1 14
    have h2 := mg_pow 1 14
    rw [mg_one] at h1
    rw [← h1]
    exact h2.symm
  exact bet_add hm hl (rep_neg hr) hr (by grind) (by grind)
theorem norm_in (X : Nat) : 4604930618986332160 ≤ normY X ∧ normY X < 4609434218613702656 := by
  unfold normY
  omega
theorem normE_in {X : Nat} (h1 : 3935144174415872000 ≤ X) (h2 : X < 5183643171103440896) : -300 ≤ normE X ∧ normE X < 300 := by
  unfold normE
  omega
theorem logB_dn {X : Nat} (h1 : 3935144174415872000 ≤ X) (h2 : X < 5183643171103440896) : ∀ w, absF .f64 w = logB (some (normY X)) (some (dI (normE X))) → dnOver w = false := by
  have h := logB_bet (norm_in X).1 (norm_in X).2 (normE_in h1 h2).1 (normE_in h1 h2).2
  have hr := rep32 (E := 15) (by omega) (by omega)
  exact (bet_dn h (rep_neg hr) hr).2
end Go.Proofs.Ytimpabceellihaa
