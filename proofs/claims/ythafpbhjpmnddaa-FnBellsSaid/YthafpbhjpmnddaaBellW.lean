/-
  The walks of impl.bellBelow and spec.l05Bell.
-/
import Derived.Test.YthafpbhjpmnddaaBell
import Derived.Test.YthafpbhjpmnddaaNear
namespace Go.Proofs.Ythafpbhjpmnddaa
open Go.RowKit
attribute [local go_sem] run_fl_add run_fl_sub run_fl_mul run_fl_quo run_up_ run_dn_

theorem bell_tab : ∀ n, n ≤ 120 → (FloatKind.f64.format.order (iF n) 4638144666238189568 == some .lt || FloatKind.f64.format.order (iF n) 4638144666238189568 == some .eq) = true ∧ floatBits .mul .f64 4611686018427387904 (iF n) = some (iF (2 * n)) ∧ iF n < iF (n + 1) ∧ iF (n + 1) < 5000000000000000000 := by decide +kernel
theorem bell_end : (FloatKind.f64.format.order (iF 121) 4638144666238189568 == some .lt || FloatKind.f64.format.order (iF 121) 4638144666238189568 == some .eq) = false := by decide +kernel
theorem iF1 : dV 4607182418800017408 = dV (iF 1) := by
  have : iF 1 = 4607182418800017408 := by decide +kernel
  rw [this]
theorem litF {b : Nat} (h : (FloatKind.f32.decode b).isNaN = false) : absF .f32 b = some b := absF_of h
/-- A number of words: what stands for it is it. -/
theorem WBet.abs {k : FloatKind} {b : Nat} {lo hi : Rat} (h : WBet k.format b lo hi) : absF k b = some b := by
  obtain ⟨s, m, p, e, _⟩ := h.read
  refine absF_of ?_
  show (k.format.read b).isNaN = false
  rw [e]; rfl
/-- 'max', 'min' of two floats. -/
def maxR (k : FloatKind) (x y : Nat) (w : World) : Nat :=
  match k.format.order x y with
  | none => (Question.nanMinMax k true x y).cut (w.tape w.drawn (.nanMinMax k true x y))
  | some .lt => y
  | some .gt => x
  | some .eq => if (k.decode x).neg then y else x
def minR (k : FloatKind) (x y : Nat) (w : World) : Nat :=
  match k.format.order x y with
  | none => (Question.nanMinMax k false x y).cut (w.tape w.drawn (.nanMinMax k false x y))
  | some .lt => x
  | some .gt => y
  | some .eq => if (k.decode x).neg then x else y
def mmN (k : FloatKind) (x y : Nat) : Nat := if (k.format.order x y).isSome then 0 else 1
theorem run_max_fl {P : Program} (ats : Array TypeId) (ty : TypeId) (k : FloatKind) (x y : Nat) (w : World) : (Builtin.max_ ats ty #[.float k x, .float k y]).run P w = .ok (.float k (maxR k x y w)) (w.drewN (mmN k x y)) := by
  unfold maxR mmN
  cases h : k.format.order x y with
  | none => simp [Builtin.max_, Builtin.max2, h, choose, Sem.run, Question.forced, Question.cut, World.drewN]
  | some o => cases o <;> simp [Builtin.max_, Builtin.max2, h, World.drewN_zero]
theorem run_min_fl {P : Program} (ats : Array TypeId) (ty : TypeId) (k : FloatKind) (x y : Nat) (w : World) : (Builtin.min_ ats ty #[.float k x, .float k y]).run P w = .ok (.float k (minR k x y w)) (w.drewN (mmN k x y)) := by
  unfold minR mmN
  cases h : k.format.order x y with
  | none => simp [Builtin.min_, Builtin.min2, h, choose, Sem.run, Question.forced, Question.cut, World.drewN]
  | some o => cases o <;> simp [Builtin.min_, Builtin.min2, h, World.drewN_zero]
attribute [local go_sem] run_max_fl run_min_fl
theorem clamp_mm {Y y : Nat} {W1 W2 : World} (hY : absF .f32 Y = some y) (hy : WBet FloatKind.f32.format y (-p2 70) (p2 70)) (h0 : FloatKind.f32.format.order y 0 = some .eq → y = 0) : absF .f32 (minR .f32 1065353216 (maxR .f32 0 Y W1) W2) = clampA (some y) := by
  obtain ⟨rfl, _⟩ := absF_some hY
  obtain ⟨s, m, p, e, _⟩ := hy.read
  have r0 : FloatKind.f32.format.read 0 = .number false 0 (-149) := rfl
  have r1 : FloatKind.f32.format.read 1065353216 = .number false 8388608 (-23) := by decide
  have hsome : ∀ z, FloatKind.f32.format.read z = .number false 0 (-149) ∨ FloatKind.f32.format.read z = .number false 8388608 (-23) → ∃ o, FloatKind.f32.format.order Y z = some o := by
    intro z hz
    unfold Ieee.Format.order
    rcases hz with hz | hz <;> rw [e, hz] <;> exact ⟨_, rfl⟩
  obtain ⟨o, ho⟩ := hsome 0 (.inl r0)
  obtain ⟨q, hq⟩ := hsome 1065353216 (.inr r1)
  have s0 : FloatKind.f32.format.order 0 Y = some o.swap := by
    have := ord_swap32 Y 0
    unfold ord32 at this
    rw [this, ho]; rfl
  have s1 : FloatKind.f32.format.order 1065353216 Y = some q.swap := by
    have := ord_swap32 Y 1065353216
    unfold ord32 at this
    rw [this, hq]; rfl
  have m0 : FloatKind.f32.format.order 1065353216 0 = some .gt := by decide
  have n1 : (FloatKind.f32.decode 1065353216).neg = false := by decide
  have a1 : absF .f32 1065353216 = some 1065353216 := by decide
  cases o with
  | lt =>
    unfold maxR minR clampA ordF
    rw [s0]
    simp only [Ordering.swap]
    simp only [m0, ho]
    rfl
  | eq =>
    have := h0 ho
    subst this
    unfold maxR minR clampA ordF
    rw [s0]
    simp only [Ordering.swap]
    rw [show (FloatKind.f32.decode 0).neg = false from rfl]
    simp only [Bool.false_eq_true, if_false]
    simp only [m0, ho, hq]
    cases q <;> first | rfl | (exfalso; revert hq; decide)
  | gt =>
    unfold maxR minR clampA ordF
    rw [s0]
    simp only [Ordering.swap]
    simp only [s1, n1, ho, hq]
    cases q
    · simp only [Ordering.swap]; exact hY
    · simp only [Ordering.swap]; exact hY
    · simp only [Ordering.swap]; exact a1
theorem raw_abs {x : Option Nat} {s b : Nat} {W1 W2 W3 W4 : World} (hs : absF .f64 s = sumA (upF x) 120) (hb : absF .f32 b = exp32 (dnF (sqA (upF x)))) : absF .f64 (flR .add .f64 4602678819172646912 (flR .quo .f64 (flR .mul .f64 s (upR b W1) W2) 4612826843881809669 W3) W4) = rawA (upF x) := by
  rw [abs_flR .add rfl, abs_flR .quo rfl, abs_flR .mul rfl, abs_upR, hs, hb, absD (b := 4602678819172646912) (by decide), absD (b := 4612826843881809669) (by decide)]
  rfl
theorem sq_abs {X : Nat} {W1 W2 : World} {x : Option Nat} (h : absF .f64 X = x) : absF .f64 (flR .mul .f64 (flR .mul .f64 13826050856027422720 X W1) X W2) = sqA x := by
  rw [abs_flR .mul rfl, abs_flR .mul rfl, h, absD (by decide)]
  rfl
set_option maxHeartbeats 3200000 in
set_option maxRecDepth 4096 in
theorem bellBelow_any (x : Nat) (hx : Bet .f32 (absF .f32 x) (-p2 3) (p2 3) ∨ (FloatKind.f32.format.order x 3233808384 == some .lt) = true ∨ (FloatKind.f32.format.order x 1086324736 == some .gt) = true) (w : World) :
    Calls Try.prog 14 #[fV x] w fun e w' => ∃ b, e = .returned (fV b) ∧ absF .f32 b = bellA (absF .f32 x) ∧ ∃ n, w.drewN n = w' := by
  unfold bellA
  rw [← litF (b := 3233808384) (by decide), ← litF (b := 1086324736) (by decide), ← ord_abs, ← ord_abs]
  cases h1 : (FloatKind.f32.format.order x 3233808384 == some .lt)
  · cases h2 : (FloatKind.f32.format.order x 1086324736 == some .gt)
    · have hok : BellOk (absF .f32 x) := by
        rcases hx with h | h | h
        · exact bellOk h
        · rw [h1] at h; cases h
        · rw [h2] at h; cases h
      have HOK := Lib.hid hok
      clear hx hok
      go_enter Try.func14, Try.ntmps14
      go_wp2
      generalize hX : upR x w = X at *
      have HX : Hid (absF .f64 X = upF (absF .f32 x)) := by unfold Hid; rw [← hX]; exact abs_upR x w
      clear hX
      go_loopw [4, 5, 6] (fun st ss sk wr => ∃ (k t s : Nat), k ≤ 120 ∧ st = dV t ∧ ss = dV s ∧ sk = dV (iF (k + 1)) ∧ Hid (absF .f64 t = termA (upF (absF .f32 x)) k) ∧ Hid (absF .f64 s = sumA (upF (absF .f32 x)) k) ∧ ∃ n, w.drewN n = wr) (fun _ _ sk _ => 5000000000000000000 - wordF sk)
      case atStart => exact ⟨0, X, X, by omega, rfl, rfl, iF1, by unfold Hid; rw [termA]; exact HX.out, by unfold Hid; rw [sumA]; exact HX.out, _, rfl⟩
      case round =>
        obtain ⟨k, t, s, hk, rfl, rfl, rfl, ht, hs, q, rfl⟩ := hrel
        by_cases hlt : k < 120
        · obtain ⟨t1, t2, t3, t4⟩ := bell_tab (k + 1) (by omega)
          have HT2 := Lib.hid t2
          have HT3 := Lib.hid t3
          have HT4 := Lib.hid t4
          clear t2 t3 t4
          go_wp2
          go_roundw
          case rel =>
            refine ⟨k + 1, _, _, by omega, rfl, rfl, ?_, ?_, ?_, _, rfl⟩
            · rw [iF_up (by omega)]
            · unfold Hid
              rw [termA, abs_flR .quo rfl, abs_flR .mul rfl, abs_flR .mul rfl, ht.out, HX.out, flR_some HT2.out, iF_up (by omega), iF_nan (by omega)]
              rfl
            · unfold Hid
              rw [sumA, termA, abs_flR .add rfl, hs.out, abs_flR .quo rfl, abs_flR .mul rfl, abs_flR .mul rfl, ht.out, HX.out, flR_some HT2.out, iF_up (by omega), iF_nan (by omega)]
              rfl
          case measure =>
            rw [wordF_f, wordF_f, iF_up (by omega)]
            have := HT3.out
            have := HT4.out
            omega
        · have hke : k = 120 := by omega
          subst hke
          have t1 := bell_end
          go_wp2_with fail
          refine (expNumber_any _ ?_ _).mono ?_
          · rw [abs_dnR _ _ (HOK.out.sq _ (sq_abs HX.out)), sq_abs HX.out]
            exact HOK.out.neg
          rintro e w' ⟨b, rfl, hb, n, rfl⟩
          rw [abs_dnR _ _ (HOK.out.sq _ (sq_abs HX.out)), sq_abs HX.out] at hb
          have HB := Lib.hid hb
          clear hb
          go_wp2
          go_ret
          refine ⟨_, rfl, ?_, _, rfl⟩
          obtain ⟨y, ey, hy, h0⟩ := HOK.out.out
          rw [ey]
          refine clamp_mm ?_ hy h0
          rw [abs_dnR _ _ (HOK.out.raw _ (raw_abs hs.out HB.out)), raw_abs hs.out HB.out, ey]
    · clear hx
      go_enter Try.func14, Try.ntmps14
      go_wp2
      go_ret
      exact ⟨_, rfl, litF (by decide), 0, rfl⟩
  · clear hx
    go_enter Try.func14, Try.ntmps14
    go_wp2
    go_ret
    exact ⟨_, rfl, litF (by decide), 0, rfl⟩
end Go.Proofs.Ythafpbhjpmnddaa
