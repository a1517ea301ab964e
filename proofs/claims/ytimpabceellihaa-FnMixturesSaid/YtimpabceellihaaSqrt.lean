/-
  Square roots: impl.RootNumber and spec.l01Sqrt tell the same of every number.
-/
import Derived.Test.YtimpabceellihaaLogE
import Derived.Test.YtimpabceellihaaBound
import Derived.Test.YtimpabceellihaaMixD
namespace Go.Proofs.Ytimpabceellihaa
open Go.RowKit
attribute [local go_sem] run_up_

def rtA (o : Option Nat) : Option Nat := o.bind fun x => FloatKind.f64.format.sqrt x
/-- .. of a float32. -/
def rt32 (o : Option Nat) : Option Nat := dnF (rtA (upF o))

open Ieee in
theorem rootFrom_le (n : Nat) : ∀ (todo root : Nat), Datum.rootFrom n todo root < root + 2 ^ todo
  | 0, root => by simp [Datum.rootFrom]
  | todo + 1, root => by
    unfold Datum.rootFrom
    dsimp only
    have h2 : 2 ^ (todo + 1) = 2 ^ todo + 2 ^ todo := by rw [Nat.pow_succ]; omega
    have h3 := Nat.two_pow_pos todo
    split
    · have := rootFrom_le n todo (root + 1 <<< todo)
      rw [Nat.shiftLeft_eq, Nat.one_mul] at this
      rw [Nat.shiftLeft_eq, Nat.one_mul]
      omega
    · have := rootFrom_le n todo root
      omega
theorem log2_shl {m : Nat} (hm : m ≠ 0) (k : Nat) : (m <<< k).log2 = m.log2 + k := by
  have h1 : m < 2 ^ (m.log2 + 1) := (Nat.log2_lt hm).1 (Nat.lt_succ_self _)
  have h2 : 2 ^ m.log2 ≤ m := Nat.log2_self_le hm
  rw [Nat.shiftLeft_eq]
  have hne : m * 2 ^ k ≠ 0 := Nat.mul_ne_zero hm (Nat.ne_of_gt (Nat.two_pow_pos k))
  refine (Nat.log2_eq_iff hne).2 ⟨?_, ?_⟩
  · rw [Nat.pow_add]; exact Nat.mul_le_mul_right _ h2
  · rw [show m.log2 + k + 1 = (m.log2 + 1) + k by omega, Nat.pow_add]; exact Nat.mul_lt_mul_of_pos_right h1 (Nat.two_pow_pos k)
open Ieee in
theorem root_exp {m : Nat} {i E : Int} {d : Nat} (hm : m ≠ 0) (h : i + m.log2 < 2 * E) : ∃ d2, (Datum.number false m i).root d = some d2 ∧ ExpD d2 (E + 2) := by
  unfold Datum.root
  dsimp only
  rw [if_neg hm]
  simp only [Bool.false_eq_true, if_false]
  refine ⟨_, rfl, _, _, rfl, ?_⟩
  generalize hk : (2 * d - m.log2) + ((i - ((2 * d - m.log2 : Nat) : Int)) % 2).toNat = k
  by_cases h0 : 2 * Datum.rootFrom (m <<< k) ((m <<< k).log2 / 2 + 1) 0 + (Datum.rootFrom (m <<< k) ((m <<< k).log2 / 2 + 1) 0 * Datum.rootFrom (m <<< k) ((m <<< k).log2 / 2 + 1) 0 != m <<< k).toNat = 0
  · exact .inl h0
  · right
    have h1 := rootFrom_le (m <<< k) ((m <<< k).log2 / 2 + 1) 0
    have hb : ∀ x : Bool, x.toNat ≤ 1 := by decide
    have h2 := hb (Datum.rootFrom (m <<< k) ((m <<< k).log2 / 2 + 1) 0 * Datum.rootFrom (m <<< k) ((m <<< k).log2 / 2 + 1) 0 != m <<< k)
    have hl : (m <<< k).log2 = m.log2 + k := log2_shl hm k
    rw [hl] at h1 ⊢
    rw [hl] at h0 h2
    have h3 : 2 ^ ((m.log2 + k) / 2 + 1 + 1) = 2 * 2 ^ ((m.log2 + k) / 2 + 1) := by rw [Nat.pow_succ, Nat.mul_comm]
    have h4 := (Nat.log2_lt h0).2 (show _ < 2 ^ ((m.log2 + k) / 2 + 1 + 1) by omega)
    omega
open Ieee in
theorem dn_small {r : Nat} (h : (FloatKind.f64.decode r).isInfinity = true ∨ (FloatKind.f64.decode r).isNaN = true ∨ ∃ s m p, FloatKind.f64.decode r = .number s m p ∧ (m = 0 ∨ p + (m.log2 : Int) < 100)) : dnOver r = false := by
  unfold dnOver
  cases e : FloatKind.f64.decode r with
  | nan s t => rfl
  | infinity s => rfl
  | number s m p =>
    rw [e] at h
    rcases h with h | h | ⟨s', m', p', h1, h2⟩
    · cases h
    · cases h
    · cases h1
      unfold dnBits
      rw [e]
      show (Ieee.single.read (Ieee.single.nearest s m p)).isInfinity = false
      by_cases hm : m = 0
      · subst hm
        unfold Format.nearest
        rw [if_pos rfl]
        exact inf_word Ieee.single s (by decide)
      · refine inf_nearest Ieee.single s ?_
        have h4 : p + (m.log2 : Int) < 100 := by rcases h2 with h2 | h2; exact absurd h2 hm; exact h2
        show (max (p + (m.log2 : Int) - 23) (-149) - (-149)).toNat + 2 < 255
        omega
open Ieee in
theorem read64_small {m : Nat} {p E : Int} (hm : m = 0 ∨ p + m.log2 < E) (hE : -900 ≤ E ∧ E ≤ 200) : ExpD (Ieee.double.read (Ieee.double.nearest false m p)) (E + 1) := by
  refine nearest_exp Ieee.double m p E hm ?_ ?_
  · show (-1074 : Int) ≤ E - 1 - 52
    omega
  · show ((E - 1 - 52 - (-1074)).toNat + 2) * 2 ^ 52 < 2047 * 2 ^ 52
    have : (E - 1 - 52 - (-1074)).toNat ≤ 1221 := by omega
    exact Nat.mul_lt_mul_of_pos_right (by omega) (by decide)

theorem abs64_some {b c : Nat} (h : absF .f64 b = some c) : b = c := (absF_some h).1
open Ieee in
/-- The root of what a float32 is made wide to is never out of its range. -/
theorem rt_over (o : Option Nat) : ∀ r, absF .f64 r = rtA (upF o) → (∀ b, o = some b → (FloatKind.f32.decode b).isNaN = false) → dnOver r = false := by
  intro r hr hn
  have hnone : absF .f64 r = none → dnOver r = false := fun h => dn_small (.inr (.inl (absF_none h)))
  cases o with
  | none => exact hnone hr
  | some b =>
    have hnb := hn b rfl
    have hr' : absF .f64 r = ((Ieee.double.read (upBits b)).root (Ieee.double.fractionBits + 2)).map Ieee.double.write := hr
    have hu : upBits b = Ieee.double.write (FloatKind.f32.decode b) := rfl
    have fin : ∀ {s : Bool} {m : Nat} {p : Int}, (m = 0 ∨ p + (m.log2 : Int) < 98) → s = false → r = Ieee.double.write (.number s m p) → dnOver r = false := fun {s m p} hm hs e => by
      subst hs
      obtain ⟨m2, p2, e2, h2⟩ := read64_small (E := 98) hm (by omega)
      refine dn_small (.inr (.inr ⟨false, m2, p2, ?_, by omega⟩))
      rw [e]; exact e2
    cases e : FloatKind.f32.decode b with
    | nan s t => rw [e] at hnb; cases hnb
    | infinity s =>
      have hread : Ieee.double.read (upBits b) = .infinity s := by rw [hu, e]; cases s <;> decide
      rw [hread] at hr'
      cases s
      · have : absF .f64 r = some (Ieee.double.write (.infinity false)) := hr'
        have e2 := abs64_some this
        refine dn_small (.inl ?_)
        rw [e2]; decide
      · exact hnone hr'
    | number s m i =>
      obtain ⟨b1, b2, b3⟩ := read_bound b e
      have hlog : m = 0 ∨ i + (m.log2 : Int) < 128 := by
        by_cases h0 : m = 0
        · exact .inl h0
        · have := (Nat.log2_lt h0).2 b1
          exact .inr (by omega)
      rw [hu, e] at hr'
      cases s
      · obtain ⟨m2, p2, e2, h2⟩ := read64_small (E := 128) hlog (by omega)
        have e3 : Ieee.double.read (Ieee.double.write (.number false m i)) = .number false m2 p2 := e2
        rw [e3] at hr'
        by_cases h0 : m2 = 0
        · subst h0
          have : absF .f64 r = some (Ieee.double.write (.number false 0 p2)) := hr'
          exact fin (.inl rfl) rfl (abs64_some this)
        · have h2' : p2 + (m2.log2 : Int) < 2 * 65 := by omega
          obtain ⟨d2, e4, m3, p3, rfl, h3⟩ := root_exp (d := Ieee.double.fractionBits + 2) h0 h2'
          rw [e4] at hr'
          have : absF .f64 r = some (Ieee.double.write (.number false m3 p3)) := hr'
          exact fin (h3.imp id (fun h => by omega)) rfl (abs64_some this)
      · obtain ⟨q, -, -, hq⟩ := near_sign .f64 true m i
        have e3 : Ieee.double.read (Ieee.double.write (.number true m i)) = FloatKind.f64.format.read (FloatKind.f64.format.nearest true m i) := rfl
        rw [e3] at hr'
        rcases hq with ⟨_, hq⟩ | hq
        · rw [hq] at hr'
          by_cases h0 : rM FloatKind.f64.format q = 0
          · rw [h0] at hr'
            have h4 : absF .f64 r = some (Ieee.double.write (.number true 0 (FloatKind.f64.format.leastPlace + rJ FloatKind.f64.format q))) := hr'
            have e5 := abs64_some h4
            have e6 : Ieee.double.write (.number true 0 (FloatKind.f64.format.leastPlace + rJ FloatKind.f64.format q)) = Ieee.double.word true 0 := by
              show Ieee.double.nearest true 0 _ = _
              unfold Format.nearest
              rw [if_pos rfl]
            refine dn_small (.inr (.inr ⟨true, 0, -1074, ?_, .inl rfl⟩))
            rw [e5, e6]
            decide
          · refine hnone ?_
            rw [hr']
            unfold Datum.root
            dsimp only
            rw [if_neg h0, if_pos rfl]
            rfl
        · rw [hq] at hr'
          exact hnone hr'

/-! ### the walks -/
theorem run_sqrt (b : Nat) (w : World) : ∃ r n, (callFunc 64 #[.float .f64 b]).run Try.prog w = .ok (.value (.float .f64 r)) (w.drewN n) ∧ absF .f64 r = rtA (absF .f64 b) := by
  have h0 : (callFunc 64 #[.float .f64 b]).run Try.prog w = ((Extern.MathSqrt.sqrt #[.float .f64 b] >>= fun v => pure (Next.value v)) : Sem Next).run Try.prog w := by kernel_rfl
  rw [h0, Sem.run_bind]
  have h1 : Extern.MathSqrt.sqrt #[.float .f64 b] = (match FloatKind.f64.format.sqrt b with
    | some r => pure (.float .f64 r)
    | none => do pure (.float .f64 (← choose (.nanBits .f64 b b)))) := rfl
  rw [h1]
  cases e : FloatKind.f64.format.sqrt b with
  | some r =>
    refine ⟨r, 0, rfl, ?_⟩
    have hb : (FloatKind.f64.decode b).isNaN = false := by
      cases hd : FloatKind.f64.decode b with
      | nan s t =>
        have : FloatKind.f64.format.sqrt b = none := by
          show ((FloatKind.f64.format.read b).root _).map _ = none
          rw [show FloatKind.f64.format.read b = FloatKind.f64.decode b from rfl, hd]
          rfl
        rw [this] at e
        cases e
      | infinity s => rfl
      | number s m p => rfl
    rw [absF_of hb]
    show absF .f64 r = FloatKind.f64.format.sqrt b
    rw [e]
    have hr : ((FloatKind.f64.format.read b).root (FloatKind.f64.format.fractionBits + 2)).map FloatKind.f64.format.write = some r := e
    cases hd : (FloatKind.f64.format.read b).root (FloatKind.f64.format.fractionBits + 2) with
    | none => rw [hd] at hr; cases hr
    | some d =>
      rw [hd] at hr
      have hr2 : r = Ieee.double.write d := (Option.some.inj hr).symm
      have hdn : d.isNaN = false := by
        cases hb2 : FloatKind.f64.format.read b with
        | nan s t => rw [hb2] at hd; cases hd
        | infinity s =>
          rw [hb2] at hd
          unfold Ieee.Datum.root at hd
          dsimp only at hd
          split at hd
          · cases hd
          · cases hd; rfl
        | number s m p =>
          rw [hb2] at hd
          unfold Ieee.Datum.root at hd
          dsimp only at hd
          split at hd
          · cases hd; rfl
          · split at hd
            · cases hd
            · cases hd; rfl
      refine absF_of ?_
      rw [hr2]
      exact nan_write Ieee.double hdn
  | none =>
    refine ⟨(Question.nanBits .f64 b b).cut (w.tape w.drawn (.nanBits .f64 b b)), 1, ?_, ?_⟩
    · simp [choose, Sem.run, Question.forced, Result.andThen]
      rfl
    · have h2 : absF .f64 ((Question.nanBits .f64 b b).cut (w.tape w.drawn (.nanBits .f64 b b))) = none := absF_nan (nan_bits64 _)
      rw [h2]
      unfold rtA
      cases hb : absF .f64 b with
      | none => rfl
      | some c =>
        rw [← abs64_some hb]
        exact e.symm

theorem mathSqrt_any (x : Nat) (w : World) : Calls Try.prog 51 #[dV x] w fun e w' => ∃ r, e = .returned (dV r) ∧ absF .f64 r = rtA (absF .f64 x) ∧ ∃ n, w.drewN n = w' := by
  obtain ⟨r, n, hrun, hr⟩ := run_sqrt x w
  have HR := Lib.hid hr
  clear hr
  go_enter Try.func51, Try.ntmps51
  go_wp2
  go_ret
  exact ⟨r, rfl, HR.out, n, rfl⟩
theorem num32 {x : Nat} : ∀ b, absF .f32 x = some b → (FloatKind.f32.decode b).isNaN = false := fun b h => by
  have := absF_some h
  rw [← this.1]; exact this.2
attribute [local go_sem] run_dn_
set_option maxRecDepth 4096 in
theorem rootNumber_any (x : Nat) (w : World) : Calls Try.prog 66 #[fV x] w fun e w' => ∃ b, e = .returned (fV b) ∧ absF .f32 b = rt32 (absF .f32 x) ∧ ∃ n, w.drewN n = w' := by
  go_enter Try.func66, Try.ntmps66
  go_wp2_with (go_at_call 51; refine (mathSqrt_any _ _).mono ?_; rintro e w' ⟨b, rfl, hb, n, rfl⟩)
  rw [abs_upR] at hb
  have HB := Lib.hid hb
  have ho := Lib.hid (rt_over _ _ hb num32)
  clear hb
  go_wp2
  go_ret
  refine ⟨_, rfl, ?_, _, rfl⟩
  rw [abs_dnR _ _ ho.out, HB.out]
  rfl
set_option maxRecDepth 4096 in
theorem l01Sqrt_any (x : Nat) (w : World) : Calls Try.prog 29 #[fV x] w fun e w' => ∃ b, e = .returned (fV b) ∧ absF .f32 b = rt32 (absF .f32 x) ∧ ∃ n, w.drewN n = w' := by
  go_enter Try.func29, Try.ntmps29
  go_wp2_with (go_at_call 51; refine (mathSqrt_any _ _).mono ?_; rintro e w' ⟨b, rfl, hb, n, rfl⟩)
  rw [abs_upR] at hb
  have HB := Lib.hid hb
  have ho := Lib.hid (rt_over _ _ hb num32)
  clear hb
  go_wp2_with (go_at_call 50; refine (l01Narrow_any _ ho.out _).mono ?_; rintro e w' ⟨c, rfl, hc, m, rfl⟩)
  have HC := Lib.hid hc
  clear hc
  go_wp2
  go_ret
  refine ⟨_, rfl, ?_, _, rfl⟩
  rw [HC.out, HB.out]
  rfl
end Go.Proofs.Ytimpabceellihaa
