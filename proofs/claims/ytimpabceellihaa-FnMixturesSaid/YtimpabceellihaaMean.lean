/-
  Means of shares, chances below a number: the walks of spec.l05Mean, impl.DotNumbers, both MeanOfShare, spec.l05Below, impl.chanceBelow, both ChanceBelow.
-/
import Derived.Test.YtimpabceellihaaValidSh
import Derived.Test.YtimpabceellihaaFq
namespace Go.Proofs.Ytimpabceellihaa
open Go.RowKit
attribute [local go_sem] run_fl_add run_fl_sub run_fl_mul run_fl_quo run_up_

/-- Finite, of what a word stands for. -/
def finA : Option Nat → Bool | none => false | some b => finB b
theorem fin_abs (b : Nat) : finB b = finA (absF .f32 b) := by
  cases h : (FloatKind.f32.decode b).isNaN
  · rw [absF_of h]; rfl
  · rw [absF_nan h]
    obtain ⟨s, t, e⟩ := nan_cases h
    simp [finB, finA, e]
/-- The sum of the products of the first k pairs. -/
def dotTo (xs ys : List Nat) (k : Nat) : Option Nat := (List.range k).foldl (fun s i => opF .add .f32 s (opF .mul .f32 (absF .f32 (xs.getD i 0)) (absF .f32 (ys.getD i 0)))) (some 0)
theorem dotTo_succ {xs ys : List Nat} {k x y : Nat} (hx : xs[k]? = some x) (hy : ys[k]? = some y) : dotTo xs ys (k + 1) = opF .add .f32 (dotTo xs ys k) (opF .mul .f32 (absF .f32 x) (absF .f32 y)) := by
  simp [dotTo, List.range_succ, hx, hy]
/-- The sum of the chances of all values of at most t, of the first k. -/
def belowTo (v c : List Nat) (t k : Nat) : Option Nat := (List.range k).foldl (fun s i => if leB (v.getD i 0) t then opF .add .f32 s (absF .f32 (c.getD i 0)) else s) (some 0)
theorem belowTo_succ {v c : List Nat} {t k x y : Nat} (hx : v[k]? = some x) (hy : c[k]? = some y) : belowTo v c t (k + 1) = if leB x t then opF .add .f32 (belowTo v c t k) (absF .f32 y) else belowTo v c t k := by
  simp [belowTo, List.range_succ, hx, hy]
theorem abs_zero : absF .f32 0 = some 0 := by decide
theorem below_same' {w w' : World} (h : w = w') : Below w.heap.size w w' := by subst h; exact Below.refl _ _

/-- x, if it is finite. -/
def numF (x : Nat) : Nat := if finB x then x else 0
theorem l02Number_any (x : Nat) (w : World) : Calls Try.prog 44 #[fV x] w fun e w' => e = .returned (.tuple #[fV (numF x), .bool (finB x)]) ∧ ∃ n, w.drewN n = w' := by
  cases h : finB x
  all_goals
    have H := Lib.hid h
    clear h
    go_enter Try.func44, Try.ntmps44
    go_wp2_with (go_at_call 48; refine (l01Finite_any _ _).mono ?_; rintro e w' ⟨rfl, n, rfl⟩; rw [H.out])
    go_ret2
    exact ⟨by unfold numF; rw [H.out]; rfl, _, rfl⟩
theorem checked_any (x : Nat) (w : World) : Calls Try.prog 37 #[fV x] w fun e w' => e = .returned (.tuple #[fV (numF x), .bool (finB x)]) ∧ ∃ n, w.drewN n = w' := by
  cases h : finB x
  all_goals
    have H := Lib.hid h
    clear h
    go_enter Try.func37, Try.ntmps37
    go_wp2_with (go_at_call 36; refine (isFinite_any _ _).mono ?_; rintro e w' ⟨rfl, n, rfl⟩; rw [H.out])
    go_ret2
    exact ⟨by unfold numF; rw [H.out]; rfl, _, rfl⟩

set_option maxHeartbeats 1600000 in
theorem dotNumbers_any (v0 v1 : Value) (x0 x1 : List Nat) (hn0 : x0.length ≤ 256) (hl : x1.length = x0.length) (w : World) (hr0 : Rd fV w v0 x0) (hr1 : Rd fV w v1 x1) :
    Calls Try.prog 65 #[v0, v1] w fun e w' => ∃ b, e = .returned (.tuple #[fV b, .bool true]) ∧ absF .f32 b = dotTo x0 x1 x0.length ∧ ∃ n, w.drewN n = w' := by
  have HR0 := Lib.hid hr0
  obtain ⟨A0, cap0, rfl, hcap0, hA0⟩ := hr0
  have HA0 := Lib.hid hA0
  clear hA0
  have HR1 := Lib.hid hr1
  obtain ⟨A1, cap1, rfl, hcap1, hA1⟩ := hr1
  have HA1 := Lib.hid hA1
  clear hA1
  have HL := Lib.hid hl
  rw [hl] at hcap1
  rw [hl]
  clear hl
  go_enter Try.func65, Try.ntmps65
  go_wp2
  go_loopw [6, 21] (fun ss si wr => ∃ (k b : Nat), k ≤ x0.length ∧ si = .int .i64 k ∧ ss = fV b ∧ Hid (absF .f32 b = dotTo x0 x1 k) ∧ ∃ n, w.drewN n = wr) (fun _ si _ => x0.length - (intOf si).toNat)
  case atStart => exact ⟨0, 0, by omega, rfl, rfl, abs_zero, 0, rfl⟩
  case round =>
    obtain ⟨k, b, hk, rfl, rfl, hs, n, rfl⟩ := hrel
    by_cases hlt : k < x0.length
    · obtain ⟨x, hx⟩ := get_of_lt hlt
      obtain ⟨c, hc⟩ := get_of_lt (xs := x1) (k := k) (by rw [HL.out]; exact hlt)
      obtain ⟨ad, rfl, hbl, hcell⟩ := HA0.out k x hx
      obtain ⟨ad1, rfl, hbl1, hcell1⟩ := HA1.out k c hc
      have HD := Lib.hid (dotTo_succ hx hc)
      clear hx hc
      go_wp2
      go_roundw
      case rel => exact ⟨k + 1, _, by omega, by go_num, rfl, by unfold Hid; rw [HD.out, abs_flR .add rfl, abs_flR .mul rfl, hs.out], _, rfl⟩
      case measure => simp [intOf]; omega
    · have hke : k = x0.length := by omega
      have Hke := Lib.hid hke
      clear hke
      go_wp2
      go_ret2
      exact ⟨b, rfl, by rw [hs.out, Hke.out], _, rfl⟩

def meanOk (x0 x1 : List Nat) : Bool := shareB x0 x1 && finA (dotTo x0 x1 x0.length)
def meanV (x0 x1 : List Nat) : Option Nat := if meanOk x0 x1 then dotTo x0 x1 x0.length else some 0
def RetMeanOfShare (x0 x1 : List Nat) (w : World) (e : Ending) (w' : World) : Prop :=
  ∃ b, e = .returned (.tuple #[fV b, .bool (meanOk x0 x1)]) ∧ absF .f32 b = meanV x0 x1 ∧ Below w.heap.size w w'
theorem meanV_of {x0 x1 : List Nat} {b : Nat} (hs : shareB x0 x1 = true) (hb : absF .f32 b = dotTo x0 x1 x0.length) : finB b = meanOk x0 x1 ∧ absF .f32 (numF b) = meanV x0 x1 := by
  have h : finB b = meanOk x0 x1 := by unfold meanOk; rw [hs, fin_abs, hb]; rfl
  refine ⟨h, ?_⟩
  unfold meanV numF
  rw [← h]
  split
  · exact hb
  · exact abs_zero
theorem meanV_no {x0 x1 : List Nat} (hs : shareB x0 x1 = false) : meanOk x0 x1 = false ∧ meanV x0 x1 = some 0 := by
  have h : meanOk x0 x1 = false := by unfold meanOk; rw [hs]; rfl
  exact ⟨h, by unfold meanV; rw [h]; rfl⟩

def belowOk (x0 x1 : List Nat) (t : Nat) : Bool := shareB x0 x1 && finB t
def belowV (x0 x1 : List Nat) (t : Nat) : Option Nat := if belowOk x0 x1 t then belowTo x0 x1 t x0.length else some 0
def RetChanceBelow (x0 x1 : List Nat) (t : Nat) (w : World) (e : Ending) (w' : World) : Prop :=
  ∃ b, e = .returned (.tuple #[fV b, .bool (belowOk x0 x1 t)]) ∧ absF .f32 b = belowV x0 x1 t ∧ Below w.heap.size w w'
theorem belowV_no {x0 x1 : List Nat} {t : Nat} (h : belowOk x0 x1 t = false) : belowV x0 x1 t = some 0 := by unfold belowV; rw [h]; rfl
theorem belowV_yes {x0 x1 : List Nat} {t : Nat} (h : belowOk x0 x1 t = true) : belowV x0 x1 t = belowTo x0 x1 t x0.length := by unfold belowV; rw [h]; rfl

end Go.Proofs.Ytimpabceellihaa
