/-
  The band of a list in order: the floor of a product as a place, lists in order.
-/
import Derived.Test.YtchcgapgpflknaaNear
import Derived.Test.YtchcgapgpflknaaFl
import Derived.Test.YtchcgapgpflknaaBound
import Derived.Test.YtchcgapgpflknaaShareIs
namespace Go.Proofs.Ytchcgapgpflknaa
open Go.RowKit
attribute [local go_sem] run_fl_add run_fl_sub run_fl_mul run_fl_quo run_up_

theorem run_archFloor {b : Nat} (h : (FloatKind.f64.decode b).isNaN = false) (w : World) : (callFunc 97 #[.float .f64 b]).run Try.prog w = .ok (.value (.float .f64 (FloatKind.f64.encode ((FloatKind.f64.decode b).integral .down)))) w := by
  have h0 : (callFunc 97 #[.float .f64 b]).run Try.prog w = ((Extern.MathFloor.toIntegral "math.archFloor" .down #[.float .f64 b] >>= fun v => pure (Next.value v)) : Sem Next).run Try.prog w := by kernel_rfl
  rw [h0]
  rw [Sem.run_bind]
  have h1 : (Extern.MathFloor.toIntegral "math.archFloor" .down #[.float .f64 b]).run Try.prog w = .ok (.float .f64 (FloatKind.f64.encode ((FloatKind.f64.decode b).integral .down))) w := by
    have key : ∀ d, FloatKind.f64.decode b = d → (Extern.MathFloor.toIntegral "math.archFloor" .down #[.float .f64 b]).run Try.prog w = .ok (.float .f64 (FloatKind.f64.encode (d.integral .down))) w := by
      intro d hd
      conv in Extern.MathFloor.toIntegral _ _ _ => whnf
      rw [hd]
      rw [hd] at h
      cases d with
      | nan s t => cases h
      | infinity s => rfl
      | number s m p => rfl
    exact key _ rfl
  rw [h1]
  rfl
theorem run_toInt {b : Nat} {k : Nat} (h : (FloatKind.f64.decode b).toInt .zero = some (k : Int)) (hk : k < 8192) (w : World) : (convert 28 3 (.float .f64 b)).run Try.prog w = .ok (.int .i64 (k : Int)) w := by
  have h0 : (convert 28 3 (.float .f64 b)).run Try.prog w = (Conv.floatToInt .f64 b .i64).run Try.prog w := by kernel_rfl
  rw [h0]
  unfold Conv.floatToInt
  rw [h]
  dsimp only
  rw [if_pos (by show (-9223372036854775808 : Int) ≤ _ ∧ _ ≤ (9223372036854775807 : Int); omega)]
  rfl
theorem cmpIsNaN_any (x : Nat) (w : World) : Calls Try.prog 120 #[fV x] w fun e w' => e = .returned (.bool (!(ord32 x x == some .eq))) ∧ w = w' := by
  go_enter Try.func120, Try.ntmps120
  go_wp2
  go_ret
  exact ⟨rfl, rfl⟩
/-- Of words that are no NaNs: the order. -/
theorem cmpLess_any (x y : Nat) (hx : (ord32 x x == some .eq) = true) (hy : (ord32 y y == some .eq) = true) (w : World) : Calls Try.prog 101 #[fV x, fV y] w fun e w' => e = .returned (.bool (ord32 x y == some .lt)) ∧ w = w' := by
  have HX := Lib.hid hx
  have HY := Lib.hid hy
  clear hx hy
  go_enter Try.func101, Try.ntmps101
  go_wp2_with (first | (go_at_call 120; refine (cmpIsNaN_any _ _).mono ?_; rintro e w' ⟨rfl, rfl⟩; first | rw [HX.out] | rw [HY.out]))
  go_ret
  exact ⟨rfl, rfl⟩
theorem run_floor {b : Nat} (h : (FloatKind.f64.decode b).isNaN = false) (w : World) : Calls Try.prog 57 #[.float .f64 b] w fun e w' => e = .returned (.float .f64 (FloatKind.f64.encode ((FloatKind.f64.decode b).integral .down))) ∧ w = w' := by
  have hr := run_archFloor h
  clear h
  go_enter Try.func57, Try.ntmps57
  go_wp2
  go_ret
  exact ⟨rfl, rfl⟩
theorem l06List_any (v : Value) (xs : List Nat) (hn : xs.length ≤ 1099511627776) (w : World) (hr : Rd fV w v xs) :
    Calls Try.prog 56 #[v, .int .i64 256] w fun e w' => e = .returned (.bool (decide (1 ≤ xs.length ∧ xs.length ≤ 256) && xs.all finB)) ∧ ∃ n, w.drewN n = w' := by
  have HR := Lib.hid hr
  obtain ⟨A, cap, rfl, hcap, hA⟩ := hr
  clear hA
  cases ha : xs.all finB <;> by_cases h1 : 1 ≤ xs.length <;> by_cases h2 : xs.length ≤ 256
  all_goals first | (exfalso; omega) | skip
  all_goals
    have HA := Lib.hid ha
    clear ha
    go_enter Try.func56, Try.ntmps56
    go_wp2_with (go_at_call 96; refine (l02Finite_any _ xs hn _ HR.out).mono ?_; rintro e w' ⟨rfl, n, rfl⟩; rw [HA.out])
    go_ret
    exact ⟨by simp [h1, h2], by first | exact ⟨_, rfl⟩ | exact ⟨0, rfl⟩⟩
/-- No place falls. -/
def fallB (xs : List Nat) (i : Nat) : Bool := ord32 (xs.getD i 0) (xs.getD (i - 1) 0) == some .lt
def sortedB (xs : List Nat) : Bool := (List.range xs.length).all fun i => i == 0 || !fallB xs i
theorem sortedB_f {xs : List Nat} {i : Nat} (h0 : 1 ≤ i) (h : i < xs.length) (hf : fallB xs i = true) : sortedB xs = false := by
  unfold sortedB
  rw [List.all_eq_false]
  exact ⟨i, List.mem_range.2 h, by rw [hf]; simp; omega⟩
theorem sortedB_t {xs : List Nat} (h : ∀ i, 1 ≤ i → i < xs.length → fallB xs i = false) : sortedB xs = true := by
  unfold sortedB
  rw [List.all_eq_true]
  intro i hi
  have := h i
  by_cases hz : i = 0
  · simp [hz]
  · rw [this (by omega) (List.mem_range.1 hi)]; simp
theorem fin_refl {x : Nat} (h : finB x = true) : (ord32 x x == some .eq) = true := by
  have hn : (FloatKind.f32.decode x).isNaN = false := by
    unfold finB at h
    cases hd : FloatKind.f32.decode x with
    | nan s t => rw [hd] at h; cases h
    | infinity s => rfl
    | number s m p => rfl
  have := ord_refl (k := .f32) hn
  simpa [ord32] using this
set_option maxHeartbeats 1600000 in
theorem isSorted_any (v : Value) (xs : List Nat) (hn : xs.length ≤ 1099511627776) (hf : xs.all finB = true) (w : World) (hr : Rd fV w v xs) :
    Calls Try.prog 59 #[v] w fun e w' => e = .returned (.bool (sortedB xs)) ∧ ∃ n, w.drewN n = w' := by
  have HF : Hid (∀ (i x : Nat), xs[i]? = some x → (ord32 x x == some .eq) = true) := fun i x hx => fin_refl (List.all_eq_true.1 hf x (List.mem_of_getElem? hx))
  obtain ⟨A, cap, rfl, hcap, hA⟩ := hr
  have HA := Lib.hid hA
  clear hA hf
  go_enter Try.func59, Try.ntmps59
  go_wp2
  go_loopw [3] (fun si wr => ∃ k : Int, -1 ≤ k ∧ k < xs.length ∧ si = .int .i64 k ∧ Hid (∀ i : Nat, k < i → i < xs.length → fallB xs i = false) ∧ ∃ n, w.drewN n = wr) (fun si _ => (intOf si + 1).toNat)
  case atStart => exact ⟨(xs.length : Int) - 1, by omega, by omega, by first | rfl | go_num, fun i h1 h2 => by omega, 0, rfl⟩
  case round =>
    obtain ⟨k, hk1, hk2, rfl, hno, q, hq⟩ := hrel
    have Hq := Lib.hid hq
    by_cases hlt : 1 ≤ k
    · obtain ⟨j, rfl⟩ : ∃ j : Nat, k = (j : Int) := ⟨k.toNat, by omega⟩
      obtain ⟨x, hx⟩ := get_of_lt (xs := xs) (k := j) (by omega)
      obtain ⟨y, hy⟩ := get_of_lt (xs := xs) (k := j - 1) (by omega)
      obtain ⟨ad, rfl, hbl, hc⟩ := HA.out j x hx
      obtain ⟨ad1, e1, hbl1, hc1⟩ := HA.out (j - 1) y hy
      cases e1
      have HX := Lib.hid (HF.out j x hx)
      have HY := Lib.hid (HF.out _ y hy)
      have HFL : Hid (fallB xs j = (ord32 x y == some .lt)) := by unfold Hid fallB; rw [List.getD_eq_getElem?_getD, List.getD_eq_getElem?_getD, hx, hy]; rfl
      have hsub : IntKind.i64.wrap ((j : Int) - 1) = ((j - 1 : Nat) : Int) := by rw [IntWalk.i64_in _ (by omega)]; omega
      have e0 : wr.cell? (ad.add j) = some (fV x) := by rw [← hq]; exact hc
      have e1 : wr.cell? (ad.add (j - 1)) = some (fV y) := by rw [← hq]; exact hc1
      have hq0 : (0 : Int) ≤ (j : Int) := by omega
      have hp0 : (0 : Int) ≤ ((j - 1 : Nat) : Int) := by omega
      have hp1 : ((j - 1 : Nat) : Int) < (xs.length : Int) := by omega
      cases hfl : (ord32 x y == some .lt)
      · have HF0 : Hid (fallB xs j = false) := by unfold Hid; rw [HFL.out, hfl]
        have HH : ∀ W : World, Calls Try.prog 101 #[fV x, fV y] W fun e w' => e = .returned (.bool false) ∧ ∃ n, W.drewN n = w' := fun W => (cmpLess_any x y HX.out HY.out W).mono fun e w' h => ⟨by rw [h.1, hfl], 0, h.2⟩
        have HC := Lib.hid (quietR HH wr)
        clear hx hy HH hq hc hc1 hfl HFL
        go_wp2
        go_quiet (exact HC.out _)
        go_wp2
        go_roundw
        case rel => exact ⟨(j : Int) - 1, by omega, by omega, by congr 1; omega, fun i h1 h2 => by rcases Nat.lt_or_ge j i with h | h; exact hno.out i (by omega) h2; rw [show i = j by omega]; exact HF0.out, _, by rw [← Hq.out, World.drewN_drewN]⟩
        case measure => simp [intOf]; omega
      · have HF0 : Hid (fallB xs j = true) := by unfold Hid; rw [HFL.out, hfl]
        have HH : ∀ W : World, Calls Try.prog 101 #[fV x, fV y] W fun e w' => e = .returned (.bool true) ∧ ∃ n, W.drewN n = w' := fun W => (cmpLess_any x y HX.out HY.out W).mono fun e w' h => ⟨by rw [h.1, hfl], 0, h.2⟩
        have HC := Lib.hid (quietR HH wr)
        clear hx hy HH hq hc hc1 hfl HFL
        go_wp2
        go_quiet (exact HC.out _)
        go_wp2
        go_ret
        exact ⟨ret_bool (sortedB_f (i := j) (by omega) (by omega) HF0.out).symm, _, by rw [← Hq.out, World.drewN_drewN]⟩
    · go_wp2
      go_ret
      exact ⟨ret_bool (sortedB_t fun i h1 h2 => hno.out i (by omega) h2).symm, q, hq⟩
end Go.Proofs.Ytchcgapgpflknaa
