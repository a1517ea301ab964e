/-
  The walks of small functions over lists of float32: tests of all, sums, absolute values.
-/
import Derived.Test.YtimpabceellihaaFp
namespace Go.Proofs.Ytimpabceellihaa
open Go.RowKit
attribute [local go_sem] run_fl_add run_fl_sub run_fl_mul run_fl_quo

theorem not_any {α : Type} (p : α → Bool) (xs : List α) : (!(xs.any fun x => !p x)) = xs.all p := by simp [List.all_eq_not_any_not]
theorem all_false_of {α : Type} {p : α → Bool} {xs : List α} {k : Nat} {x : α} (hx : xs[k]? = some x) (hp : p x = false) : xs.all p = false := by
  rw [List.all_eq_false]
  exact ⟨x, List.mem_of_getElem? hx, by simp [hp]⟩
/-- The sum from left to right. -/
def sumF (l : List (Option Nat)) : Option Nat := l.foldl (opF .add .f32) (some 0)
theorem sumF_snoc (l : List (Option Nat)) (x : Option Nat) : sumF (l ++ [x]) = opF .add .f32 (sumF l) x := by simp [sumF]
theorem absL_snoc {xs : List Nat} {k : Nat} {x : Nat} (h : xs[k]? = some x) : absL (xs.take (k + 1)) = absL (xs.take k) ++ [absF .f32 x] := by simp [absL, take_snoc h]

theorem l02Least_any (x : Nat) (w : World) : Calls Try.prog 47 #[fV x] w fun e w' => e = .returned (.bool (leastB x)) ∧ ∃ n, w.drewN n = w' := by
  cases h : finB x
  · have H := Lib.hid h
    go_enter Try.func47, Try.ntmps47
    go_wp2_with (go_at_call 48; refine (l01Finite_any _ _).mono ?_; rintro e w' ⟨rfl, n, rfl⟩; rw [H.out])
    go_ret
    exact ⟨ret_bool (by simp [leastB, H.out]), _, rfl⟩
  · have H := Lib.hid h
    have ho := finB_ord h
    cases h1 : (FloatKind.f32.format.order x 0 == some .gt) <;> cases h2 : (FloatKind.f32.format.order x 0 == some .eq)
    all_goals
      try (exfalso; have a := eq_of_beq h1; rw [a] at h2; cases h2; done)
    all_goals
      have h3 : (FloatKind.f32.format.order x 0 == some .lt) = _ := ho
      rw [show ord32 x 0 = FloatKind.f32.format.order x 0 from rfl, h1, h2] at h3
      clear ho
      simp only [Bool.or_false, Bool.or_true, Bool.or_self, Bool.not_true, Bool.not_false] at h3
      go_enter Try.func47, Try.ntmps47
      go_wp2_with (go_at_call 48; refine (l01Finite_any _ _).mono ?_; rintro e w' ⟨rfl, n, rfl⟩; rw [H.out])
      go_ret
      first | (exact ⟨ret_bool (by first | (simp [leastB, H.out, ord32, h1, h2]; done)), _, rfl⟩) | (exfalso; have a := eq_of_beq h1; rw [a] at h2; cases h2)
theorem l02Above_any (x : Nat) (w : World) : Calls Try.prog 27 #[fV x] w fun e w' => e = .returned (.bool (aboveB x)) ∧ ∃ n, w.drewN n = w' := by
  cases h : finB x
  · have H := Lib.hid h
    go_enter Try.func27, Try.ntmps27
    go_wp2_with (go_at_call 48; refine (l01Finite_any _ _).mono ?_; rintro e w' ⟨rfl, n, rfl⟩; rw [H.out])
    go_ret
    exact ⟨ret_bool (by simp [aboveB, H.out]), _, rfl⟩
  · have H := Lib.hid h
    have ho := finB_ord h
    cases h1 : (FloatKind.f32.format.order x 0 == some .gt) <;> cases h2 : (FloatKind.f32.format.order x 0 == some .eq)
    all_goals
      try (exfalso; have a := eq_of_beq h1; rw [a] at h2; cases h2; done)
    all_goals
      have h3 : (FloatKind.f32.format.order x 0 == some .lt) = _ := ho
      rw [show ord32 x 0 = FloatKind.f32.format.order x 0 from rfl, h1, h2] at h3
      clear ho
      simp only [Bool.or_false, Bool.or_true, Bool.or_self, Bool.not_true, Bool.not_false] at h3
      go_enter Try.func27, Try.ntmps27
      go_wp2_with (go_at_call 48; refine (l01Finite_any _ _).mono ?_; rintro e w' ⟨rfl, n, rfl⟩; rw [H.out])
      go_ret
      first | (exact ⟨ret_bool (by first | (simp [aboveB, H.out, ord32, h1]; done)), _, rfl⟩) | (exfalso; have a := eq_of_beq h1; rw [a] at h2; cases h2)
theorem areChances1_any (x : Nat) (w : World) : Calls Try.prog 55 #[fV x] w fun e w' => e = .returned (.bool (!leastB x)) ∧ ∃ n, w.drewN n = w' := by
  cases h : finB x
  · have H := Lib.hid h
    go_enter Try.func55, Try.ntmps55
    go_wp2_with (go_at_call 36; refine (isFinite_any _ _).mono ?_; rintro e w' ⟨rfl, n, rfl⟩; rw [H.out])
    go_ret
    exact ⟨ret_bool (by simp [leastB, H.out]), _, rfl⟩
  · have H := Lib.hid h
    have ho := finB_ord h
    cases h1 : (FloatKind.f32.format.order x 0 == some .gt) <;> cases h2 : (FloatKind.f32.format.order x 0 == some .eq)
    all_goals
      try (exfalso; have a := eq_of_beq h1; rw [a] at h2; cases h2; done)
    all_goals
      have h3 : (FloatKind.f32.format.order x 0 == some .lt) = _ := ho
      rw [show ord32 x 0 = FloatKind.f32.format.order x 0 from rfl, h1, h2] at h3
      clear ho
      simp only [Bool.or_false, Bool.or_true, Bool.or_self, Bool.not_true, Bool.not_false] at h3
      go_enter Try.func55, Try.ntmps55
      go_wp2_with (go_at_call 36; refine (isFinite_any _ _).mono ?_; rintro e w' ⟨rfl, n, rfl⟩; rw [H.out])
      go_ret
      first | (exact ⟨ret_bool (by first | (simp [leastB, H.out, ord32, h1, h2]; done)), _, rfl⟩) | (exfalso; have a := eq_of_beq h1; rw [a] at h2; cases h2)
theorem arePositive1_any (x : Nat) (w : World) : Calls Try.prog 58 #[fV x] w fun e w' => e = .returned (.bool (!aboveB x)) ∧ ∃ n, w.drewN n = w' := by
  cases h : finB x
  · have H := Lib.hid h
    go_enter Try.func58, Try.ntmps58
    go_wp2_with (go_at_call 36; refine (isFinite_any _ _).mono ?_; rintro e w' ⟨rfl, n, rfl⟩; rw [H.out])
    go_ret
    exact ⟨ret_bool (by simp [aboveB, H.out]), _, rfl⟩
  · have H := Lib.hid h
    have ho := finB_ord h
    cases h1 : (FloatKind.f32.format.order x 0 == some .gt) <;> cases h2 : (FloatKind.f32.format.order x 0 == some .eq)
    all_goals
      try (exfalso; have a := eq_of_beq h1; rw [a] at h2; cases h2; done)
    all_goals
      have h3 : (FloatKind.f32.format.order x 0 == some .lt) = _ := ho
      rw [show ord32 x 0 = FloatKind.f32.format.order x 0 from rfl, h1, h2] at h3
      clear ho
      simp only [Bool.or_false, Bool.or_true, Bool.or_self, Bool.not_true, Bool.not_false] at h3
      go_enter Try.func58, Try.ntmps58
      go_wp2_with (go_at_call 36; refine (isFinite_any _ _).mono ?_; rintro e w' ⟨rfl, n, rfl⟩; rw [H.out])
      go_ret
      first | (exact ⟨ret_bool (by first | (simp [aboveB, H.out, ord32, h1]; done)), _, rfl⟩) | (exfalso; have a := eq_of_beq h1; rw [a] at h2; cases h2)
theorem l02Finite_any (v : Value) (xs : List Nat) (hn : xs.length ≤ 1099511627776) (w : World) (hr : Rd fV w v xs) :
    Calls Try.prog 46 #[v] w fun e w' => e = .returned (.bool (xs.all finB)) ∧ ∃ n, w.drewN n = w' := by
  obtain ⟨A, cap, rfl, hcap, hA⟩ := hr
  have HA := Lib.hid hA
  clear hA
  go_enter Try.func46, Try.ntmps46
  go_wp2
  go_loopw [3] (fun si wr => ∃ k : Nat, k ≤ xs.length ∧ si = .int .i64 k ∧ Hid ((xs.take k).all finB = true) ∧ ∃ n, w.drewN n = wr) (fun si _ => xs.length - (intOf si).toNat)
  case atStart => exact ⟨0, by omega, rfl, rfl, 0, rfl⟩
  case round =>
    obtain ⟨k, hk, rfl, hall, nd, rfl⟩ := hrel
    by_cases hlt : k < xs.length
    · obtain ⟨x, hx⟩ := get_of_lt hlt
      obtain ⟨ad, rfl, hbl, hc⟩ := HA.out k x hx
      have HX := Lib.hid hx
      clear hx
      cases hp : finB x
      · have HP := Lib.hid hp
        clear hp
        go_wp2_with (go_at_call 48; refine (l01Finite_any _ _).mono ?_; rintro e w' ⟨rfl, n, rfl⟩; rw [HP.out])
        go_ret
        exact ⟨ret_bool (by first | exact (all_false_of HX.out HP.out).symm | (rw [all_false_of HX.out HP.out]; simp)), _, rfl⟩
      · have HP := Lib.hid hp
        clear hp
        go_wp2_with (go_at_call 48; refine (l01Finite_any _ _).mono ?_; rintro e w' ⟨rfl, n, rfl⟩; rw [HP.out])
        go_roundw
        case rel => exact ⟨k + 1, by omega, by go_num, by unfold Hid; rw [take_snoc HX.out, List.all_append, hall.out]; simp [HP.out], _, rfl⟩
        case measure => simp [intOf]; omega
    · have hke : k = xs.length := by omega
      have HK := Lib.hid hke
      clear hke
      have ha : Hid (xs.all finB = true) := by
        have := hall.out
        rw [HK.out, List.take_length] at this
        exact this
      go_wp2
      go_ret
      exact ⟨ret_bool ha.out.symm, _, rfl⟩
theorem enter_areFinite1 (args : Array Value) (w : World) : (callFunc 57 args).run Try.prog w = .ok (.enter 57 args) w :=
  enter_of Try.func57 (by kernel_rfl) (by kernel_rfl) args w
theorem areFinite_any (v : Value) (xs : List Nat) (hn : xs.length ≤ 1099511627776) (w : World) (hr : Rd fV w v xs) :
    Calls Try.prog 41 #[v] w fun e w' => e = .returned (.bool (xs.all finB)) ∧ ∃ n, w.drewN n = w' := by
  have HR := Lib.hid hr
  obtain ⟨A, cap, rfl, hcap, hA⟩ := hr
  clear hA
  have HE := Lib.hid (not_any finB xs)
  go_enter Try.func41, Try.ntmps41
  go_wp2_with (go_at_call 54; go_loud (refine (containsFuncF_any (fun x => !finB x) 57 #[] _ xs hn enter_areFinite1 _ (fun x n _ => quietly (areFinite1_any x _)) HR.out).mono ?_); rintro e w' ⟨rfl, n, rfl⟩)
  go_ret
  exact ⟨ret_bool HE.out, _, rfl⟩
theorem enter_arePositive1 (args : Array Value) (w : World) : (callFunc 58 args).run Try.prog w = .ok (.enter 58 args) w :=
  enter_of Try.func58 (by kernel_rfl) (by kernel_rfl) args w
theorem arePositive_any (v : Value) (xs : List Nat) (hn : xs.length ≤ 1099511627776) (w : World) (hr : Rd fV w v xs) :
    Calls Try.prog 42 #[v] w fun e w' => e = .returned (.bool (xs.all aboveB)) ∧ ∃ n, w.drewN n = w' := by
  have HR := Lib.hid hr
  obtain ⟨A, cap, rfl, hcap, hA⟩ := hr
  clear hA
  have HE := Lib.hid (not_any aboveB xs)
  go_enter Try.func42, Try.ntmps42
  go_wp2_with (go_at_call 54; go_loud (refine (containsFuncF_any (fun x => !aboveB x) 58 #[] _ xs hn enter_arePositive1 _ (fun x n _ => quietly (arePositive1_any x _)) HR.out).mono ?_); rintro e w' ⟨rfl, n, rfl⟩)
  go_ret
  exact ⟨ret_bool HE.out, _, rfl⟩

theorem sum_any (v : Value) (xs : List Nat) (hn : xs.length ≤ 1099511627776) (w : World) (hr : Rd fV w v xs) :
    Calls Try.prog 38 #[v] w fun e w' => ∃ b, e = .returned (fV b) ∧ absF .f32 b = sumF (absL xs) ∧ ∃ n, w.drewN n = w' := by
  obtain ⟨A, cap, rfl, hcap, hA⟩ := hr
  have HA := Lib.hid hA
  clear hA
  go_enter Try.func38, Try.ntmps38
  go_wp2
  go_loopw [3, 8] (fun ss si wr => ∃ k : Nat, k ≤ xs.length ∧ si = .int .i64 k ∧ (∃ b, ss = fV b ∧ Hid (absF .f32 b = sumF (absL (xs.take k)))) ∧ ∃ n, w.drewN n = wr) (fun _ si _ => xs.length - (intOf si).toNat)
  case atStart => exact ⟨0, by omega, rfl, ⟨0, rfl, rfl⟩, 0, rfl⟩
  case round =>
    obtain ⟨k, hk, rfl, ⟨b, rfl, hb⟩, nd, rfl⟩ := hrel
    by_cases hlt : k < xs.length
    · obtain ⟨x, hx⟩ := get_of_lt hlt
      obtain ⟨ad, rfl, hbl, hc⟩ := HA.out k x hx
      have HX := Lib.hid hx
      clear hx
      go_wp2
      go_roundw
      case rel => exact ⟨k + 1, by omega, by go_num, ⟨_, rfl, by unfold Hid; rw [absL_snoc HX.out, sumF_snoc, abs_flR .add rfl, hb.out]⟩, _, rfl⟩
      case measure => simp [intOf]; omega
    · have hke : k = xs.length := by omega
      have HK := Lib.hid hke
      clear hke
      go_wp2
      go_ret
      exact ⟨_, rfl, by rw [hb.out, HK.out, List.take_length], _, rfl⟩
end Go.Proofs.Ytimpabceellihaa
