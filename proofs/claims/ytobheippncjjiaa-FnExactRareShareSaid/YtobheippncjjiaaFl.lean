/-
  The walks of small functions over lists of float32: tests of all, sums, absolute values.
-/
import Derived.Test.YtobheippncjjiaaFp
namespace Go.Proofs.Ytobheippncjjiaa
open Go.RowKit
attribute [local go_sem] run_fl_add run_fl_sub run_fl_mul run_fl_quo

theorem not_any {α : Type} (p : α → Bool) (xs : List α) : (!(xs.any fun x => !p x)) = xs.all p := by simp [List.all_eq_not_any_not]
theorem all_false_of {α : Type} {p : α → Bool} {xs : List α} {k : Nat} {x : α} (hx : xs[k]? = some x) (hp : p x = false) : xs.all p = false := by
  rw [List.all_eq_false]
  exact ⟨x, List.mem_of_getElem? hx, by simp [hp]⟩
/-- The sum from left to right. -/
def sumF (l : List (Option Nat)) : Option Nat := l.foldl (opF .add .f32) (some 0)
theorem sumF_snoc (l : List (Option Nat)) (x : Option Nat) : sumF (l ++ [x]) = opF .add .f32 (sumF l) x := by simp [sumF]
theorem absL_snoc {xs : List Nat} {k : Nat} {x : Nat} (h : xs[k]? = some x) : absL (xs.take (k + 1)) = absL (xs.take k) ++ [absF .f32 x] := by simp [absL, take_snoc h]

theorem l02Least_any (x : Nat) (w : World) : Calls Try.prog 93 #[fV x] w fun e w' => e = .returned (.bool (leastB x)) ∧ ∃ n, w.drewN n = w' := by
  cases h : finB x
  · have H := Lib.hid h
    go_enter Try.func93, Try.ntmps93
    go_wp2_with (go_at_call 72; refine (l01Finite_any _ _).mono ?_; rintro e w' ⟨rfl, n, rfl⟩; rw [H.out])
    go_ret
    exact ⟨ret_bool (by simp [leastB, H.out]), _, rfl⟩
  · have H := Lib.hid h
    have ho := finB_ord h
    cases h1 : (FloatKind.f32.format.order x 0 == some .gt) <;> cases h2 : (FloatKind.f32.format.order x 0 == some .eq)
    all_goals
      try (exfalso; have a := eq_of_beq h1; rw [a] at h2; cases h2; done)
    all_goals
      have h3 : (FloatKind.f32.format.order x 0 == some .lt) = _ := ho
      rw [show ord32 x 0 = FloatKind.f32.format.order x 0 from rfl, h1, h2] at h3
      clear ho
      simp only [Bool.or_false, Bool.or_true, Bool.or_self, Bool.not_true, Bool.not_false] at h3
      go_enter Try.func93, Try.ntmps93
      go_wp2_with (go_at_call 72; refine (l01Finite_any _ _).mono ?_; rintro e w' ⟨rfl, n, rfl⟩; rw [H.out])
      go_ret
      first | (exact ⟨ret_bool (by first | (simp [leastB, H.out, ord32, h1, h2]; done)), _, rfl⟩) | (exfalso; have a := eq_of_beq h1; rw [a] at h2; cases h2)
theorem l02Above_any (x : Nat) (w : World) : Calls Try.prog 100 #[fV x] w fun e w' => e = .returned (.bool (aboveB x)) ∧ ∃ n, w.drewN n = w' := by
  cases h : finB x
  · have H := Lib.hid h
    go_enter Try.func100, Try.ntmps100
    go_wp2_with (go_at_call 72; refine (l01Finite_any _ _).mono ?_; rintro e w' ⟨rfl, n, rfl⟩; rw [H.out])
    go_ret
    exact ⟨ret_bool (by simp [aboveB, H.out]), _, rfl⟩
  · have H := Lib.hid h
    have ho := finB_ord h
    cases h1 : (FloatKind.f32.format.order x 0 == some .gt) <;> cases h2 : (FloatKind.f32.format.order x 0 == some .eq)
    all_goals
      try (exfalso; have a := eq_of_beq h1; rw [a] at h2; cases h2; done)
    all_goals
      have h3 : (FloatKind.f32.format.order x 0 == some .lt) = _ := ho
      rw [show ord32 x 0 = FloatKind.f32.format.order x 0 from rfl, h1, h2] at h3
      clear ho
      simp only [Bool.or_false, Bool.or_true, Bool.or_self, Bool.not_true, Bool.not_false] at h3
      go_enter Try.func100, Try.ntmps100
      go_wp2_with (go_at_call 72; refine (l01Finite_any _ _).mono ?_; rintro e w' ⟨rfl, n, rfl⟩; rw [H.out])
      go_ret
      first | (exact ⟨ret_bool (by first | (simp [aboveB, H.out, ord32, h1]; done)), _, rfl⟩) | (exfalso; have a := eq_of_beq h1; rw [a] at h2; cases h2)
theorem areChances1_any (x : Nat) (w : World) : Calls Try.prog 96 #[fV x] w fun e w' => e = .returned (.bool (!leastB x)) ∧ ∃ n, w.drewN n = w' := by
  cases h : finB x
  · have H := Lib.hid h
    go_enter Try.func96, Try.ntmps96
    go_wp2_with (go_at_call 74; refine (isFinite_any _ _).mono ?_; rintro e w' ⟨rfl, n, rfl⟩; rw [H.out])
    go_ret
    exact ⟨ret_bool (by simp [leastB, H.out]), _, rfl⟩
  · have H := Lib.hid h
    have ho := finB_ord h
    cases h1 : (FloatKind.f32.format.order x 0 == some .gt) <;> cases h2 : (FloatKind.f32.format.order x 0 == some .eq)
    all_goals
      try (exfalso; have a := eq_of_beq h1; rw [a] at h2; cases h2; done)
    all_goals
      have h3 : (FloatKind.f32.format.order x 0 == some .lt) = _ := ho
      rw [show ord32 x 0 = FloatKind.f32.format.order x 0 from rfl, h1, h2] at h3
      clear ho
      simp only [Bool.or_false, Bool.or_true, Bool.or_self, Bool.not_true, Bool.not_false] at h3
      go_enter Try.func96, Try.ntmps96
      go_wp2_with (go_at_call 74; refine (isFinite_any _ _).mono ?_; rintro e w' ⟨rfl, n, rfl⟩; rw [H.out])
      go_ret
      first | (exact ⟨ret_bool (by first | (simp [leastB, H.out, ord32, h1, h2]; done)), _, rfl⟩) | (exfalso; have a := eq_of_beq h1; rw [a] at h2; cases h2)
theorem arePositive1_any (x : Nat) (w : World) : Calls Try.prog 101 #[fV x] w fun e w' => e = .returned (.bool (!aboveB x)) ∧ ∃ n, w.drewN n = w' := by
  cases h : finB x
  · have H := Lib.hid h
    go_enter Try.func101, Try.ntmps101
    go_wp2_with (go_at_call 74; refine (isFinite_any _ _).mono ?_; rintro e w' ⟨rfl, n, rfl⟩; rw [H.out])
    go_ret
    exact ⟨ret_bool (by simp [aboveB, H.out]), _, rfl⟩
  · have H := Lib.hid h
    have ho := finB_ord h
    cases h1 : (FloatKind.f32.format.order x 0 == some .gt) <;> cases h2 : (FloatKind.f32.format.order x 0 == some .eq)
    all_goals
      try (exfalso; have a := eq_of_beq h1; rw [a] at h2; cases h2; done)
    all_goals
      have h3 : (FloatKind.f32.format.order x 0 == some .lt) = _ := ho
      rw [show ord32 x 0 = FloatKind.f32.format.order x 0 from rfl, h1, h2] at h3
      clear ho
      simp only [Bool.or_false, Bool.or_true, Bool.or_self, Bool.not_true, Bool.not_false] at h3
      go_enter Try.func101, Try.ntmps101
      go_wp2_with (go_at_call 74; refine (isFinite_any _ _).mono ?_; rintro e w' ⟨rfl, n, rfl⟩; rw [H.out])
      go_ret
      first | (exact ⟨ret_bool (by first | (simp [aboveB, H.out, ord32, h1]; done)), _, rfl⟩) | (exfalso; have a := eq_of_beq h1; rw [a] at h2; cases h2)
theorem l02Finite_any (v : Value) (xs : List Nat) (hn : xs.length ≤ 1099511627776) (w : World) (hr : Rd fV w v xs) :
    Calls Try.prog 98 #[v] w fun e w' => e = .returned (.bool (xs.all finB)) ∧ ∃ n, w.drewN n = w' := by
  obtain ⟨A, cap, rfl, hcap, hA⟩ := hr
  have HA := Lib.hid hA
  clear hA
  go_enter Try.func98, Try.ntmps98
  go_wp2
  go_loopw [3] (fun si wr => ∃ k : Nat, k ≤ xs.length ∧ si = .int .i64 k ∧ Hid ((xs.take k).all finB = true) ∧ ∃ n, w.drewN n = wr) (fun si _ => xs.length - (intOf si).toNat)
  case atStart => exact ⟨0, by omega, rfl, rfl, 0, rfl⟩
  case round =>
    obtain ⟨k, hk, rfl, hall, nd, rfl⟩ := hrel
    by_cases hlt : k < xs.length
    · obtain ⟨x, hx⟩ := get_of_lt hlt
      obtain ⟨ad, rfl, hbl, hc⟩ := HA.out k x hx
      have HX := Lib.hid hx
      clear hx
      cases hp : finB x
      · have HP := Lib.hid hp
        clear hp
        go_wp2_with (go_at_call 72; refine (l01Finite_any _ _).mono ?_; rintro e w' ⟨rfl, n, rfl⟩; rw [HP.out])
        go_ret
        exact ⟨ret_bool (by first | exact (all_false_of HX.out HP.out).symm | (rw [all_false_of HX.out HP.out]; simp)), _, rfl⟩
      · have HP := Lib.hid hp
        clear hp
        go_wp2_with (go_at_call 72; refine (l01Finite_any _ _).mono ?_; rintro e w' ⟨rfl, n, rfl⟩; rw [HP.out])
        go_roundw
        case rel => exact ⟨k + 1, by omega, by go_num, by unfold Hid; rw [take_snoc HX.out, List.all_append, hall.out]; simp [HP.out], _, rfl⟩
        case measure => simp [intOf]; omega
    · have hke : k = xs.length := by omega
      have HK := Lib.hid hke
      clear hke
      have ha : Hid (xs.all finB = true) := by
        have := hall.out
        rw [HK.out, List.take_length] at this
        exact this
      go_wp2
      go_ret
      exact ⟨ret_bool ha.out.symm, _, rfl⟩
theorem l06Shares_any (v : Value) (xs : List Nat) (hn : xs.length ≤ 1099511627776) (w : World) (hr : Rd fV w v xs) :
    Calls Try.prog 55 #[v] w fun e w' => e = .returned (.bool (xs.all partB && decide (1 ≤ xs.length ∧ xs.length ≤ 64))) ∧ ∃ n, w.drewN n = w' := by
  obtain ⟨A, cap, rfl, hcap, hA⟩ := hr
  have HA := Lib.hid hA
  clear hA
  go_enter Try.func55, Try.ntmps55
  go_wp2
  go_loopw [3] (fun si wr => ∃ k : Nat, k ≤ xs.length ∧ si = .int .i64 k ∧ Hid ((xs.take k).all partB = true) ∧ ∃ n, w.drewN n = wr) (fun si _ => xs.length - (intOf si).toNat)
  case atStart => exact ⟨0, by omega, rfl, rfl, 0, rfl⟩
  case round =>
    obtain ⟨k, hk, rfl, hall, nd, rfl⟩ := hrel
    by_cases hlt : k < xs.length
    · obtain ⟨x, hx⟩ := get_of_lt hlt
      obtain ⟨ad, rfl, hbl, hc⟩ := HA.out k x hx
      have HX := Lib.hid hx
      clear hx
      cases hp : partB x
      · have HP := Lib.hid hp
        clear hp
        go_wp2_with (go_at_call 66; refine (l02Part_any _ _).mono ?_; rintro e w' ⟨rfl, rfl⟩; rw [HP.out])
        go_ret
        exact ⟨ret_bool (by first | exact (all_false_of HX.out HP.out).symm | (rw [all_false_of HX.out HP.out]; simp)), _, rfl⟩
      · have HP := Lib.hid hp
        clear hp
        go_wp2_with (go_at_call 66; refine (l02Part_any _ _).mono ?_; rintro e w' ⟨rfl, rfl⟩; rw [HP.out])
        go_roundw
        case rel => exact ⟨k + 1, by omega, by go_num, by unfold Hid; rw [take_snoc HX.out, List.all_append, hall.out]; simp [HP.out], _, rfl⟩
        case measure => simp [intOf]; omega
    · have hke : k = xs.length := by omega
      have HK := Lib.hid hke
      clear hke
      have ha : Hid (xs.all partB = true) := by
        have := hall.out
        rw [HK.out, List.take_length] at this
        exact this
      by_cases h1 : 1 ≤ xs.length
      · by_cases h2 : xs.length ≤ 64
        · go_wp2
          go_ret
          exact ⟨ret_bool (by first | rfl | (rw [ha.out]; (first | rfl | (rw [Bool.eq_iff_iff]; simp; omega)))), _, rfl⟩
        · go_wp2
          go_ret
          exact ⟨ret_bool (by first | rfl | (rw [ha.out]; (first | rfl | (rw [Bool.eq_iff_iff]; simp; omega)))), _, rfl⟩
      · go_wp2
        go_ret
        exact ⟨ret_bool (by first | rfl | (rw [ha.out]; (first | rfl | (rw [Bool.eq_iff_iff]; simp; omega)))), _, rfl⟩
theorem enter_areFinite1 (args : Array Value) (w : World) : (callFunc 95 args).run Try.prog w = .ok (.enter 95 args) w :=
  enter_of Try.func95 (by kernel_rfl) (by kernel_rfl) args w
theorem areFinite_any (v : Value) (xs : List Nat) (hn : xs.length ≤ 1099511627776) (w : World) (hr : Rd fV w v xs) :
    Calls Try.prog 63 #[v] w fun e w' => e = .returned (.bool (xs.all finB)) ∧ ∃ n, w.drewN n = w' := by
  have HR := Lib.hid hr
  obtain ⟨A, cap, rfl, hcap, hA⟩ := hr
  clear hA
  have HE := Lib.hid (not_any finB xs)
  go_enter Try.func63, Try.ntmps63
  go_wp2_with (go_at_call 94; go_loud (refine (containsFuncF_any (fun x => !finB x) 95 #[] _ xs hn enter_areFinite1 _ (fun x n _ => quietly (areFinite1_any x _)) HR.out).mono ?_); rintro e w' ⟨rfl, n, rfl⟩)
  go_ret
  exact ⟨ret_bool HE.out, _, rfl⟩
theorem enter_areParts1 (args : Array Value) (w : World) : (callFunc 99 args).run Try.prog w = .ok (.enter 99 args) w :=
  enter_of Try.func99 (by kernel_rfl) (by kernel_rfl) args w
theorem areParts_any (v : Value) (xs : List Nat) (hn : xs.length ≤ 1099511627776) (w : World) (hr : Rd fV w v xs) :
    Calls Try.prog 69 #[v] w fun e w' => e = .returned (.bool (xs.all partB)) ∧ ∃ n, w.drewN n = w' := by
  have HR := Lib.hid hr
  obtain ⟨A, cap, rfl, hcap, hA⟩ := hr
  clear hA
  have HE := Lib.hid (not_any partB xs)
  go_enter Try.func69, Try.ntmps69
  go_wp2_with (go_at_call 94; go_loud (refine (containsFuncF_any (fun x => !partB x) 99 #[] _ xs hn enter_areParts1 _ (fun x n _ => quietly_same (areParts1_any x _)) HR.out).mono ?_); rintro e w' ⟨rfl, n, rfl⟩)
  go_ret
  exact ⟨ret_bool HE.out, _, rfl⟩
theorem enter_arePositive1 (args : Array Value) (w : World) : (callFunc 101 args).run Try.prog w = .ok (.enter 101 args) w :=
  enter_of Try.func101 (by kernel_rfl) (by kernel_rfl) args w
theorem arePositive_any (v : Value) (xs : List Nat) (hn : xs.length ≤ 1099511627776) (w : World) (hr : Rd fV w v xs) :
    Calls Try.prog 71 #[v] w fun e w' => e = .returned (.bool (xs.all aboveB)) ∧ ∃ n, w.drewN n = w' := by
  have HR := Lib.hid hr
  obtain ⟨A, cap, rfl, hcap, hA⟩ := hr
  clear hA
  have HE := Lib.hid (not_any aboveB xs)
  go_enter Try.func71, Try.ntmps71
  go_wp2_with (go_at_call 94; go_loud (refine (containsFuncF_any (fun x => !aboveB x) 101 #[] _ xs hn enter_arePositive1 _ (fun x n _ => quietly (arePositive1_any x _)) HR.out).mono ?_); rintro e w' ⟨rfl, n, rfl⟩)
  go_ret
  exact ⟨ret_bool HE.out, _, rfl⟩

theorem areShares_any (v : Value) (xs : List Nat) (hn : xs.length ≤ 1099511627776) (w : World) (hr : Rd fV w v xs) :
    Calls Try.prog 57 #[v] w fun e w' => e = .returned (.bool (xs.all partB && decide (1 ≤ xs.length ∧ xs.length ≤ 64))) ∧ ∃ n, w.drewN n = w' := by
  have HR := Lib.hid hr
  obtain ⟨A, cap, rfl, hcap, hA⟩ := hr
  clear hA
  by_cases h1 : 1 ≤ xs.length
  · by_cases h2 : xs.length ≤ 64
    · go_enter Try.func57, Try.ntmps57
      go_wp2_with (go_at_call 69; go_loud (refine (areParts_any _ xs hn _ HR.out).mono ?_); rintro e w' ⟨rfl, n, rfl⟩)
      go_ret
      exact ⟨ret_bool (by first | rfl | (rw [decide_eq_true (show 1 ≤ xs.length ∧ xs.length ≤ 64 by omega)]; simp; done) | (rw [decide_eq_false (show ¬ (1 ≤ xs.length ∧ xs.length ≤ 64) by omega)]; simp; done)), _, rfl⟩
    · go_enter Try.func57, Try.ntmps57
      go_wp2
      go_ret
      exact ⟨ret_bool (by first | rfl | (rw [decide_eq_true (show 1 ≤ xs.length ∧ xs.length ≤ 64 by omega)]; simp; done) | (rw [decide_eq_false (show ¬ (1 ≤ xs.length ∧ xs.length ≤ 64) by omega)]; simp; done)), 0, rfl⟩
  · go_enter Try.func57, Try.ntmps57
    go_wp2
    go_ret
    exact ⟨ret_bool (by first | rfl | (rw [decide_eq_true (show 1 ≤ xs.length ∧ xs.length ≤ 64 by omega)]; simp; done) | (rw [decide_eq_false (show ¬ (1 ≤ xs.length ∧ xs.length ≤ 64) by omega)]; simp; done)), 0, rfl⟩

theorem sum_any (v : Value) (xs : List Nat) (hn : xs.length ≤ 1099511627776) (w : World) (hr : Rd fV w v xs) :
    Calls Try.prog 89 #[v] w fun e w' => ∃ b, e = .returned (fV b) ∧ absF .f32 b = sumF (absL xs) ∧ ∃ n, w.drewN n = w' := by
  obtain ⟨A, cap, rfl, hcap, hA⟩ := hr
  have HA := Lib.hid hA
  clear hA
  go_enter Try.func89, Try.ntmps89
  go_wp2
  go_loopw [3, 8] (fun ss si wr => ∃ k : Nat, k ≤ xs.length ∧ si = .int .i64 k ∧ (∃ b, ss = fV b ∧ Hid (absF .f32 b = sumF (absL (xs.take k)))) ∧ ∃ n, w.drewN n = wr) (fun _ si _ => xs.length - (intOf si).toNat)
  case atStart => exact ⟨0, by omega, rfl, ⟨0, rfl, rfl⟩, 0, rfl⟩
  case round =>
    obtain ⟨k, hk, rfl, ⟨b, rfl, hb⟩, nd, rfl⟩ := hrel
    by_cases hlt : k < xs.length
    · obtain ⟨x, hx⟩ := get_of_lt hlt
      obtain ⟨ad, rfl, hbl, hc⟩ := HA.out k x hx
      have HX := Lib.hid hx
      clear hx
      go_wp2
      go_roundw
      case rel => exact ⟨k + 1, by omega, by go_num, ⟨_, rfl, by unfold Hid; rw [absL_snoc HX.out, sumF_snoc, abs_flR .add rfl, hb.out]⟩, _, rfl⟩
      case measure => simp [intOf]; omega
    · have hke : k = xs.length := by omega
      have HK := Lib.hid hke
      clear hke
      go_wp2
      go_ret
      exact ⟨_, rfl, by rw [hb.out, HK.out, List.take_length], _, rfl⟩
end Go.Proofs.Ytobheippncjjiaa
