/-
  The walks of cmp.Compare at int64 and slices.Compare at []int64.
-/
import Derived.Test.YthdnelfggmlalaaInts
namespace Go.Proofs.Ythdnelfggmlalaa
open Go.RowKit

def cmpI (x y : Int) : Int := if x < y then -1 else if x > y then 1 else 0
theorem isNaNI_any (x : Int) (w : World) : Calls Try.prog 123 #[.int .i64 x] w fun e w' => e = .returned (.bool false) ∧ w = w' := by
  go_enter Try.func123, Try.ntmps123
  go_wp2
  go_ret
  exact ⟨ret_bool rfl, rfl⟩
theorem compareI_any (x y : Int) (w : World) : Calls Try.prog 100 #[.int .i64 x, .int .i64 y] w fun e w' => e = .returned (.int .i64 (cmpI x y)) ∧ w = w' := by
  by_cases h1 : x < y
  · have HQ : Hid (cmpI x y = -1) := if_pos h1
    go_enter Try.func100, Try.ntmps100
    go_wp2_with (go_at_call 123; refine (isNaNI_any _ _).mono ?_; rintro e w' ⟨rfl, rfl⟩)
    go_ret
    exact ⟨ret_int HQ.out.symm, rfl⟩
  · by_cases h2 : y < x
    · have HQ : Hid (cmpI x y = 1) := (if_neg h1).trans (if_pos h2)
      go_enter Try.func100, Try.ntmps100
      go_wp2_with (go_at_call 123; refine (isNaNI_any _ _).mono ?_; rintro e w' ⟨rfl, rfl⟩)
      go_ret
      exact ⟨ret_int HQ.out.symm, rfl⟩
    · have HQ : Hid (cmpI x y = 0) := (if_neg h1).trans (if_neg h2)
      go_enter Try.func100, Try.ntmps100
      go_wp2_with (go_at_call 123; refine (isNaNI_any _ _).mono ?_; rintro e w' ⟨rfl, rfl⟩)
      go_ret
      exact ⟨ret_int HQ.out.symm, rfl⟩

/-- How two lists compare. -/
def cmpL : List Int → List Int → Int
  | [], [] => 0
  | [], _ :: _ => -1
  | _ :: _, [] => 1
  | x :: xs, y :: ys => if cmpI x y = 0 then cmpL xs ys else cmpI x y
theorem cmpL_step {xs ys : List Int} {k : Nat} {x y : Int} (hx : xs[k]? = some x) (hy : ys[k]? = some y) : cmpL (xs.drop k) (ys.drop k) = if cmpI x y = 0 then cmpL (xs.drop (k + 1)) (ys.drop (k + 1)) else cmpI x y := by
  obtain ⟨h1, e1⟩ := List.getElem?_eq_some_iff.1 hx
  obtain ⟨h2, e2⟩ := List.getElem?_eq_some_iff.1 hy
  rw [List.drop_eq_getElem_cons h1, List.drop_eq_getElem_cons h2, e1, e2]
  rfl
theorem cmpL_long {xs ys : List Int} {k : Nat} (hx : k < xs.length) (hy : ys.length ≤ k) : cmpL (xs.drop k) (ys.drop k) = 1 := by
  rw [List.drop_eq_getElem_cons hx, List.drop_of_length_le hy]
  rfl
theorem cmpL_short {xs ys : List Int} {k : Nat} (hx : xs.length ≤ k) (hy : k < ys.length) : cmpL (xs.drop k) (ys.drop k) = -1 := by
  rw [List.drop_eq_getElem_cons hy, List.drop_of_length_le hx]
  rfl
theorem cmpL_end {xs ys : List Int} {k : Nat} (hx : xs.length ≤ k) (hy : ys.length ≤ k) : cmpL (xs.drop k) (ys.drop k) = 0 := by
  rw [List.drop_of_length_le hy, List.drop_of_length_le hx]
  rfl

theorem compareL_any (u v : Value) (xs ys : List Int) (hn : xs.length ≤ 1000000) (_hm : ys.length ≤ 1000000) (w : World) (hr : Rd iV w u xs) (hs : Rd iV w v ys) :
    Calls Try.prog 89 #[u, v] w fun e w' => e = .returned (.int .i64 (cmpL xs ys)) ∧ w = w' := by
  obtain ⟨A, capA, rfl, hcapA, hA⟩ := hr
  obtain ⟨B, capB, rfl, hcapB, hB⟩ := hs
  have HA := Lib.hid hA
  have HB := Lib.hid hB
  obtain ⟨R, hR⟩ : ∃ R, R = cmpL xs ys := ⟨_, rfl⟩
  rw [← hR]
  have HR := Lib.hid hR
  clear hA hB hR
  go_enter Try.func89, Try.ntmps89
  go_wp2
  go_loop [11] (fun si => ∃ k : Nat, k ≤ xs.length ∧ k ≤ ys.length ∧ si = .int .i64 k ∧ Hid (cmpL (xs.drop k) (ys.drop k) = R)) (fun si => xs.length + 1 - (intOf si).toNat)
  case atStart => exact ⟨0, Nat.zero_le _, Nat.zero_le _, rfl, HR.out.symm⟩
  case round =>
    obtain ⟨k, hk1, hk2, rfl, HE⟩ := hrel
    by_cases hlt : k < xs.length
    · obtain ⟨x, hx⟩ := get_of_lt hlt
      obtain ⟨ad, rfl, hbl, hcell⟩ := HA.out k x hx
      have HX := Lib.hid hx
      clear hx
      by_cases hly : k < ys.length
      · obtain ⟨y, hy⟩ := get_of_lt hly
        obtain ⟨bd, rfl, hbl2, hcell2⟩ := HB.out k y hy
        have HY := Lib.hid hy
        clear hy
        obtain ⟨q, hq⟩ : ∃ q, q = cmpI x y := ⟨_, rfl⟩
        have HC := compareI_any x y w
        rw [← hq] at HC
        have HC' := Lib.hid HC
        have HQ := Lib.hid hq
        clear HC hq
        by_cases h0 : q = 0
        · have HE2 : Hid (cmpL (xs.drop (k + 1)) (ys.drop (k + 1)) = R) := by
            have := HE.out
            rw [cmpL_step HX.out HY.out, ← HQ.out, if_pos h0] at this
            exact this
          subst h0
          go_wp2_with (go_at_call 100; refine HC'.out.mono ?_; rintro e w' ⟨rfl, rfl⟩)
          go_round
          case rel => exact ⟨k + 1, by omega, by omega, by go_num, HE2⟩
          case measure => simp [intOf]; omega
        · have HE2 : Hid (q = R) := by
            have := HE.out
            rw [cmpL_step HX.out HY.out, ← HQ.out, if_neg h0] at this
            exact this
          go_wp2_with (go_at_call 100; refine HC'.out.mono ?_; rintro e w' ⟨rfl, rfl⟩)
          go_ret
          exact ⟨ret_int HE2.out, rfl⟩
      · have HE2 : Hid (1 = R) := (cmpL_long hlt (by omega)).symm.trans HE.out
        go_wp2
        go_ret
        exact ⟨ret_int HE2.out, rfl⟩
    · by_cases hly : xs.length < ys.length
      · have HE2 : Hid (-1 = R) := (cmpL_short (k := k) (by omega) (by omega)).symm.trans HE.out
        go_wp2
        go_ret
        exact ⟨ret_int HE2.out, rfl⟩
      · have HE2 : Hid (0 = R) := (cmpL_end (k := k) (by omega) (by omega)).symm.trans HE.out
        go_wp2
        go_ret
        exact ⟨ret_int HE2.out, rfl⟩
end Go.Proofs.Ythdnelfggmlalaa
