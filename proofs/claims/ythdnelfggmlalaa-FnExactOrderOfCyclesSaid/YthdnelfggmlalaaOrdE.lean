/-
  slices.Equal at []int64; slices.ContainsFunc at [][]int64.
-/
import Derived.Test.YthdnelfggmlalaaOrdP
namespace Go.Proofs.Ythdnelfggmlalaa
open Go.RowKit

theorem eq_of_takes {xs ys : List Int} {n : Nat} (h1 : n = xs.length) (h2 : n = ys.length) (h : xs.take n = ys.take n) : xs = ys := by
  rw [List.take_of_length_le (by omega), List.take_of_length_le (by omega)] at h
  exact h
theorem ne_of_get {xs ys : List Int} {k : Nat} {x y : Int} (hx : xs[k]? = some x) (hy : ys[k]? = some y) (hne : x ≠ y) : xs ≠ ys := by
  rintro rfl
  rw [hx] at hy
  exact hne (Option.some.inj hy)

set_option maxHeartbeats 800000 in
theorem slicesEqual_any (v u : Value) (xs ys : List Int) (h1 : xs.length ≤ 1099511627776) (h2 : ys.length ≤ 1099511627776) (w : World) (hr : Rd iV w v xs) (hs : Rd iV w u ys) :
    Calls Try.prog 83 #[v, u] w fun e w' => e = .returned (.bool (decide (xs = ys))) ∧ ∃ n, w.drewN n = w' := by
  obtain ⟨A, cap, rfl, hcap, hA⟩ := hr
  obtain ⟨A2, cap2, rfl, hcap2, hA2⟩ := hs
  have HA := Lib.hid hA
  have HA2 := Lib.hid hA2
  clear hA hA2
  by_cases hl : xs.length = ys.length
  · have HL := Lib.hid hl
    have h2' := h2
    rw [← hl] at h2'
    rw [← hl]
    clear hl
    go_enter Try.func83, Try.ntmps83
    go_wp2
    go_loopw [13] (fun si wr => ∃ k : Nat, k ≤ xs.length ∧ si = .int .i64 k ∧ xs.take k = ys.take k ∧ ∃ n, w.drewN n = wr)
      (fun si _ => xs.length - (intOf si).toNat)
    case atStart => exact ⟨0, by omega, rfl, rfl, 0, rfl⟩
    case round =>
      obtain ⟨k, hk, rfl, ht, n, rfl⟩ := hrel
      have HT := Lib.hid ht
      clear ht
      by_cases hlt : k < xs.length
      · obtain ⟨x, hx⟩ := get_of_lt hlt
        obtain ⟨y, hy⟩ := get_of_lt (xs := ys) (k := k) (by rw [← HL.out]; exact hlt)
        obtain ⟨ad, rfl, hbl, hc⟩ := HA.out k x hx
        obtain ⟨ad2, rfl, hbl2, hc2⟩ := HA2.out k y hy
        have HX := Lib.hid hx
        have HY := Lib.hid hy
        clear hx hy
        have hk0 : (0 : Int) ≤ (k : Int) := by omega
        have hk1 : (k : Int) < (xs.length : Int) := by omega
        by_cases hxy : x = y
        · subst hxy
          go_wp2
          go_quiet (fail)
          go_wp2
          go_roundw
          case rel => exact ⟨k + 1, by omega, by go_num, by rw [take_snoc HX.out, take_snoc HY.out, HT.out], _, rfl⟩
          case measure => simp [intOf]; omega
        · go_wp2
          go_quiet (fail)
          go_wp2
          go_ret
          exact ⟨ret_bool (by rw [decide_eq_false (ne_of_get HX.out HY.out hxy)]), _, by rw [World.drewN_drewN]⟩
      · go_wp2
        go_ret
        exact ⟨ret_bool (by rw [decide_eq_true (eq_of_takes (n := k) (by omega) (by have := HL.out; omega) HT.out)]), _, rfl⟩
  · have hne : xs ≠ ys := fun e => hl (by rw [e])
    go_enter Try.func83, Try.ntmps83
    go_wp2
    go_ret
    exact ⟨ret_bool (by rw [decide_eq_false hne]), 0, rfl⟩

set_option maxHeartbeats 1600000 in
set_option maxHeartbeats 400000 in
theorem idxFuncV_any (p : Value → Bool) (K : Nat) (cp : Array Value) (v : Value) (xs : List Value) (hn : xs.length ≤ 1099511627776)
    (hK : ∀ (args : Array Value) (w : World), (callFunc K args).run Try.prog w = .ok (.enter K args) w) (w : World)
    (hC : ∀ (x : Value) (n : Nat), x ∈ xs → Calls Try.prog K (#[x] ++ cp) (w.drewN n) fun e w' => e = .returned (.bool (p x)) ∧ ∃ n, w.drewN n = w') (hr : Rd (fun u => u) w v xs) :
    Calls Try.prog 85 #[v, .func (.func K) #[] cp] w fun e w' => e = .returned (.int .i64 (idxP p xs)) ∧ ∃ n, w.drewN n = w' := by
  obtain ⟨A, cap, rfl, hcap, hA⟩ := hr
  have HA := Lib.hid hA
  have HC := Lib.hid hC
  clear hA hC
  go_enter Try.func85, Try.ntmps85
  go_wp2
  go_loopw [8] (fun si wr => ∃ k : Nat, k ≤ xs.length ∧ si = .int .i64 k ∧ (∀ y ∈ xs.take k, p y = false) ∧ ∃ n, w.drewN n = wr)
    (fun si _ => xs.length - (intOf si).toNat)
  case atStart => exact ⟨0, by omega, rfl, by simp, 0, rfl⟩
  case round =>
    obtain ⟨k, hk, rfl, hall, n, rfl⟩ := hrel
    have HALL := Lib.hid hall
    clear hall
    by_cases hlt : k < xs.length
    · obtain ⟨x, hx⟩ := get_of_lt hlt
      obtain ⟨ad, rfl, hbl, hc⟩ := HA.out k x hx
      have HX := Lib.hid hx
      have hm : x ∈ xs := List.mem_of_getElem? hx
      clear hx
      go_wp2_with fail
      refine (HC.out x n hm).mono ?_
      rintro e w' ⟨rfl, n', rfl⟩
      cases hp : p x
      · go_wp2
        go_roundw
        case rel =>
          refine ⟨k + 1, by omega, by go_num, fun y hy => ?_, _, rfl⟩
          rw [take_snoc HX.out, List.mem_append] at hy
          rcases hy with hy | hy
          · exact HALL.out y hy
          · simp at hy; subst hy; exact hp
        case measure => simp [intOf]; omega
      · have HP := Lib.hid hp
        clear hp
        go_wp2
        go_ret
        exact ⟨ret_int (idxP_hit HALL.out HX.out HP.out).symm, _, rfl⟩
    · have hke : k = xs.length := by omega
      have HKE := Lib.hid hke
      clear hke
      go_wp2
      go_ret
      refine ⟨ret_int (idxP_none fun y hy => HALL.out y ?_).symm, _, rfl⟩
      rw [HKE.out, List.take_length]
      exact hy

theorem containsFuncV_any (p : Value → Bool) (K : Nat) (cp : Array Value) (v : Value) (xs : List Value) (hn : xs.length ≤ 1099511627776)
    (hK : ∀ (args : Array Value) (w : World), (callFunc K args).run Try.prog w = .ok (.enter K args) w) (w : World)
    (hC : ∀ (x : Value) (n : Nat), x ∈ xs → Calls Try.prog K (#[x] ++ cp) (w.drewN n) fun e w' => e = .returned (.bool (p x)) ∧ ∃ n, w.drewN n = w') (hr : Rd (fun u => u) w v xs) :
    Calls Try.prog 53 #[v, .func (.func K) #[] cp] w fun e w' => e = .returned (.bool (xs.any p)) ∧ ∃ n, w.drewN n = w' := by
  have HC := Lib.hid hC
  have HR := Lib.hid hr
  clear hC hr
  go_enter Try.func53, Try.ntmps53
  go_wp2_with (go_at_call 85; refine (idxFuncV_any p K cp _ xs hn hK _ HC.out HR.out).mono ?_; rintro e w' ⟨rfl, n, rfl⟩)
  go_ret
  exact ⟨ret_bool (idxP_any p xs), _, rfl⟩
end Go.Proofs.Ythdnelfggmlalaa
