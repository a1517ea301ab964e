/-
  The walks of slices.IndexFunc and slices.ContainsFunc at []float32, for whatever function that answers by a predicate and leaves the world alone but for draws.
-/
import Derived.Test.YtimpabceellihaaF32s
import Derived.Test.YtimpabceellihaaIdxP
namespace Go.Proofs.Ytimpabceellihaa
open Go.RowKit

set_option maxHeartbeats 400000 in
theorem idxFuncF_any (p : Nat → Bool) (K : Nat) (cp : Array Value) (v : Value) (xs : List Nat) (hn : xs.length ≤ 1099511627776)
    (hK : ∀ (args : Array Value) (w : World), (callFunc K args).run Try.prog w = .ok (.enter K args) w) (w : World)
    (hC : ∀ (x n : Nat), x ∈ xs → Calls Try.prog K (#[fV x] ++ cp) (w.drewN n) fun e w' => e = .returned (.bool (p x)) ∧ ∃ n, w.drewN n = w') (hr : Rd fV w v xs) :
    Calls Try.prog 68 #[v, .func (.func K) #[] cp] w fun e w' => e = .returned (.int .i64 (idxP p xs)) ∧ ∃ n, w.drewN n = w' := by
  obtain ⟨A, cap, rfl, hcap, hA⟩ := hr
  have HA := Lib.hid hA
  have HC := Lib.hid hC
  clear hA hC
  go_enter Try.func68, Try.ntmps68
  go_wp2
  go_loopw [8] (fun si wr => ∃ k : Nat, k ≤ xs.length ∧ si = .int .i64 k ∧ (∀ y ∈ xs.take k, p y = false) ∧ ∃ n, w.drewN n = wr)
    (fun si _ => xs.length - (intOf si).toNat)
  case atStart => exact ⟨0, by omega, rfl, by simp, 0, rfl⟩
  case round =>
    obtain ⟨k, hk, rfl, hall, n, rfl⟩ := hrel
    have HALL := Lib.hid hall
    clear hall
    by_cases hlt : k < xs.length
    · obtain ⟨x, hx⟩ := get_of_lt hlt
      obtain ⟨ad, rfl, hbl, hc⟩ := HA.out k x hx
      have HX := Lib.hid hx
      have hm : x ∈ xs := List.mem_of_getElem? hx
      clear hx
      go_wp2_with fail
      refine (HC.out x n hm).mono ?_
      rintro e w' ⟨rfl, n', rfl⟩
      cases hp : p x
      · go_wp2
        go_roundw
        case rel =>
          refine ⟨k + 1, by omega, by go_num, fun y hy => ?_, _, rfl⟩
          rw [take_snoc HX.out, List.mem_append] at hy
          rcases hy with hy | hy
          · exact HALL.out y hy
          · simp at hy; subst hy; exact hp
        case measure => simp [intOf]; omega
      · have HP := Lib.hid hp
        clear hp
        go_wp2
        go_ret
        exact ⟨ret_int (idxP_hit HALL.out HX.out HP.out).symm, _, rfl⟩
    · have hke : k = xs.length := by omega
      have HKE := Lib.hid hke
      clear hke
      go_wp2
      go_ret
      refine ⟨ret_int (idxP_none fun y hy => HALL.out y ?_).symm, _, rfl⟩
      rw [HKE.out, List.take_length]
      exact hy

theorem containsFuncF_any (p : Nat → Bool) (K : Nat) (cp : Array Value) (v : Value) (xs : List Nat) (hn : xs.length ≤ 1099511627776)
    (hK : ∀ (args : Array Value) (w : World), (callFunc K args).run Try.prog w = .ok (.enter K args) w) (w : World)
    (hC : ∀ (x n : Nat), x ∈ xs → Calls Try.prog K (#[fV x] ++ cp) (w.drewN n) fun e w' => e = .returned (.bool (p x)) ∧ ∃ n, w.drewN n = w') (hr : Rd fV w v xs) :
    Calls Try.prog 54 #[v, .func (.func K) #[] cp] w fun e w' => e = .returned (.bool (xs.any p)) ∧ ∃ n, w.drewN n = w' := by
  have HC := Lib.hid hC
  have HR := Lib.hid hr
  clear hC hr
  go_enter Try.func54, Try.ntmps54
  go_wp2_with (go_at_call 68; refine (idxFuncF_any p K cp _ xs hn hK _ HC.out HR.out).mono ?_; rintro e w' ⟨rfl, n, rfl⟩)
  go_ret
  exact ⟨ret_bool (idxP_any p xs), _, rfl⟩
end Go.Proofs.Ytimpabceellihaa
