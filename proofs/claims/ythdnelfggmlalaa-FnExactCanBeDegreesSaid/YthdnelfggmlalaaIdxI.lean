/-
  The walk of slices.Index at []int64, where the number stands in the list.
-/
import Derived.Test.YthdnelfggmlalaaInts
namespace Go.Proofs.Ythdnelfggmlalaa
open Go.RowKit

theorem indexI_any (v : Value) (xs : List Int) (x : Int) (k0 : Nat) (hn : xs.length ≤ 1000000) (hk0 : xs[k0]? = some x) (hf0 : ∀ j y, j < k0 → xs[j]? = some y → y ≠ x) (w : World) (hr : Rd iV w v xs) :
    Calls Try.prog 59 #[v, .int .i64 x] w fun e w' => e = .returned (.int .i64 (k0 : Nat)) ∧ w = w' := by
  obtain ⟨A, cap, rfl, hcap, hA⟩ := hr
  have HA := Lib.hid hA
  have hl0 := lt_of_get hk0
  have HK0 := Lib.hid hk0
  have HF0 := Lib.hid hf0
  clear hA hk0 hf0
  go_enter Try.func59, Try.ntmps59
  go_wp2
  go_loop [8] (fun si => ∃ k : Nat, si = .int .i64 k ∧ k ≤ k0) (fun si => xs.length + 1 - (intOf si).toNat)
  case atStart => exact ⟨0, rfl, Nat.zero_le _⟩
  case round =>
    obtain ⟨k, rfl, hk⟩ := hrel
    obtain ⟨u, hu⟩ := get_of_lt (xs := xs) (k := k) (by omega)
    obtain ⟨ad, rfl, hbl, hcell⟩ := HA.out k u hu
    have hk1 : (k : Int) < (xs.length : Int) := by omega
    have HU := Lib.hid hu
    clear hu
    by_cases he : u = x
    · have HKE : Hid (k = k0) := by
        unfold Hid
        rcases Nat.lt_or_ge k k0 with h | h
        · exact absurd he (HF0.out k u h HU.out)
        · omega
      subst he
      go_wp2
      go_ret
      exact ⟨ret_int (by rw [HKE.out]), rfl⟩
    · have HKL : k + 1 ≤ k0 := by
        rcases Nat.lt_or_ge k k0 with h | h
        · omega
        · have e : k = k0 := by omega
          subst e
          have := HU.out.symm.trans HK0.out
          cases this
          exact absurd rfl he
      have he' : ¬ x = u := fun h => he h.symm
      clear he
      go_wp2
      go_round
      case rel => exact ⟨k + 1, by go_num, HKL⟩
      case measure => simp [intOf]; omega
end Go.Proofs.Ythdnelfggmlalaa
