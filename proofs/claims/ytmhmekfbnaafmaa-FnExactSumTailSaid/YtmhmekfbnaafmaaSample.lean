/-
  The walks of spec.l06Sample and impl.isSample.
-/
import Derived.Test.YtmhmekfbnaafmaaIdxFunc
import Derived.Test.YtmhmekfbnaafmaaChoose
namespace Go.Proofs.Ytmhmekfbnaafmaa
open Go.RowKit

/-- A list is a sample. -/
def smpB (xs : List Int) : Bool := decide (1 ≤ xs.length) && decide (xs.length ≤ 40) && xs.all fun x => inB x (-1000) 1000

theorem dec_and (a b : Prop) [Decidable a] [Decidable b] : (decide a && decide b && true) = decide (a ∧ b) := by
  by_cases ha : a <;> by_cases hb : b <;> simp [ha, hb]
theorem all_false_of {α : Type} {p : α → Bool} {xs : List α} {k : Nat} {x : α} (hx : xs[k]? = some x) (hp : p x = false) : xs.all p = false := by
  rw [List.all_eq_false]
  exact ⟨x, List.mem_of_getElem? hx, by simp [hp]⟩

set_option maxHeartbeats 400000 in
theorem l06Sample_any (v : Value) (xs : List Int) (hn : xs.length ≤ 1099511627776) (w : World) (hr : Rd iV w v xs) :
    Calls Try.prog 42 #[v] w fun e w' => e = .returned (.bool (smpB xs)) ∧ w = w' := by
  obtain ⟨A, cap, rfl, hcap, hA⟩ := hr
  have HA := Lib.hid hA
  clear hA
  go_enter Try.func42, Try.ntmps42
  go_wp2
  go_loop [3] (fun si => ∃ k : Nat, k ≤ xs.length ∧ si = .int .i64 k ∧ Hid ((xs.take k).all (fun x => inB x (-1000) 1000) = true)) (fun si => xs.length - (intOf si).toNat)
  case atStart => exact ⟨0, by omega, rfl, by simp [Hid]⟩
  case round =>
    obtain ⟨k, hk, rfl, hall⟩ := hrel
    by_cases hlt : k < xs.length
    · obtain ⟨x, hx⟩ := get_of_lt hlt
      obtain ⟨ad, rfl, hbl, hc⟩ := HA.out k x hx
      have HX := Lib.hid hx
      clear hx
      cases hp : inB x (-1000) 1000
      · have HP := Lib.hid hp
        go_wp2_with (go_at_call 57; refine (l00In_any _ _ _ _).mono ?_; rintro e w' ⟨rfl, rfl⟩; rw [hp])
        go_ret
        exact ⟨ret_bool (by unfold smpB; rw [all_false_of HX.out HP.out]; simp), rfl⟩
      · have HP := Lib.hid hp
        go_wp2_with (go_at_call 57; refine (l00In_any _ _ _ _).mono ?_; rintro e w' ⟨rfl, rfl⟩; rw [hp])
        go_round
        case rel => exact ⟨k + 1, by omega, by go_num, by unfold Hid; rw [take_snoc HX.out, List.all_append, hall.out]; simp [HP.out]⟩
        case measure => simp [intOf]; omega
    · have hke : k = xs.length := by omega
      have HK := Lib.hid hke
      clear hke
      have ha : Hid (xs.all (fun x => inB x (-1000) 1000) = true) := by
        have := hall.out
        rw [HK.out, List.take_length] at this
        exact this
      by_cases h1 : 1 ≤ xs.length
      · by_cases h2 : xs.length ≤ 40
        · go_wp2
          go_ret
          exact ⟨ret_bool (by unfold smpB; rw [ha.out, dec_and, Bool.eq_iff_iff]; simp only [decide_eq_true_eq]; omega), rfl⟩
        · go_wp2
          go_ret
          exact ⟨ret_bool (by unfold smpB; rw [ha.out, dec_and, Bool.eq_iff_iff]; simp only [decide_eq_true_eq]; omega), rfl⟩
      · go_wp2
        go_ret
        exact ⟨ret_bool (by unfold smpB; rw [ha.out, dec_and, Bool.eq_iff_iff]; simp only [decide_eq_true_eq, false_iff, Bool.false_eq_true]; omega), rfl⟩

theorem isSample1_any (x : Int) (w : World) :
    Calls Try.prog 64 #[iV x] w fun e w' => e = .returned (.bool (!inB x (-1000) 1000)) ∧ w = w' := by
  go_enter Try.func64, Try.ntmps64
  go_wp2_with (go_at_call 59; refine (within_any _ _ _ _).mono ?_; rintro e w' ⟨rfl, rfl⟩)
  go_ret
  exact ⟨rfl, rfl⟩
theorem enter_isSample1 (args : Array Value) (w : World) : (callFunc 64 args).run Try.prog w = .ok (.enter 64 args) w :=
  enter_of Try.func64 (by kernel_rfl) (by kernel_rfl) args w

theorem isSample_any (v : Value) (xs : List Int) (hn : xs.length ≤ 1099511627776) (w : World) (hr : Rd iV w v xs) :
    Calls Try.prog 44 #[v] w fun e w' => e = .returned (.bool (smpB xs)) ∧ ∃ n, w.drewN n = w' := by
  have HR := Lib.hid hr
  obtain ⟨A, cap, rfl, hcap, hA⟩ := hr
  clear hA
  have he : (!(xs.any fun x => !inB x (-1000) 1000)) = xs.all fun x => inB x (-1000) 1000 := by simp [List.all_eq_not_any_not]
  have HE := Lib.hid he
  clear he
  by_cases h1 : 1 ≤ xs.length
  · by_cases h2 : xs.length ≤ 40
    · go_enter Try.func44, Try.ntmps44
      go_wp2_with (go_at_call 60; go_loud (refine (containsFunc_any (fun x => !inB x (-1000) 1000) 64 #[] _ xs hn enter_isSample1 _ (fun x n _ => quietly_same (isSample1_any x _)) HR.out).mono ?_); rintro e w' ⟨rfl, n, rfl⟩)
      go_ret
      exact ⟨ret_bool (by unfold smpB; rw [HE.out, decide_eq_true h1, decide_eq_true h2]; simp), _, rfl⟩
    · go_enter Try.func44, Try.ntmps44
      go_wp2
      go_ret
      exact ⟨ret_bool (by unfold smpB; first | (rw [decide_eq_false h1]; rfl) | (rw [decide_eq_false h2]; simp)), 0, rfl⟩
  · go_enter Try.func44, Try.ntmps44
    go_wp2
    go_ret
    exact ⟨ret_bool (by unfold smpB; first | (rw [decide_eq_false h1]; rfl) | (rw [decide_eq_false h2]; simp)), 0, rfl⟩
end Go.Proofs.Ytmhmekfbnaafmaa
