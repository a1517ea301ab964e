/-
  The walks of slices.IndexFunc and slices.ContainsFunc at []int64, for whatever function that answers by a predicate and leaves the world alone but for draws.
-/
import Derived.Test.YtmhmekfbnaafmaaInts
namespace Go.Proofs.Ytmhmekfbnaafmaa
open Go.RowKit

/-- The index of the first element that a predicate holds of, or -1. -/
def idxP {α : Type} (p : α → Bool) (xs : List α) : Int := match xs.findIdx? p with | some i => i | none => -1
theorem idxP_hit {α : Type} {p : α → Bool} {xs : List α} {k : Nat} {x : α} (h : ∀ y ∈ xs.take k, p y = false) (hx : xs[k]? = some x) (hp : p x = true) : idxP p xs = k := by
  have hk := lt_of_get hx
  have : xs.findIdx? p = some k := by
    rw [List.findIdx?_eq_some_iff_getElem]
    refine ⟨hk, ?_, fun j hj => ?_⟩
    · have : xs[k] = x := by rw [List.getElem?_eq_getElem hk] at hx; exact Option.some.inj hx
      rw [this]; exact hp
    · have := h xs[j] (by rw [List.mem_take_iff_getElem]; exact ⟨j, by omega, rfl⟩)
      rw [this]; simp
  unfold idxP
  rw [this]
theorem idxP_none {α : Type} {p : α → Bool} {xs : List α} (h : ∀ y ∈ xs, p y = false) : idxP p xs = -1 := by
  have : xs.findIdx? p = none := by rw [List.findIdx?_eq_none_iff]; exact h
  unfold idxP
  rw [this]
theorem idxP_any {α : Type} (p : α → Bool) (xs : List α) : decide (0 ≤ idxP p xs) = xs.any p := by
  unfold idxP
  cases h : xs.findIdx? p with
  | none =>
    rw [List.findIdx?_eq_none_iff] at h
    have : xs.any p = false := List.any_eq_false.2 (fun x hx => by rw [h x hx]; simp)
    rw [this]; simp
  | some i =>
    rw [List.findIdx?_eq_some_iff_getElem] at h
    obtain ⟨hi, hp, _⟩ := h
    have : xs.any p = true := List.any_eq_true.2 ⟨_, List.getElem_mem hi, hp⟩
    rw [this]; simp

theorem quietly {P : Program} {f : FuncId} {args : Array Value} {w : World} {n : Nat} {v : Value}
    (h : Calls P f args (w.drewN n) fun e w' => e = .returned v ∧ ∃ m, (w.drewN n).drewN m = w') : Calls P f args (w.drewN n) fun e w' => e = .returned v ∧ ∃ m, w.drewN m = w' :=
  h.mono fun _ w' ⟨he, m, hm⟩ => ⟨he, n + m, by rw [← hm, World.drewN_drewN]⟩
theorem quiet_mine {P : Program} {f : FuncId} {args : Array Value} {w : World} {n : Nat} {v : Value}
    (h : Calls P f args (w.drewN n) fun e w' => e = .returned v ∧ w.drewN n = w') : Calls P f args (w.drewN n) fun e w'' => e = .returned v ∧ ∃ m, w'' = w.drewN m :=
  h.mono fun _ _ ⟨he, hm⟩ => ⟨he, n, hm.symm⟩
theorem quiet_mine_add {P : Program} {f : FuncId} {args : Array Value} {w : World} {a n : Nat} {v : Value}
    (h : Calls P f args (w.drewN (a + n)) fun e w' => e = .returned v ∧ w.drewN (a + n) = w') : Calls P f args (w.drewN (a + n)) fun e w'' => e = .returned v ∧ ∃ m, w'' = w.drewN (a + m) :=
  h.mono fun _ _ ⟨he, hm⟩ => ⟨he, n, hm.symm⟩
theorem quietly_same {P : Program} {f : FuncId} {args : Array Value} {w : World} {n : Nat} {v : Value}
    (h : Calls P f args (w.drewN n) fun e w' => e = .returned v ∧ w.drewN n = w') : Calls P f args (w.drewN n) fun e w' => e = .returned v ∧ ∃ m, w.drewN m = w' :=
  h.mono fun _ _ ⟨he, hm⟩ => ⟨he, n, hm⟩
set_option maxHeartbeats 400000 in
theorem idxFunc_any (p : Int → Bool) (K : Nat) (cp : Array Value) (v : Value) (xs : List Int) (hn : xs.length ≤ 1099511627776)
    (hK : ∀ (args : Array Value) (w : World), (callFunc K args).run Try.prog w = .ok (.enter K args) w) (w : World)
    (hC : ∀ (x : Int) (n : Nat), x ∈ xs → Calls Try.prog K (#[iV x] ++ cp) (w.drewN n) fun e w' => e = .returned (.bool (p x)) ∧ ∃ n, w.drewN n = w') (hr : Rd iV w v xs) :
    Calls Try.prog 65 #[v, .func (.func K) #[] cp] w fun e w' => e = .returned (.int .i64 (idxP p xs)) ∧ ∃ n, w.drewN n = w' := by
  obtain ⟨A, cap, rfl, hcap, hA⟩ := hr
  have HA := Lib.hid hA
  have HC := Lib.hid hC
  clear hA hC
  go_enter Try.func65, Try.ntmps65
  go_wp2
  go_loopw [8] (fun si wr => ∃ k : Nat, k ≤ xs.length ∧ si = .int .i64 k ∧ (∀ y ∈ xs.take k, p y = false) ∧ ∃ n, w.drewN n = wr)
    (fun si _ => xs.length - (intOf si).toNat)
  case atStart => exact ⟨0, by omega, rfl, by simp, 0, rfl⟩
  case round =>
    obtain ⟨k, hk, rfl, hall, n, rfl⟩ := hrel
    have HALL := Lib.hid hall
    clear hall
    by_cases hlt : k < xs.length
    · obtain ⟨x, hx⟩ := get_of_lt hlt
      obtain ⟨ad, rfl, hbl, hc⟩ := HA.out k x hx
      have HX := Lib.hid hx
      have hm : x ∈ xs := List.mem_of_getElem? hx
      clear hx
      go_wp2_with fail
      refine (HC.out x n hm).mono ?_
      rintro e w' ⟨rfl, n', rfl⟩
      cases hp : p x
      · go_wp2
        go_roundw
        case rel =>
          refine ⟨k + 1, by omega, by go_num, fun y hy => ?_, _, rfl⟩
          rw [take_snoc HX.out, List.mem_append] at hy
          rcases hy with hy | hy
          · exact HALL.out y hy
          · simp at hy; subst hy; exact hp
        case measure => simp [intOf]; omega
      · have HP := Lib.hid hp
        clear hp
        go_wp2
        go_ret
        exact ⟨ret_int (idxP_hit HALL.out HX.out HP.out).symm, _, rfl⟩
    · have hke : k = xs.length := by omega
      have HKE := Lib.hid hke
      clear hke
      go_wp2
      go_ret
      refine ⟨ret_int (idxP_none fun y hy => HALL.out y ?_).symm, _, rfl⟩
      rw [HKE.out, List.take_length]
      exact hy

theorem containsFunc_any (p : Int → Bool) (K : Nat) (cp : Array Value) (v : Value) (xs : List Int) (hn : xs.length ≤ 1099511627776)
    (hK : ∀ (args : Array Value) (w : World), (callFunc K args).run Try.prog w = .ok (.enter K args) w) (w : World)
    (hC : ∀ (x : Int) (n : Nat), x ∈ xs → Calls Try.prog K (#[iV x] ++ cp) (w.drewN n) fun e w' => e = .returned (.bool (p x)) ∧ ∃ n, w.drewN n = w') (hr : Rd iV w v xs) :
    Calls Try.prog 60 #[v, .func (.func K) #[] cp] w fun e w' => e = .returned (.bool (xs.any p)) ∧ ∃ n, w.drewN n = w' := by
  have HC := Lib.hid hC
  have HR := Lib.hid hr
  clear hC hr
  go_enter Try.func60, Try.ntmps60
  go_wp2_with (go_at_call 65; refine (idxFunc_any p K cp _ xs hn hK _ HC.out HR.out).mono ?_; rintro e w' ⟨rfl, n, rfl⟩)
  go_ret
  exact ⟨ret_bool (idxP_any p xs), _, rfl⟩
end Go.Proofs.Ytmhmekfbnaafmaa
