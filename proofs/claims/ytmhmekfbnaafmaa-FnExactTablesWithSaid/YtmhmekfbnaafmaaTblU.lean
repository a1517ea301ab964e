/-
  Tables with sums told: the walk of spec.l06Small.
-/
import Derived.Test.YtmhmekfbnaafmaaTblT
namespace Go.Proofs.Ytmhmekfbnaafmaa
open Go.RowKit

def sml (xs : List Int) : Bool := xs.all fun n => inB n 0 24
/-- Whether these are sums of tables that can be counted. -/
def smallB (xs ys : List Int) : Bool := decide ((1 ≤ xs.length ∧ xs.length ≤ 4) ∧ (1 ≤ ys.length ∧ ys.length ≤ 4) ∧ xs.length * ys.length ≤ 12) && (sml xs && sml ys)
def nats (xs : List Int) : List Nat := xs.map Int.toNat
theorem nats_len (xs : List Int) : (nats xs).length = xs.length := by simp [nats]
theorem sml_iff {xs : List Int} : sml xs = true ↔ ∀ x ∈ xs, 0 ≤ x ∧ x ≤ 24 := by
  unfold sml
  rw [List.all_eq_true]
  exact ⟨fun h x hx => inB_true (h x hx), fun h x hx => decide_eq_true (h x hx)⟩
theorem nats_lt {xs : List Int} (h : sml xs = true) : ∀ x ∈ nats xs, x < 25 := fun x hx => by
  obtain ⟨y, hy, rfl⟩ := List.mem_map.1 hx
  have := sml_iff.1 h y hy
  omega
theorem iL_nats {xs : List Int} (h : sml xs = true) : iL (nats xs) = xs := by
  unfold iL nats
  rw [List.map_map]
  refine (List.map_congr_left (fun x hx => ?_)).trans (List.map_id xs)
  have := sml_iff.1 h x hx
  show ((x.toNat : Nat) : Int) = x
  omega
theorem sml_bad {xs : List Int} {k : Nat} {x : Int} (hx : xs[k]? = some x) (h : inB x 0 24 = false) : sml xs = false := by
  cases hs : sml xs with
  | false => rfl
  | true => have := List.all_eq_true.1 hs x (List.mem_of_getElem? hx); rw [h] at this; cases this
theorem sml_good {xs : List Int} (h : ∀ x ∈ xs.take xs.length, inB x 0 24 = true) : sml xs = true := by
  rw [List.take_length] at h
  exact List.all_eq_true.2 h
/-- How many tables there are. -/
def tabP (xs ys : List Int) : Int := if smallB xs ys then wrap64 ((wT (nats xs) (nats ys) : Nat) : Int) else 0
def RetTab (xs ys : List Int) (w : World) (e : Ending) (w' : World) : Prop := e = .returned (.tuple #[.int .i64 (tabP xs ys), .bool (smallB xs ys)]) ∧ Below w.heap.size w w'

set_option maxRecDepth 100000 in
set_option maxHeartbeats 1600000 in
theorem l06Small_any (u v : Value) (xs ys : List Int) (hx : xs.length ≤ 1099511627776) (hy : ys.length ≤ 1099511627776) (w : World) (hr : Rd iV w u xs) (hs : Rd iV w v ys) :
    Calls Try.prog 50 #[u, v] w fun e w' => e = .returned (.bool (smallB xs ys)) ∧ w = w' := by
  obtain ⟨A1, c1, rfl, hc1, hA1⟩ := hr
  obtain ⟨A2, c2, rfl, hc2, hA2⟩ := hs
  have HA1 := Lib.hid hA1
  have HA2 := Lib.hid hA2
  clear hA1 hA2
  by_cases h1 : 1 ≤ xs.length ∧ xs.length ≤ 4
  case neg =>
    have hf : Hid (smallB xs ys = false) := by unfold smallB; rw [decide_eq_false (fun h => h1 h.1)]; exact Lib.hid rfl
    by_cases h2 : xs.length < 1
    · go_enter Try.func50, Try.ntmps50
      go_wp2
      go_ret
      exact ⟨ret_bool hf.out.symm, rfl⟩
    · go_enter Try.func50, Try.ntmps50
      go_wp2
      go_ret
      exact ⟨ret_bool hf.out.symm, rfl⟩
  by_cases h2 : 1 ≤ ys.length ∧ ys.length ≤ 4
  case neg =>
    have hf : Hid (smallB xs ys = false) := by unfold smallB; rw [decide_eq_false (fun h => h2 h.2.1)]; exact Lib.hid rfl
    by_cases h3 : ys.length < 1
    · go_enter Try.func50, Try.ntmps50
      go_wp2
      go_ret
      exact ⟨ret_bool hf.out.symm, rfl⟩
    · go_enter Try.func50, Try.ntmps50
      go_wp2
      go_ret
      exact ⟨ret_bool hf.out.symm, rfl⟩
  obtain ⟨P, hP⟩ : ∃ P, P = xs.length * ys.length := ⟨_, rfl⟩
  have hP16 : P ≤ 16 := by rw [hP]; exact Nat.mul_le_mul h1.2 h2.2
  have hw : IntKind.i64.wrap ((xs.length : Int) * (ys.length : Int)) = (P : Int) := by rw [← Int.natCast_mul, ← hP]; exact IntWalk.i64_in _ (by omega)
  have HP := Lib.hid hP
  clear hP
  by_cases h3 : P ≤ 12
  case neg =>
    have hf : Hid (smallB xs ys = false) := by unfold smallB; rw [decide_eq_false (fun h => h3 (by rw [HP.out]; exact h.2.2))]; exact Lib.hid rfl
    go_enter Try.func50, Try.ntmps50
    go_wp2
    go_ret
    exact ⟨ret_bool hf.out.symm, rfl⟩
  have hS : Hid (smallB xs ys = (sml xs && sml ys)) := by unfold smallB; rw [decide_eq_true ⟨h1, h2, by rw [← HP.out]; exact h3⟩]; exact Lib.hid (Bool.true_and _)
  go_enter Try.func50, Try.ntmps50
  go_wp2
  go_loop [5] (fun si => ∃ k : Nat, k ≤ xs.length ∧ si = .int .i64 k ∧ Hid (∀ x ∈ xs.take k, inB x 0 24 = true)) (fun si => xs.length - (intOf si).toNat)
  case atStart => exact ⟨0, Nat.zero_le _, rfl, Lib.hid (fun x h => by simp at h)⟩
  case round =>
    obtain ⟨k, hk, rfl, HALL⟩ := hrel
    by_cases hlt : k < xs.length
    · obtain ⟨x, hx⟩ := get_of_lt hlt
      obtain ⟨ad, rfl, hbl, hc⟩ := HA1.out k x hx
      have HX := Lib.hid hx
      clear hx
      cases hb : inB x 0 24
      · have HO : Hid (smallB xs ys = false) := by rw [hS.out, sml_bad HX.out hb]; exact Lib.hid rfl
        go_wp2_with (go_at_call 57; refine (l00In_any _ _ _ _).mono ?_; rintro e w' ⟨rfl, rfl⟩; rw [hb])
        go_ret
        exact ⟨ret_bool HO.out.symm, rfl⟩
      · have HB := Lib.hid hb
        go_wp2_with (go_at_call 57; refine (l00In_any _ _ _ _).mono ?_; rintro e w' ⟨rfl, rfl⟩; rw [hb])
        go_round
        case rel =>
          refine ⟨k + 1, by omega, by go_num, fun y hy => ?_⟩
          rw [take_snoc HX.out, List.mem_append] at hy
          rcases hy with hy | hy
          · exact HALL.out y hy
          · simp at hy; subst hy; exact HB.out
        case measure => simp [intOf]; omega
    · have hke : k = xs.length := by omega
      have HX : Hid (sml xs = true) := sml_good (by have := HALL.out; rw [hke] at this; exact this)
      clear hke HALL
      go_wp2
      go_loop [6] (fun si => ∃ k : Nat, k ≤ ys.length ∧ si = .int .i64 k ∧ Hid (∀ x ∈ ys.take k, inB x 0 24 = true)) (fun si => ys.length - (intOf si).toNat)
      case atStart => exact ⟨0, Nat.zero_le _, rfl, Lib.hid (fun x h => by simp at h)⟩
      case round =>
        obtain ⟨k, hk, rfl, HALL⟩ := hrel
        by_cases hlt : k < ys.length
        · obtain ⟨x, hx⟩ := get_of_lt hlt
          obtain ⟨ad, rfl, hbl, hc⟩ := HA2.out k x hx
          have HY := Lib.hid hx
          clear hx
          cases hb : inB x 0 24
          · have HO : Hid (smallB xs ys = false) := by rw [hS.out, sml_bad HY.out hb, Bool.and_false]; exact Lib.hid rfl
            go_wp2_with (go_at_call 57; refine (l00In_any _ _ _ _).mono ?_; rintro e w' ⟨rfl, rfl⟩; rw [hb])
            go_ret
            exact ⟨ret_bool HO.out.symm, rfl⟩
          · have HB := Lib.hid hb
            go_wp2_with (go_at_call 57; refine (l00In_any _ _ _ _).mono ?_; rintro e w' ⟨rfl, rfl⟩; rw [hb])
            go_round
            case rel =>
              refine ⟨k + 1, by omega, by go_num, fun y hy => ?_⟩
              rw [take_snoc HY.out, List.mem_append] at hy
              rcases hy with hy | hy
              · exact HALL.out y hy
              · simp at hy; subst hy; exact HB.out
            case measure => simp [intOf]; omega
        · have hke : k = ys.length := by omega
          have HO : Hid (smallB xs ys = true) := by
            rw [hS.out, HX.out, sml_good (by have := HALL.out; rw [hke] at this; exact this)]; exact Lib.hid rfl
          clear hke HALL
          go_wp2
          go_ret
          exact ⟨ret_bool HO.out.symm, rfl⟩

end Go.Proofs.Ytmhmekfbnaafmaa
