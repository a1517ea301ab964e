/-
  Shares by value: laws.szShare, toShare, eqShare, markShare, heldShare.
-/
import Derived.Test.YtimpabceellihaaBox
import Derived.Test.YtimpabceellihaaF32s
namespace Go.Proofs.Ytimpabceellihaa
open Go.RowKit

/-- A Share as a value. -/
abbrev shV (s0 s1 : Value) : Value := .agg #[s0, s1]

theorem szFloat32S_any (s : Value) (xs : List Nat) (m : Int) (hm0 : 0 ≤ m) (hm : m ≤ 1048576) (w : World) (hr : Rd fV w s xs) (hx : xs.length ≤ 9223372036854775807) : Calls Try.prog 22 #[s, .int .i64 m] w fun e w' => e = .returned (.int .i64 (if m < xs.length then -1 else m - xs.length)) ∧ w = w' := by
  obtain ⟨A, cap, rfl, hcap, hA⟩ := hr
  clear hA
  by_cases h : m < xs.length
  · go_enter Try.func22, Try.ntmps22
    go_wp2
    go_ret
    exact ⟨ret_int (by first | rfl | rw [if_pos h]), rfl⟩
  · go_enter Try.func22, Try.ntmps22
    go_wp2
    go_ret
    exact ⟨ret_int (by first | rfl | rw [if_neg h] | (rw [if_neg (by omega)])), rfl⟩

end Go.Proofs.Ytimpabceellihaa
