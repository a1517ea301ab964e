/-
  Seeds: valid ones, the next word, the next share.
-/
import Derived.Test.YthdnelfggmlalaaBox
import Derived.Test.YthdnelfggmlalaaSameFloat
import Derived.Test.YthdnelfggmlalaaF32s
namespace Go.Proofs.Ythdnelfggmlalaa
open Go.RowKit

abbrev u64V (a : Int) : Value := .int .u64 a
abbrev sdV (k a b : Int) : Value := .agg #[.int .i64 k, u64V a, u64V b]
def turnZ (x : Int) (k : Nat) : Int := bits .or .u64 (IntKind.u64.wrap (x * ((2 ^ k : Nat) : Int))) (x / ((2 ^ (64 - k) : Nat) : Int))
def mixU (x : Int) : Int := IntKind.u64.wrap (bits .xor .u64 x (x / 1073741824) * 13787848793156543929)
def mixV (x : Int) : Int := IntKind.u64.wrap (bits .xor .u64 (mixU x) (mixU x / 134217728) * 10723151780598845931)
def mixZ (x : Int) : Int := bits .xor .u64 (mixV x) (mixV x / 2147483648)
theorem l02Turn24 (x : Int) (w : World) : Calls Try.prog 102 #[u64V x, u64V 24] w fun e w' => e = .returned (u64V (turnZ x 24)) ∧ w = w' := by
  go_enter Try.func102, Try.ntmps102
  go_wp2
  go_ret
  exact ⟨rfl, rfl⟩
theorem l02Turn37 (x : Int) (w : World) : Calls Try.prog 102 #[u64V x, u64V 37] w fun e w' => e = .returned (u64V (turnZ x 37)) ∧ w = w' := by
  go_enter Try.func102, Try.ntmps102
  go_wp2
  go_ret
  exact ⟨rfl, rfl⟩
theorem rotl24 (x : Int) (w : World) : Calls Try.prog 104 #[u64V x, .int .i64 24] w fun e w' => e = .returned (u64V (turnZ x 24)) ∧ w = w' := by
  have h : bits .and .u64 24 63 = 24 := by decide
  go_enter Try.func104, Try.ntmps104
  go_wp2
  go_ret
  exact ⟨rfl, rfl⟩
theorem rotl37 (x : Int) (w : World) : Calls Try.prog 104 #[u64V x, .int .i64 37] w fun e w' => e = .returned (u64V (turnZ x 37)) ∧ w = w' := by
  have h : bits .and .u64 37 63 = 37 := by decide
  go_enter Try.func104, Try.ntmps104
  go_wp2
  go_ret
  exact ⟨rfl, rfl⟩
theorem l02Mix_any (x : Int) (w : World) : Calls Try.prog 101 #[u64V x] w fun e w' => e = .returned (u64V (mixZ x)) ∧ w = w' := by
  go_enter Try.func101, Try.ntmps101
  go_wp2
  go_ret
  exact ⟨rfl, rfl⟩
theorem mixWord_any (x : Int) (w : World) : Calls Try.prog 103 #[u64V x] w fun e w' => e = .returned (u64V (mixZ x)) ∧ w = w' := by
  go_enter Try.func103, Try.ntmps103
  go_wp2
  go_ret
  exact ⟨rfl, rfl⟩
theorem rotl_any (x k : Int) (h : k = 24 ∨ k = 37) (w : World) : Calls Try.prog 104 #[u64V x, .int .i64 k] w fun e w' => e = .returned (u64V (turnZ x k.toNat)) ∧ w = w' := by
  rcases h with rfl | rfl
  · exact rotl24 x w
  · exact rotl37 x w
theorem turn_any (x k : Int) (h : k = 24 ∨ k = 37) (w : World) : Calls Try.prog 102 #[u64V x, u64V k] w fun e w' => e = .returned (u64V (turnZ x k.toNat)) ∧ w = w' := by
  rcases h with rfl | rfl
  · exact l02Turn24 x w
  · exact l02Turn37 x w
def xr (a b : Int) : Int := bits .xor .u64 a b
def wu (a : Int) : Int := IntKind.u64.wrap a
def lineZ (a b : Int) : Int := wu (wu (6364136223846793005 * a) + b)
def sh1 (a : Int) : Int := xr a (wu (a * 8192))
def sh2 (a : Int) : Int := xr (sh1 a) (sh1 a / 128)
def shiftZ (a : Int) : Int := xr (sh2 a) (wu (sh2 a * 131072))
def pairX (a b : Int) : Int := xr b a
/-- The next seed, and its word of 64 digits. -/
def nextA (k a b : Int) : Int := if k = 0 then lineZ a b else if k = 1 then shiftZ a else if k = 2 then wu (a + 11400714819323198485) else xr (xr (turnZ a 24) (pairX a b)) (wu (pairX a b * 65536))
def nextB (k a b : Int) : Int := if k = 0 then b else if k = 1 then b else if k = 2 then b else turnZ (pairX a b) 37
def nextW (k a b : Int) : Int := if k = 0 then lineZ a b else if k = 1 then wu (shiftZ a * 2685821657736338717) else if k = 2 then mixZ (wu (wu (a + 11400714819323198485) + b)) else wu (a + b)
theorem wu_in (x : Int) : 0 ≤ wu x ∧ wu x < 18446744073709551616 := by
  unfold wu
  rw [IntKind.wrap_u64]
  omega
theorem bxor_in (x y : Int) : 0 ≤ bits .xor .u64 x y ∧ bits .xor .u64 x y < 18446744073709551616 := by
  show 0 ≤ IntKind.u64.wrap ((BitVec.ofInt 64 x ^^^ BitVec.ofInt 64 y).toNat : Int) ∧ IntKind.u64.wrap ((BitVec.ofInt 64 x ^^^ BitVec.ofInt 64 y).toNat : Int) < _
  rw [IntKind.wrap_u64]
  omega
theorem bor_in (x y : Int) : 0 ≤ bits .or .u64 x y ∧ bits .or .u64 x y < 18446744073709551616 := by
  show 0 ≤ IntKind.u64.wrap ((BitVec.ofInt 64 x ||| BitVec.ofInt 64 y).toNat : Int) ∧ IntKind.u64.wrap ((BitVec.ofInt 64 x ||| BitVec.ofInt 64 y).toNat : Int) < _
  rw [IntKind.wrap_u64]
  omega
theorem xr_in (x y : Int) : 0 ≤ xr x y ∧ xr x y < 18446744073709551616 := by unfold xr; exact bxor_in _ _
theorem turnZ_in (x : Int) (k : Nat) : 0 ≤ turnZ x k ∧ turnZ x k < 18446744073709551616 := by unfold turnZ; exact bor_in _ _
theorem mixZ_in (x : Int) : 0 ≤ mixZ x ∧ mixZ x < 18446744073709551616 := by unfold mixZ; exact bxor_in _ _
theorem lineZ_in (a b : Int) : 0 ≤ lineZ a b ∧ lineZ a b < 18446744073709551616 := by unfold lineZ; exact wu_in _
theorem shiftZ_in (a : Int) : 0 ≤ shiftZ a ∧ shiftZ a < 18446744073709551616 := by unfold shiftZ; exact xr_in _ _
theorem nextW_in (k a b : Int) : 0 ≤ nextW k a b ∧ nextW k a b < 18446744073709551616 := by
  unfold nextW
  split
  · exact lineZ_in _ _
  split
  · exact wu_in _
  split
  · exact mixZ_in _
  · exact wu_in _
theorem nextA_in (k a b : Int) : 0 ≤ nextA k a b ∧ nextA k a b < 18446744073709551616 := by
  unfold nextA
  split
  · exact lineZ_in _ _
  split
  · exact shiftZ_in _
  split
  · exact wu_in _
  · exact xr_in _ _
theorem nextB_in (k a b : Int) (hb : 0 ≤ b ∧ b < 18446744073709551616) : 0 ≤ nextB k a b ∧ nextB k a b < 18446744073709551616 := by
  unfold nextB
  split
  · exact hb
  split
  · exact hb
  split
  · exact hb
  · exact turnZ_in _ _
theorem seed0 (a b : Int) : nextA 0 a b = lineZ a b ∧ nextB 0 a b = b ∧ nextW 0 a b = lineZ a b := by
  unfold nextA nextB nextW
  exact ⟨if_pos rfl, if_pos rfl, if_pos rfl⟩
theorem seed1 (a b : Int) : nextA 1 a b = shiftZ a ∧ nextB 1 a b = b ∧ nextW 1 a b = wu (shiftZ a * 2685821657736338717) := by
  unfold nextA nextB nextW
  rw [if_neg (by decide), if_pos rfl, if_neg (by decide), if_pos rfl, if_neg (by decide), if_pos rfl]
  exact ⟨rfl, rfl, rfl⟩
theorem seed2 (a b : Int) : nextA 2 a b = wu (a + 11400714819323198485) ∧ nextB 2 a b = b ∧ nextW 2 a b = mixZ (wu (wu (a + 11400714819323198485) + b)) := by
  unfold nextA nextB nextW
  rw [if_neg (by decide), if_neg (by decide), if_pos rfl, if_neg (by decide), if_neg (by decide), if_pos rfl, if_neg (by decide), if_neg (by decide), if_pos rfl]
  exact ⟨rfl, rfl, rfl⟩
theorem seed3 {k : Int} (h0 : ¬ k = 0) (h1 : ¬ k = 1) (h2 : ¬ k = 2) (a b : Int) : nextA k a b = xr (xr (turnZ a 24) (pairX a b)) (wu (pairX a b * 65536)) ∧ nextB k a b = turnZ (pairX a b) 37 ∧ nextW k a b = wu (a + b) := by
  unfold nextA nextB nextW
  refine ⟨?_, ?_, ?_⟩ <;> simp only [if_neg h0, if_neg h1, if_neg h2]
/-- The upper half of a word. -/
theorem half_word (k a b : Int) : 0 ≤ nextW k a b / 4294967296 ∧ nextW k a b / 4294967296 < 4294967296 := by
  have := nextW_in k a b
  omega
theorem half_i64 (k a b : Int) : wrap64 (nextW k a b / 4294967296) = nextW k a b / 4294967296 := by
  have := half_word k a b
  exact IntWalk.wrap64_in _ (by omega)
theorem half_u32 (k a b : Int) : IntKind.u32.wrap (nextW k a b / 4294967296) = nextW k a b / 4294967296 := by
  have := half_word k a b
  exact IntWalk.u32_in _ (by omega)
end Go.Proofs.Ythdnelfggmlalaa
