/-
  Bytes that choose numbers; gaps.
-/
import Derived.Test.YtimpabceellihaaFloat
import Derived.Test.YtimpabceellihaaSl
import Derived.Test.YtimpabceellihaaOpen2
namespace Go.Proofs.Ytimpabceellihaa
open Go.RowKit

/-- A byte as a cell. -/
abbrev yV (b : Fin 256) : Value := .int .u8 ((b.val : Nat) : Int)
theorem elem_byte {H : Type} {enc : TypeId × Value → H} {P : Program} {w : World} {base : Nat} {spare : Nat → Bool} {held : Bool} {e : TypeId} (he : P.underlying e = some (.int .u8)) (n : Nat) (v : Value) (y : DataW H × List MemPlace) (h : DataW.trod enc P w base spare held n e [v] = some y) : ∃ x : Fin 256, v = yV x := by
  obtain ⟨x, hx, _, hw⟩ := DataW.trod_int he h
  have h2 : 0 ≤ x ∧ x ≤ 255 := by
    have h3 : IntKind.u8.min ≤ x ∧ x ≤ IntKind.u8.max := by simpa [Lit.wf] using hw
    exact h3
  simp at hx
  refine ⟨⟨x.toNat, by omega⟩, ?_⟩
  rw [hx]
  congr 1
  show x = ((x.toNat : Nat) : Int)
  omega
/-- The number that a byte chooses. -/
def b10A (xs : List (Fin 256)) (i n : Nat) : Nat := match xs[i]? with
  | some x => x.val % n
  | none => (i * 37 + 11) % n
theorem b10A_lt (xs : List (Fin 256)) (i : Nat) {n : Nat} (h : 0 < n) : b10A xs i n < n := by unfold b10A; split <;> exact Nat.mod_lt _ h
theorem b10At_any (v : Value) (xs : List (Fin 256)) (i n : Nat) (hi : i ≤ 1000) (hn : 2 ≤ n) (hn2 : n ≤ 1000) (w : World) (hr : Rd yV w v xs) :
    Calls Try.prog 16 #[v, .int .i64 i, .int .i64 n] w fun e w' => e = .returned (.int .i64 ((b10A xs i n : Nat) : Int)) ∧ w = w' := by
  obtain ⟨A, cap, rfl, hcap, hA⟩ := hr
  have n1 : ¬ (n : Int) ≤ 1 := by omega
  have n0 : ¬ (n : Int) = 0 := by omega
  have n2 : ((n : Int) == 0) = false := beq_eq_false_iff_ne.2 n0
  have i0 : (0 : Int) ≤ (i : Int) := by omega
  by_cases hlt : i < xs.length
  · obtain ⟨x, hx⟩ := get_of_lt hlt
    obtain ⟨ad, rfl, hbl, hc⟩ := hA i x hx
    have i1 : (i : Int) < (xs.length : Int) := by omega
    have HX : Hid (b10A xs i n = x.val % n) := by unfold Hid b10A; rw [hx]
    have hx2 := x.isLt
    clear hA hx
    go_enter Try.func16, Try.ntmps16
    go_wp2
    go_ret
    refine ⟨ret_int ?_, rfl⟩
    rw [HX.out]
    exact (Int.natCast_emod _ _).symm
  · have i1 : ¬ (i : Int) < (xs.length : Int) := by omega
    have HX : Hid (b10A xs i n = (i * 37 + 11) % n) := by unfold Hid b10A; rw [List.getElem?_eq_none (by omega)]
    clear hA
    go_enter Try.func16, Try.ntmps16
    go_wp2
    go_ret
    refine ⟨ret_int ?_, rfl⟩
    rw [HX.out, Int.natCast_emod]
    simp
theorem b10Long_any (u v : Value) (xs ys : List (Fin 256)) (w : World) (hr : Rd yV w u xs) (hs : Rd yV w v ys) :
    Calls Try.prog 15 #[u, v] w fun e w' => e = .returned (.bool (decide (1048576 < xs.length) || decide (1048576 < ys.length))) ∧ w = w' := by
  obtain ⟨A, cap, rfl, hcap, hA⟩ := hr
  obtain ⟨B, cap2, rfl, hcap2, hB⟩ := hs
  clear hA hB
  by_cases h1 : 1048576 < xs.length
  · have h2 : (xs.length : Int) > 1048576 := by omega
    go_enter Try.func15, Try.ntmps15
    go_wp2
    go_ret
    exact ⟨ret_bool (by simp [h1]), rfl⟩
  · have h2 : ¬ (xs.length : Int) > 1048576 := by omega
    by_cases h3 : 1048576 < ys.length
    · have h4 : (ys.length : Int) > 1048576 := by omega
      go_enter Try.func15, Try.ntmps15
      go_wp2
      go_ret
      exact ⟨rfl, rfl⟩
    · have h4 : ¬ (ys.length : Int) > 1048576 := by omega
      go_enter Try.func15, Try.ntmps15
      go_wp2
      go_ret
      exact ⟨rfl, rfl⟩
/-- The gap of two words. -/
def gapW (a b : Nat) : Option Nat := if FloatKind.f64.format.order a b == some .lt then floatBits .sub .f64 b a else floatBits .sub .f64 a b
theorem b10Gap_any {a b g : Nat} (hg : gapW a b = some g) (w : World) : Calls Try.prog 18 #[.float .f64 a, .float .f64 b] w fun e w' => e = .returned (.float .f64 g) ∧ w = w' := by
  unfold gapW at hg
  cases h : (FloatKind.f64.format.order a b == some .lt)
  · rw [h, if_neg (by simp)] at hg
    have hf := fun W => run_float_arith (P := Try.prog) W .sub 42 .f64 a b g hg
    clear hg
    go_enter Try.func18, Try.ntmps18
    go_wp2
    go_ret
    exact ⟨rfl, rfl⟩
  · rw [h, if_pos rfl] at hg
    have hf := fun W => run_float_arith (P := Try.prog) W .sub 42 .f64 b a g hg
    clear hg
    go_enter Try.func18, Try.ntmps18
    go_wp2
    go_ret
    exact ⟨rfl, rfl⟩

end Go.Proofs.Ytimpabceellihaa
