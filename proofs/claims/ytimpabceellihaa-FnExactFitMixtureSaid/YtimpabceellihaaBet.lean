/-
  Wealth by bets: both BetWealth.
-/
import Derived.Test.YtimpabceellihaaMean
import Derived.Test.YtimpabceellihaaBools
import Derived.Test.YtimpabceellihaaApp
namespace Go.Proofs.Ytimpabceellihaa
open Go.RowKit
attribute [local go_sem] run_fl_add run_fl_sub run_fl_mul run_fl_quo run_up_

def oneN : Option Nat := some 1065353216
theorem abs_one : absF .f32 1065353216 = oneN := by decide
def betStep (sh st : Option Nat) (s : Option Nat) (b : Bool) : Option Nat :=
  if b then opF .mul .f32 s (opF .add .f32 oneN (opF .mul .f32 st (opF .sub .f32 oneN sh))) else opF .mul .f32 s (opF .sub .f32 oneN (opF .mul .f32 st sh))
def betTo (sh st : Option Nat) (xs : List Bool) (k : Nat) : Option Nat := (xs.take k).foldl (betStep sh st) oneN
def betL (sh st : Option Nat) (xs : List Bool) (k : Nat) : List (Option Nat) := (List.range k).map fun i => betTo sh st xs (i + 1)
theorem betTo_succ (sh st : Option Nat) {xs : List Bool} {k : Nat} {x : Bool} (h : xs[k]? = some x) : betTo sh st xs (k + 1) = betStep sh st (betTo sh st xs k) x := by simp [betTo, take_snoc h]
theorem betL_succ (sh st : Option Nat) (xs : List Bool) (k : Nat) : betL sh st xs (k + 1) = betL sh st xs k ++ [betTo sh st xs (k + 1)] := by simp [betL, List.range_succ]
theorem betL_len (sh st : Option Nat) (xs : List Bool) (k : Nat) : (betL sh st xs k).length = k := by simp [betL]
def betOk1 (xs : List Bool) (sh st : Nat) : Bool := decide (1 ≤ xs.length ∧ xs.length ≤ 256) && partB sh && partB st
def betR (xs : List Bool) (sh st : Nat) : List (Option Nat) := betL (absF .f32 sh) (absF .f32 st) xs xs.length
def betOk (xs : List Bool) (sh st : Nat) : Bool := betOk1 xs sh st && (betR xs sh st).all finA
def RetBetWealth (xs : List Bool) (sh st : Nat) (w : World) (e : Ending) (w' : World) : Prop :=
  ∃ v y, e = .returned (.tuple #[v, .bool (betOk xs sh st)]) ∧ Own fV 39 w' w.heap.size v y ∧ y.length ≤ 1099511627776 ∧ absL y = (if betOk xs sh st = true then betR xs sh st else []) ∧ Below w.heap.size w w'
theorem all_fin (y : List Nat) : y.all finB = (absL y).all finA := by
  unfold absL
  rw [List.all_map]
  congr 1
  funext b
  exact fin_abs b
theorem betOk_f1 {xs : List Bool} {sh st : Nat} (h : betOk1 xs sh st = false) : betOk xs sh st = false := by unfold betOk; rw [h]; rfl
theorem betOk_t {xs : List Bool} {sh st : Nat} (h : betOk1 xs sh st = true) : betOk xs sh st = (betR xs sh st).all finA := by unfold betOk; rw [h]; rfl
theorem absL_append' (a b : List Nat) : absL (a ++ b) = absL a ++ absL b := by simp [absL]

theorem below_alloc' (w : World) (o : Obj) : Below w.heap.size w (w.alloc o) := (Below.refl _ _).alloc (Nat.le_refl _) o
theorem rd_two (w : World) (x y : Nat) (E : TypeId) : Rd fV (w.alloc (.cells #[fV x, fV y] E)) (.slice (some ⟨w.heap.size, 0, none⟩) 2 2) [x, y] :=
  ⟨_, 2, rfl, Nat.le_refl _, fun k z hk => by
    match k, hk with
    | 0, hk => simp at hk; subst hk; exact ⟨_, rfl, by simp, by simp [Addr.add]⟩
    | 1, hk => simp at hk; subst hk; exact ⟨_, rfl, by simp, by simp [Addr.add]⟩⟩

end Go.Proofs.Ytimpabceellihaa
