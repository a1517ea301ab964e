/-
  Functions that give a share back: what they return, by name; impl.checkedShare, impl.countsFrom0; shares by what their words stand for.
-/
import Derived.Test.YtimpabceellihaaMean
import Derived.Test.YtimpabceellihaaApp
namespace Go.Proofs.Ytimpabceellihaa
open Go.RowKit
attribute [local go_sem] run_fl_add run_fl_sub run_fl_mul run_fl_quo run_up_

def leastA : Option Nat → Bool | none => false | some b => leastB b
theorem least_abs (b : Nat) : leastB b = leastA (absF .f32 b) := by
  cases h : (FloatKind.f32.decode b).isNaN
  · rw [absF_of h]; rfl
  · rw [absF_nan h]
    have : finB b = false := by rw [fin_abs, absF_nan h]; rfl
    unfold leastB
    rw [this]; rfl
/-- A share by its values and by what its chances stand for. -/
def shareAB (v : List Nat) (C : List (Option Nat)) : Bool := decide (1 ≤ v.length ∧ v.length ≤ 64) && decide (C.length = v.length) && v.all finB && riseTo v v.length && (C.all leastA && nearA (sumF C))
theorem shareB_abs (v c : List Nat) : shareB v c = shareAB v (absL c) := by
  have h : c.all leastB = (absL c).all leastA := by
    unfold absL
    rw [List.all_map]
    congr 1
    funext b
    exact least_abs b
  unfold shareB shareAB
  rw [h, show (absL c).length = c.length by simp [absL]]
/-- What a function that gives a share back returns: rows of its own, apart; none where there is no share. -/
def RetSh (ok : Bool) (V C : List (Option Nat)) (w : World) (e : Ending) (w' : World) : Prop :=
  ∃ v0 y0 v1 y1, e = .returned (.tuple #[shV v0 v1, .bool ok]) ∧ Own fV 39 w' w.heap.size v0 y0 ∧ Own fV 39 w' w.heap.size v1 y1 ∧ (v0.ownBlock = none ∨ v0.ownBlock ≠ v1.ownBlock) ∧ y0.length ≤ 1099511627 ∧ y1.length ≤ 1099511627 ∧
    absL y0 = (if ok then V else []) ∧ absL y1 = (if ok then C else []) ∧ Below w.heap.size w w'
theorem RetSh.none {V C : List (Option Nat)} {w w' : World} (hb : Below w.heap.size w w') : RetSh false V C w (.returned (.tuple #[shV (.slice none 0 0) (.slice none 0 0), .bool false])) w' :=
  ⟨_, [], _, [], rfl, Own.nil, Own.nil, .inl rfl, by simp, by simp, rfl, rfl, hb⟩
theorem Touch.drewN {lo hi : Nat} {a w : World} (h : Touch lo hi a w) (n : Nat) : Touch lo hi a (w.drewN n) := ⟨h.os, h.tape, h.output, h.size, h.block⟩
theorem Touch.refl (lo hi : Nat) (w : World) : Touch lo hi w w := ⟨rfl, rfl, rfl, Nat.le_refl _, fun _ _ _ => rfl⟩

/-- One of two values. -/
def chkV (b : Bool) (x y : Value) : Value := if b then x else y

/-- The numbers from 0 to n - 1 as words. -/
def cntL (n : Nat) : List Nat := (List.range n).map fun (i : Nat) => floatOfInt .f32 (i : Int)
theorem cntL_succ (n : Nat) : cntL (n + 1) = cntL n ++ [floatOfInt .f32 (n : Int)] := by simp [cntL, List.range_succ]
theorem cntL_len (n : Nat) : (cntL n).length = n := by simp [cntL]
end Go.Proofs.Ytimpabceellihaa
