/-
  The plain law of StairTail's table: in how many orders so many of both have come (each sum wrapped).
-/
import Derived.Test.YtepiioegiicebaaChoose
namespace Go.Proofs.Ytepiioegiicebaa
open Go.RowKit

/-- The gap is reached at i, k. -/
def cutB (m n : Nat) (gap : Int) (i k : Nat) : Bool := decide (gap ≤ max ((n : Int) * i - (m : Int) * k) (-((n : Int) * i - (m : Int) * k)))

def st (m n : Nat) (gap : Int) : Nat → Nat → Int
  | 0, 0 => 1
  | 0, k + 1 => if cutB m n gap 0 (k + 1) then 0 else wrap64 (0 + st m n gap 0 k)
  | i + 1, 0 => if cutB m n gap (i + 1) 0 then 0 else st m n gap i 0
  | i + 1, k + 1 => if cutB m n gap (i + 1) (k + 1) then 0 else wrap64 (st m n gap i (k + 1) + st m n gap (i + 1) k)
termination_by i k => (i, k)

theorem wrap64_bd (x : Int) : -9223372036854775808 ≤ wrap64 x ∧ wrap64 x ≤ 9223372036854775807 := by unfold wrap64; omega
theorem st_bd (m n : Nat) (gap : Int) : ∀ i k, -9223372036854775808 ≤ st m n gap i k ∧ st m n gap i k ≤ 9223372036854775807 := by
  intro i
  induction i with
  | zero =>
    intro k
    cases k with
    | zero => rw [st]; omega
    | succ k => rw [st]; split; omega; exact wrap64_bd _
  | succ i ih =>
    intro k
    cases k with
    | zero => rw [st]; split; omega; exact ih 0
    | succ k => rw [st]; split; omega; exact wrap64_bd _
theorem wrap_st (m n : Nat) (gap : Int) (i k : Nat) : wrap64 (0 + st m n gap i k) = st m n gap i k := by
  have := st_bd m n gap i k
  rw [Int.zero_add]
  exact wrap64_id this.1 this.2

/-- What a row holds ahead of round i: nothing, or the row before. -/
def stPrev (m n : Nat) (gap : Int) : Nat → Nat → Int
  | 0, _ => 0
  | i + 1, t => st m n gap i t
/-- The row in the middle of round i: the cells below k are made. -/
def rowS (m n : Nat) (gap : Int) (i k : Nat) : List Value := (List.range (n + 1)).map fun t => Value.int .i64 (if t < k then st m n gap i t else stPrev m n gap i t)
theorem rowS_at {m n : Nat} {gap : Int} {i k t : Nat} (h : t ≤ n) : (rowS m n gap i k)[t]? = some (.int .i64 (if t < k then st m n gap i t else stPrev m n gap i t)) := by
  simp [rowS, List.getElem?_range (show t < n + 1 by omega)]
theorem rowS_same {m n : Nat} {gap : Int} {i k : Nat} (h : st m n gap i k = stPrev m n gap i k) : rowS m n gap i k = rowS m n gap i (k + 1) := by
  unfold rowS
  apply List.map_congr_left
  intro t _
  by_cases e : t = k
  · subst e; simp [h]
  · have : (t < k + 1) ↔ (t < k) := by omega
    simp [this]
theorem st_B (m n : Nat) (gap : Int) (i k : Nat) : st m n gap i (k + 1) = if cutB m n gap i (k + 1) then 0 else wrap64 (stPrev m n gap i (k + 1) + st m n gap i k) := by
  cases i <;> rw [st] <;> rfl
theorem st_C (m n : Nat) (gap : Int) (i : Nat) : st m n gap (i + 1) 0 = if cutB m n gap (i + 1) 0 then 0 else stPrev m n gap (i + 1) 0 := by rw [st]; rfl
theorem cut_neg {m n : Nat} {gap : Int} {i k : Nat} (h : (n : Int) * i - (m : Int) * k < -((n : Int) * i - (m : Int) * k)) : cutB m n gap i k = decide (gap ≤ -((n : Int) * i - (m : Int) * k)) := by
  unfold cutB; rw [show max ((n : Int) * i - (m : Int) * k) (-((n : Int) * i - (m : Int) * k)) = -((n : Int) * i - (m : Int) * k) by omega]
theorem cut_pos {m n : Nat} {gap : Int} {i k : Nat} (h : ¬ (n : Int) * i - (m : Int) * k < -((n : Int) * i - (m : Int) * k)) : cutB m n gap i k = decide (gap ≤ (n : Int) * i - (m : Int) * k) := by
  unfold cutB; rw [show max ((n : Int) * i - (m : Int) * k) (-((n : Int) * i - (m : Int) * k)) = (n : Int) * i - (m : Int) * k by omega]
theorem mul_bd {n i : Nat} (hn : n ≤ 30) (hi : i ≤ 30) : 0 ≤ (n : Int) * i ∧ (n : Int) * i ≤ 900 := by
  have := Nat.mul_le_mul hn hi
  rw [← Int.natCast_mul]
  omega
theorem rowS_zero (m n : Nat) (gap : Int) : List.replicate (n + 1) (Value.int .i64 0) = rowS m n gap 0 0 := by
  apply List.ext_getElem?
  intro t
  by_cases h : t ≤ n
  · rw [rowS_at h]
    simp [stPrev, show t < n + 1 by omega]
  · simp [rowS, show n + 1 ≤ t by omega]
theorem rowS_next (m n : Nat) (gap : Int) (i : Nat) : rowS m n gap i (n + 1) = rowS m n gap (i + 1) 0 := by
  unfold rowS
  apply List.map_congr_left
  intro t ht
  have : t < n + 1 := by simpa using ht
  simp [this, stPrev]
theorem rowS_set {m n : Nat} {gap : Int} {i k : Nat} (hk : k ≤ n) {u : Int} (hu : u = st m n gap i k) : (rowS m n gap i k).set k (.int .i64 u) = rowS m n gap i (k + 1) := by
  subst hu
  apply List.ext_getElem?
  intro t
  rw [List.getElem?_set]
  by_cases h : t ≤ n
  · rw [rowS_at h, rowS_at h]
    by_cases e : k = t
    · subst e; simp [rowS, show k < n + 1 by omega]
    · rw [if_neg e]
      have : (t < k + 1) ↔ (t < k) := by omega
      simp [this]
  · rw [if_neg (by omega)]
    simp [rowS, show n + 1 ≤ t by omega]
/-- A row of the program's own table: the cells below k are made, the rest is 0. -/
def rowR (m n : Nat) (gap : Int) (i k : Nat) : List Value := (List.range (n + 1)).map fun t => Value.int .i64 (if t < k then st m n gap i t else 0)
theorem rowR_at {m n : Nat} {gap : Int} {i k t : Nat} (h : t ≤ n) : (rowR m n gap i k)[t]? = some (.int .i64 (if t < k then st m n gap i t else 0)) := by
  simp [rowR, List.getElem?_range (show t < n + 1 by omega)]
theorem rowR_zero (m n : Nat) (gap : Int) (i : Nat) : List.replicate (n + 1) (Value.int .i64 0) = rowR m n gap i 0 := by
  apply List.ext_getElem?
  intro t
  by_cases h : t ≤ n
  · rw [rowR_at h]
    simp [show t < n + 1 by omega]
  · simp [rowR, show n + 1 ≤ t by omega]
theorem rowR_set {m n : Nat} {gap : Int} {i k : Nat} (hk : k ≤ n) {u : Int} (hu : u = st m n gap i k) : (rowR m n gap i k).set k (.int .i64 u) = rowR m n gap i (k + 1) := by
  subst hu
  apply List.ext_getElem?
  intro t
  rw [List.getElem?_set]
  by_cases h : t ≤ n
  · rw [rowR_at h, rowR_at h]
    by_cases e : k = t
    · subst e; simp [rowR, show k < n + 1 by omega]
    · rw [if_neg e]
      have : (t < k + 1) ↔ (t < k) := by omega
      simp [this]
  · rw [if_neg (by omega)]
    simp [rowR, show n + 1 ≤ t by omega]
theorem rowR_same {m n : Nat} {gap : Int} {i k : Nat} (h : st m n gap i k = 0) : rowR m n gap i k = rowR m n gap i (k + 1) := by
  unfold rowR
  apply List.map_congr_left
  intro t _
  by_cases e : t = k
  · subst e; simp [h]
  · have : (t < k + 1) ↔ (t < k) := by omega
    simp [this]
end Go.Proofs.Ytepiioegiicebaa
