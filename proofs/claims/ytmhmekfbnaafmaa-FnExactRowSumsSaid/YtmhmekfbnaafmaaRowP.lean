/-
  The sums of rows: one number after the other, and row by row.
-/
import Derived.Test.YtmhmekfbnaafmaaSums
import Derived.Test.YtmhmekfbnaafmaaJoin
namespace Go.Proofs.Ytmhmekfbnaafmaa
open Go.RowKit

/-- Row k of m numbers each. -/
def rowAt (m : Nat) (xs : List Int) (k : Nat) : List Int := (xs.drop (k * m)).take m
def rowsOf (rn m : Nat) (xs : List Int) : List Int := (List.range rn).map fun k => sumW (rowAt m xs k)
def rowsMid (rn m : Nat) (xs : List Int) (k j : Nat) : List Int := (List.range rn).map fun i => if i < k then sumW (rowAt m xs i) else if i = k then sumW ((rowAt m xs k).take j) else 0
theorem rowsMid_at {rn m k j i : Nat} {xs : List Int} (h : i < rn) : (rowsMid rn m xs k j)[i]? = some (if i < k then sumW (rowAt m xs i) else if i = k then sumW ((rowAt m xs k).take j) else 0) := by
  simp [rowsMid, List.getElem?_range h]
theorem rowsMid_len (rn m k j : Nat) (xs : List Int) : (rowsMid rn m xs k j).length = rn := by simp [rowsMid]
theorem rowsMid_start (rn m : Nat) (xs : List Int) : rowsMid rn m xs 0 0 = List.replicate rn 0 := by
  apply List.ext_getElem?
  intro i
  by_cases h : i < rn
  · rw [rowsMid_at h]
    simp [h, sumW]
  · rw [List.getElem?_eq_none (by rw [rowsMid_len]; omega), List.getElem?_eq_none (by simp; omega)]
theorem rowsMid_next (rn m k : Nat) (xs : List Int) : rowsMid rn m xs k m = rowsMid rn m xs (k + 1) 0 := by
  apply List.ext_getElem?
  intro i
  by_cases h : i < rn
  · rw [rowsMid_at h, rowsMid_at h]
    congr 1
    rcases Nat.lt_trichotomy i k with e | e | e
    · rw [if_pos e, if_pos (by omega)]
    · subst e
      rw [if_neg (by omega), if_pos rfl, if_pos (by omega)]
      unfold rowAt
      rw [List.take_take, Nat.min_self]
    · rw [if_neg (by omega), if_neg (by omega), if_neg (by omega)]
      split
      · rename_i e2; subst e2; simp [sumW]
      · rfl
  · rw [List.getElem?_eq_none (by rw [rowsMid_len]; omega), List.getElem?_eq_none (by rw [rowsMid_len]; omega)]
theorem rowsMid_end (rn m : Nat) (xs : List Int) : rowsMid rn m xs rn 0 = rowsOf rn m xs := by
  unfold rowsMid rowsOf
  apply List.map_congr_left
  intro i hi
  rw [if_pos (List.mem_range.1 hi)]
theorem rowsMid_add {rn m k j : Nat} {xs : List Int} {x : Int} (hk : k < rn) (hj : j < m) (hx : xs[k * m + j]? = some x) : addAt (rowsMid rn m xs k j) k x = rowsMid rn m xs k (j + 1) := by
  have hr : (rowAt m xs k)[j]? = some x := by
    unfold rowAt
    rw [List.getElem?_take, if_pos hj, List.getElem?_drop]
    exact hx
  unfold addAt
  rw [rowsMid_at hk, if_neg (by omega), if_pos rfl]
  apply List.ext_getElem?
  intro i
  rw [List.getElem?_set]
  by_cases h : i < rn
  · rw [rowsMid_at h, rowsMid_at h, rowsMid_len]
    by_cases e : k = i
    · subst e
      rw [if_pos rfl, if_pos h, if_neg (by omega), if_pos rfl, take_snoc hr, sumW_snoc]
      rfl
    · rw [if_neg e]
      congr 1
      by_cases e2 : i < k
      · rw [if_pos e2, if_pos e2]
      · rw [if_neg e2, if_neg e2, if_neg (by omega), if_neg (by omega)]
  · rw [List.getElem?_eq_none (by rw [rowsMid_len]; omega), List.getElem?_eq_none (by rw [rowsMid_len]; omega), rowsMid_len]
    split
    · omega
    · rfl
theorem sumsTo_mid {rn m : Nat} {xs : List Int} (hm : 1 ≤ m) (hn : xs.length = rn * m) {k : Nat} (hk : k < rn) : ∀ {j : Nat}, j ≤ m → sumsTo rn (· / m) xs (k * m) = rowsMid rn m xs k 0 → sumsTo rn (· / m) xs (k * m + j) = rowsMid rn m xs k j
  | 0, _, h => h
  | j + 1, hj, h => by
    have hlt : k * m + j < xs.length := by
      rw [hn]
      have := Nat.mul_le_mul_right m (show k + 1 ≤ rn by omega)
      rw [Nat.succ_mul] at this
      omega
    obtain ⟨x, hx⟩ := get_of_lt hlt
    rw [← Nat.add_assoc, sumsTo_succ hx, sumsTo_mid hm hn hk (by omega) h, show (k * m + j) / m = k by rw [Nat.mul_comm, Nat.mul_add_div (by omega), Nat.div_eq_of_lt (by omega), Nat.add_zero]]
    exact rowsMid_add hk (by omega) hx
theorem sumsTo_row {rn m : Nat} {xs : List Int} (hm : 1 ≤ m) (hn : xs.length = rn * m) : ∀ {k : Nat}, k ≤ rn → sumsTo rn (· / m) xs (k * m) = rowsMid rn m xs k 0
  | 0, _ => by rw [Nat.zero_mul, sumsTo_zero, rowsMid_start]
  | k + 1, hk => by
    rw [Nat.succ_mul, sumsTo_mid hm hn (by omega) (Nat.le_refl _) (sumsTo_row hm hn (by omega)), rowsMid_next]
theorem sumsTo_rows {rn m : Nat} {xs : List Int} (hm : 1 ≤ m) (hn : xs.length = rn * m) : sumsTo rn (· / m) xs xs.length = rowsOf rn m xs := by
  rw [hn, sumsTo_row hm hn (Nat.le_refl _), rowsMid_end]
theorem rowsOf_fin (rn m : Nat) (xs : List Int) : rowsOf rn m xs = (List.finRange rn).map fun k => sumW (rowAt m xs k.1) := by
  unfold rowsOf
  apply List.ext_getElem
  · simp
  · intro i h1 h2
    simp
/-- What a cut out of a slice reads. -/
theorem Rd.row {w : World} {ad : Addr} {n cap : Nat} {xs : List Int} (h : Rd iV w (.slice (some ad) n cap) xs) {rn m k : Nat} (hn : xs.length = rn * m) (hk : k < rn) : Rd iV w (.slice (some (ad.add (k * m))) m m) (rowAt m xs k) := by
  have hle : k * m + m ≤ xs.length := by
    rw [hn]
    have := Nat.mul_le_mul_right m (show k + 1 ≤ rn by omega)
    rw [Nat.succ_mul] at this
    exact this
  have hl : (rowAt m xs k).length = m := by unfold rowAt; rw [List.length_take, List.length_drop]; omega
  obtain ⟨A, c, e, hc, hA⟩ := h
  cases e
  refine ⟨some (ad.add (k * m)), m, by rw [hl], by rw [hl]; omega, fun i x hx => ?_⟩
  have hi := lt_of_get hx
  rw [hl] at hi
  unfold rowAt at hx
  rw [List.getElem?_take, if_pos hi, List.getElem?_drop] at hx
  obtain ⟨ad', e, h1, h2⟩ := hA (k * m + i) x hx
  cases e
  refine ⟨_, rfl, by rw [add_block]; exact h1, ?_⟩
  rw [show (ad.add (k * m)).add i = ad.add (k * m + i) from Addr.add_add _ _ _]
  exact h2
end Go.Proofs.Ytmhmekfbnaafmaa
