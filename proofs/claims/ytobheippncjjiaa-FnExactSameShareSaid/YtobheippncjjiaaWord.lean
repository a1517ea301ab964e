/-
  Words of float32 and the numbers that they stand for: two words of 32 bits that stand for numbers of one order and one sign are one word.
-/
import Derived.Test.YtobheippncjjiaaFloat
namespace Go.Proofs.Ytobheippncjjiaa
open Go.RowKit
open Ieee

theorem read32 (x : Nat) : single.read x = if x % 2147483648 < 8388608 then .number (x / 2147483648 % 2 == 1) (x % 2147483648) (-149)
    else if x % 2147483648 < 2139095040 then .number (x / 2147483648 % 2 == 1) (8388608 + x % 2147483648 % 8388608) (-149 + (x % 2147483648 / 8388608 - 1 : Nat))
    else if x % 2147483648 = 2139095040 then .infinity (x / 2147483648 % 2 == 1) else .nan (x / 2147483648 % 2 == 1) (x % 2147483648 - 2139095040) := by
  have hb : single.binade = 8388608 := rfl
  have hi : single.infRung = 2139095040 := rfl
  have hl : single.leastPlace = -149 := rfl
  have hs : single.signWeight = 2147483648 := rfl
  unfold Format.read
  simp only [hb, hi, hl, hs]
theorem sign_inj {x y : Nat} (hx : x < 4294967296) (hy : y < 4294967296) (h : (x / 2147483648 % 2 == 1) = (y / 2147483648 % 2 == 1)) (hr : x % 2147483648 = y % 2147483648) : x = y := by
  have a : x / 2147483648 % 2 = y / 2147483648 % 2 := by
    have h1 := Nat.mod_two_eq_zero_or_one (x / 2147483648)
    have h2 := Nat.mod_two_eq_zero_or_one (y / 2147483648)
    rcases h1 with h1 | h1 <;> rcases h2 with h2 | h2 <;> rw [h1, h2] at h <;> first | (rw [h1, h2]; done) | (simp at h)
  omega
/-- A number as a word has it. -/
theorem canon {x : Nat} {s : Bool} {m : Nat} {e : Int} (h : single.read x = .number s m e) : (m < 8388608 ∧ e = -149) ∨ (8388608 ≤ m ∧ m < 16777216 ∧ -149 ≤ e) := by
  rw [read32] at h
  split at h
  · injection h with h1 h2 h3; omega
  · split at h
    · injection h with h1 h2 h3
      have := Nat.mod_lt (x % 2147483648) (show 0 < 8388608 by decide)
      right
      omega
    · split at h <;> cases h
theorem read_inj {x y : Nat} (hx : x < 4294967296) (hy : y < 4294967296) (h : single.read x = single.read y) (hn : (single.read x).isNaN = false) : x = y := by
  have hx' := read32 x
  have hy' := read32 y
  have mx := Nat.mod_lt (x % 2147483648) (show 0 < 8388608 by decide)
  have my := Nat.mod_lt (y % 2147483648) (show 0 < 8388608 by decide)
  rw [h] at hx'
  rw [hx'] at hy'
  rw [h, hx'] at hn
  split at hy'
  · split at hy'
    · injection hy' with h1 h2 h3; exact sign_inj hx hy h1 h2
    · split at hy'
      · injection hy' with h1 h2 h3; omega
      · split at hy' <;> cases hy'
  · split at hy'
    · split at hy'
      · injection hy' with h1 h2 h3; omega
      · split at hy'
        · injection hy' with h1 h2 h3
          refine sign_inj hx hy h1 ?_
          omega
        · split at hy' <;> cases hy'
    · split at hy'
      · split at hy'
        · cases hy'
        · split at hy'
          · cases hy'
          · split at hy'
            · injection hy' with h1; exact sign_inj hx hy h1 (by omega)
            · cases hy'
      · rename_i h1 h2 h3
        rw [if_neg h1, if_neg h2, if_neg h3] at hn
        cases hn
theorem same_number {s : Bool} {m n : Nat} {i j : Int} (hm : (m < 8388608 ∧ i = -149) ∨ (8388608 ≤ m ∧ m < 16777216 ∧ -149 ≤ i)) (hn : (n < 8388608 ∧ j = -149) ∨ (8388608 ≤ n ∧ n < 16777216 ∧ -149 ≤ j))
    (h : m <<< (i - min i j).toNat = n <<< (j - min i j).toNat) : m = n ∧ i = j := by
  rw [Nat.shiftLeft_eq, Nat.shiftLeft_eq] at h
  rcases Int.lt_trichotomy i j with hlt | rfl | hlt
  · have e1 : (i - min i j).toNat = 0 := by omega
    obtain ⟨d, hd⟩ : ∃ d, (j - min i j).toNat = d + 1 := ⟨(j - min i j).toNat - 1, by omega⟩
    rw [e1, hd, Nat.pow_zero, Nat.mul_one, Nat.pow_succ] at h
    have h1 := Nat.one_le_two_pow (n := d)
    have h2 : n * 2 ≤ n * (2 ^ d * 2) := Nat.mul_le_mul_left n (by omega)
    omega
  · have e1 : (i - min i i).toNat = 0 := by omega
    rw [e1, Nat.pow_zero, Nat.mul_one, Nat.mul_one] at h
    exact ⟨h, rfl⟩
  · have e1 : (j - min i j).toNat = 0 := by omega
    obtain ⟨d, hd⟩ : ∃ d, (i - min i j).toNat = d + 1 := ⟨(i - min i j).toNat - 1, by omega⟩
    rw [e1, hd, Nat.pow_zero, Nat.mul_one, Nat.pow_succ] at h
    have h1 := Nat.one_le_two_pow (n := d)
    have h2 : m * 2 ≤ m * (2 ^ d * 2) := Nat.mul_le_mul_left m (by omega)
    omega
/-- What a word's sign is. -/
def negW (x : Nat) : Bool := x / 2147483648 % 2 == 1
theorem neg_read (x : Nat) : (single.read x).neg = negW x := by
  rw [read32]
  unfold negW
  split
  · rfl
  · split
    · rfl
    · split <;> rfl
theorem ord_same {x y : Nat} (hx : x < 4294967296) (hy : y < 4294967296) (h : FloatKind.f32.format.order x y = some .eq) (hs : negW x = negW y) : x = y := by
  have hnx := neg_read x
  have hny := neg_read y
  rw [← hnx, ← hny] at hs
  have h' : (single.read x).order (single.read y) = some .eq := h
  refine read_inj hx hy ?_ ?_
  · cases hx' : single.read x with
    | nan s t => rw [hx'] at h'; cases h'
    | infinity s =>
      rw [hx'] at h' hs
      cases hy' : single.read y with
      | nan t u => rw [hy'] at h'; cases h'
      | infinity t => rw [hy'] at hs; cases hs; rfl
      | number t n j => rw [hy'] at h'; cases s <;> simp [Datum.order] at h'
    | number s m i =>
      rw [hx'] at h' hs
      cases hy' : single.read y with
      | nan t u => rw [hy'] at h'; cases h'
      | infinity t => rw [hy'] at h'; cases t <;> simp [Datum.order] at h'
      | number t n j =>
        rw [hy'] at h' hs
        cases hs
        simp only [Datum.order, Option.some.injEq, Int.compare_eq_eq] at h'
        have hk : m <<< (i - min i j).toNat = n <<< (j - min i j).toNat := by
          change signed s m _ = signed s n _ at h'
          unfold signed at h'
          cases s <;> simp only [Bool.false_eq_true, if_false, if_true] at h' <;> omega
        obtain ⟨rfl, rfl⟩ := same_number (s := s) (canon hx') (canon hy') hk
        rfl
  · cases hx' : single.read x with
    | nan s t => rw [hx'] at h'; cases h'
    | _ => rfl
end Go.Proofs.Ytobheippncjjiaa
