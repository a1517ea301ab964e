/-
  Orders, plainly: a list is an order just if it is the numbers from 0 on once it is sorted; an order led back from its cycles.
-/
import Derived.Test.YthdnelfggmlalaaGrW
namespace Go.Proofs.Ythdnelfggmlalaa
open Go.RowKit

theorem inc_len : ∀ {l : List Int} {b c : Int}, l.Pairwise (fun x y => x < y) → (∀ x ∈ l, b ≤ x ∧ x < c) → b ≤ c → (l.length : Int) ≤ c - b
  | [], b, c, _, _, h => by simp; omega
  | x :: t, b, c, hp, hx, h => by
    obtain ⟨h1, h2⟩ := List.pairwise_cons.1 hp
    have hb := hx x (by simp)
    have ih := inc_len (b := x + 1) (c := c) h2 (fun y hy => ⟨by have := h1 y hy; omega, (hx y (by simp [hy])).2⟩) (by omega)
    simp only [List.length_cons]
    omega
theorem inc_all : ∀ {l : List Int} {a : Int}, l.Pairwise (fun x y => x < y) → (∀ x ∈ l, a ≤ x ∧ x < a + l.length) → l = (List.range l.length).map fun k : Nat => a + (k : Int)
  | [], a, _, _ => rfl
  | x :: t, a, hp, hx => by
    obtain ⟨h1, h2⟩ := List.pairwise_cons.1 hp
    have hb := hx x (by simp)
    simp only [List.length_cons] at hb hx ⊢
    have hl := inc_len (b := x + 1) (c := a + ((t.length + 1 : Nat) : Int)) h2 (fun y hy => ⟨by have := h1 y hy; omega, (hx y (by simp [hy])).2⟩) (by omega)
    have hxa : x = a := by omega
    subst hxa
    have ih := inc_all (a := x + 1) h2 (fun y hy => ⟨by have := h1 y hy; omega, by have := (hx y (by simp [hy])).2; omega⟩)
    rw [List.range_succ_eq_map, List.map_cons, List.map_map]
    congr 1
    · simp
    · conv => lhs; rw [ih]
      refine List.map_congr_left fun k _ => ?_
      simp only [Function.comp]
      push_cast
      omega
def srt (l : List Int) : List Int := l.mergeSort fun x y => decide (x ≤ y)
theorem srt_perm (l : List Int) : (srt l).Perm l := List.mergeSort_perm _ _
theorem srt_len (l : List Int) : (srt l).length = l.length := (srt_perm l).length_eq
theorem srt_up (l : List Int) : (srt l).Pairwise (fun x y => x ≤ y) :=
  (List.pairwise_mergeSort (le := fun x y : Int => decide (x ≤ y)) (fun a b c h1 h2 => by simp only [decide_eq_true_eq] at *; omega) (fun a b => by simp only [Bool.or_eq_true, decide_eq_true_eq]; omega) l).imp (fun h => of_decide_eq_true h)
theorem numI_mem {n : Nat} {x : Int} : x ∈ numI n ↔ 0 ≤ x ∧ x < n := by
  unfold numI
  rw [List.mem_map]
  constructor
  · rintro ⟨k, hk, rfl⟩
    have := List.mem_range.1 hk
    omega
  · intro h
    exact ⟨x.toNat, List.mem_range.2 (by omega), by omega⟩
theorem numI_nodup (n : Nat) : (numI n).Nodup := by
  unfold numI List.Nodup
  rw [List.pairwise_map]
  exact List.nodup_range.imp (fun h e => h (by omega))
def isOrd (l : List Int) : Bool := inB l.length 1 64 && (l.all (fun x => inB x 0 ((l.length : Int) - 1)) && decide l.Nodup)
theorem isOrd_srt (l : List Int) : isOrd l = (inB l.length 1 64 && decide (srt l = numI l.length)) := by
  unfold isOrd
  congr 1
  rw [Bool.eq_iff_iff, Bool.and_eq_true, List.all_eq_true, decide_eq_true_eq, decide_eq_true_eq]
  constructor
  · rintro ⟨h1, h2⟩
    have hn : (srt l).Nodup := (srt_perm l).nodup_iff.2 h2
    have hlt : (srt l).Pairwise (fun x y => x < y) := ((srt_up l).and hn).imp (fun h => by have := h.1; have := h.2; omega)
    have := inc_all (a := 0) hlt (fun x hx => by
      have h := h1 x ((srt_perm l).mem_iff.1 hx)
      simp only [inB, decide_eq_true_eq] at h
      rw [srt_len]; omega)
    rw [this, srt_len]
    unfold numI
    refine List.map_congr_left fun k _ => by omega
  · intro h
    have hp : l.Perm (numI l.length) := by rw [← h]; exact (srt_perm l).symm
    refine ⟨fun x hx => ?_, hp.nodup_iff.2 (numI_nodup _)⟩
    have := numI_mem.1 (hp.mem_iff.1 hx)
    simp only [inB, decide_eq_true_eq]
    omega
theorem isOrd_parts {l : List Int} (h : isOrd l = true) : 1 ≤ l.length ∧ l.length ≤ 64 ∧ ∀ x ∈ l, 0 ≤ x ∧ x < l.length := by
  unfold isOrd at h
  simp only [Bool.and_eq_true, List.all_eq_true, inB, decide_eq_true_eq] at h
  refine ⟨by omega, by omega, fun x hx => ?_⟩
  have := h.2.1 x hx
  omega

/-! ### led back from cycles -/
def cycTo (c o : List Int) : Nat → List Int
  | 0 => o
  | i + 1 => (cycTo c o i).set ((c[i]?).getD 0).toNat ((c[(i + 1) % c.length]?).getD 0)
def ordTo (XS : List (List Int)) (n : Nat) : Nat → List Int
  | 0 => List.replicate n 0
  | k + 1 => cycTo ((XS[k]?).getD []) (ordTo XS n k) ((XS[k]?).getD []).length
theorem cycTo_len (c o : List Int) : ∀ i, (cycTo c o i).length = o.length
  | 0 => rfl
  | i + 1 => by simp only [cycTo, List.length_set]; exact cycTo_len c o i
theorem ordTo_len (XS : List (List Int)) (n : Nat) : ∀ k, (ordTo XS n k).length = n
  | 0 => by simp [ordTo]
  | k + 1 => by simp only [ordTo]; rw [cycTo_len, ordTo_len XS n k]
theorem ordTo_succ {XS : List (List Int)} {n k : Nat} {c : List Int} (h : XS[k]? = some c) : ordTo XS n (k + 1) = cycTo c (ordTo XS n k) c.length := by simp [ordTo, h]
theorem cycTo_succ {c o : List Int} {i : Nat} {x y : Int} (hx : c[i]? = some x) (hy : c[(i + 1) % c.length]? = some y) : cycTo c o (i + 1) = (cycTo c o i).set x.toNat y := by simp [cycTo, hx, hy]
/-- Whether cycles lead back to an order of n numbers. -/
def cycB (XS : List (List Int)) (n : Int) : Bool := decide ((XS.flatten.length : Int) = n) && isOrd XS.flatten && !(XS.any fun c => decide (c.length = 0))
def cycR (XS : List (List Int)) (n : Int) : List Int := if cycB XS n then ordTo XS n.toNat XS.length else []
theorem flat_take_le (XS : List (List Int)) (k : Nat) : (XS.take k).flatten.length ≤ XS.flatten.length := by
  conv => rhs; rw [← List.take_append_drop k XS, List.flatten_append, List.length_append]
  omega
theorem cyc_snoc {XS : List (List Int)} {k : Nat} {c : List Int} (h : XS[k]? = some c) : (XS.take (k + 1)).flatten = (XS.take k).flatten ++ c := by rw [take_snoc h, List.flatten_append]; simp
theorem mem_flat {XS : List (List Int)} {k i : Nat} {c : List Int} {x : Int} (h : XS[k]? = some c) (hx : c[i]? = some x) : x ∈ XS.flatten := List.mem_flatten.2 ⟨c, List.mem_of_getElem? h, List.mem_of_getElem? hx⟩
theorem cycR_len (XS : List (List Int)) (n : Int) : (cycR XS n).length ≤ 64 := by
  unfold cycR
  split
  · rename_i h
    rw [ordTo_len]
    unfold cycB at h
    simp only [Bool.and_eq_true, decide_eq_true_eq] at h
    have := isOrd_parts h.1.2
    omega
  · simp
end Go.Proofs.Ythdnelfggmlalaa
