/-
  Signed tails: what the reference's table of ways holds; two rows that grow in turn.
-/
import Derived.Test.YtmhmekfbnaafmaaSgnP
import Derived.Test.YtmhmekfbnaafmaaApp
namespace Go.Proofs.Ytmhmekfbnaafmaa
open Go.RowKit Go.Maps

theorem szs_snoc (l : List Int) (x : Int) : szs (l ++ [x]) = if x = 0 then szs l else szs l ++ [max x (-x)] := by
  unfold szs
  rw [nz_snoc]
  by_cases h : x = 0
  · rw [if_pos h, if_pos h]
  · rw [if_neg h, if_neg h]; simp [aI]
theorem mor_snoc (l : List Int) (x : Int) : mor (l ++ [x]) = if x = 0 then mor l else mor l ++ [decide (0 < x)] := by
  unfold mor
  rw [nz_snoc]
  by_cases h : x = 0
  · rw [if_pos h, if_pos h]
  · rw [if_neg h, if_neg h]; simp
/-! ### sums of ranks -/
theorem sumW_bd {rs : List Int} (h : ∀ r ∈ rs, 1 ≤ r ∧ r ≤ 81) (hn : rs.length ≤ 40) : 0 ≤ sumW rs ∧ sumW rs ≤ 81 * rs.length := by
  have H : ∀ k, k ≤ rs.length → 0 ≤ sumW (rs.take k) ∧ sumW (rs.take k) ≤ 81 * k := by
    intro k
    induction k with
    | zero => intro _; simp [sumW]
    | succ k ih =>
      intro hk
      obtain ⟨r, hr⟩ := get_of_lt (xs := rs) (k := k) (by omega)
      have := ih (by omega)
      have hb := h r (List.mem_of_getElem? hr)
      rw [take_snoc hr, sumW_snoc]
      unfold wrap64; omega
  have := H rs.length (Nat.le_refl _)
  rwa [List.take_length] at this
theorem own_le_sum {ms : List Bool} {rs : List Int} (h : ∀ r ∈ rs, 1 ≤ r ∧ r ≤ 81) (hn : rs.length ≤ 40) : ownTo ms rs rs.length ≤ sumW rs := by
  have H : ∀ k, k ≤ rs.length → ownTo ms rs k ≤ sumW (rs.take k) ∧ 0 ≤ ownTo ms rs k ∧ sumW (rs.take k) ≤ 81 * k := by
    intro k
    induction k with
    | zero => intro _; simp [sumW, ownTo]
    | succ k ih =>
      intro hk
      obtain ⟨r, hr⟩ := get_of_lt (xs := rs) (k := k) (by omega)
      have := ih (by omega)
      have hb := h r (List.mem_of_getElem? hr)
      rw [take_snoc hr, sumW_snoc]
      unfold ownTo
      rw [hr]
      simp only [Option.getD_some]
      split <;> (unfold wrap64; omega)
  have := (H rs.length (Nat.le_refl _)).1
  rwa [List.take_length] at this
/-! ### the table -/
def dpA (f : Int → Int) (M : Nat) : List Int := (List.range (M + 1)).map fun k : Nat => f (k : Int)
def dpI (f : Int → Int) (r : Int) (M x : Nat) : List Int := (List.range (M + 1)).map fun k : Nat => if x < k then stepF f r (k : Int) else f (k : Int)
theorem dpI_len (f : Int → Int) (r : Int) (M x : Nat) : (dpI f r M x).length = M + 1 := by simp [dpI]
theorem dpA_len (f : Int → Int) (M : Nat) : (dpA f M).length = M + 1 := by simp [dpA]
theorem dpA_at {f : Int → Int} {M k : Nat} (h : k ≤ M) : (dpA f M)[k]? = some (f k) := by
  unfold dpA; rw [List.getElem?_map, List.getElem?_range (by omega)]; rfl
theorem dpI_at {f : Int → Int} {r : Int} {M x k : Nat} (h : k ≤ x) (hx : x ≤ M) : (dpI f r M x)[k]? = some (f k) := by
  unfold dpI; rw [List.getElem?_map, List.getElem?_range (by omega)]; simp; omega
theorem dpI_start (f : Int → Int) (r : Int) (M : Nat) : dpI f r M M = dpA f M := by
  unfold dpI dpA
  refine List.map_congr_left fun k hk => ?_
  rw [if_neg (by have := List.mem_range.1 hk; omega)]
theorem dpI_end {f : Int → Int} {r : Int} {M x : Nat} (hx : (x : Int) < r) (hf : ∀ s, s < 0 → f s = 0) (hi : ∀ s, inI (f s)) : dpI f r M x = dpA (stepF f r) M := by
  unfold dpI dpA
  refine List.map_congr_left fun k hk => ?_
  by_cases h : x < k
  · rw [if_pos h]
  · rw [if_neg h]
    unfold stepF
    rw [hf (k - r) (by omega)]
    have := hi k
    unfold inI at this
    unfold wrap64; omega
theorem dpI_step {f : Int → Int} {r : Int} {M x : Nat} (hx : x + 1 ≤ M) : (dpI f r M (x + 1)).set (x + 1) (stepF f r ((x : Int) + 1)) = dpI f r M x := by
  apply List.ext_getElem?
  intro k
  rw [List.getElem?_set, dpI_len]
  by_cases h : x + 1 = k
  · subst h
    rw [if_pos rfl, if_pos (by omega)]
    unfold dpI
    rw [List.getElem?_map, List.getElem?_range (by omega)]
    simp
  · rw [if_neg h]
    unfold dpI
    rw [List.getElem?_map, List.getElem?_map]
    rcases Nat.lt_or_ge k (M + 1) with hk | hk
    · rw [List.getElem?_range hk]
      simp only [Option.map_some, Option.some.injEq]
      by_cases h2 : x < k
      · rw [if_pos h2, if_pos (by omega)]
      · rw [if_neg h2, if_neg (by omega)]
    · rw [List.getElem?_eq_none (by simpa using hk)]
      rfl
theorem dpA_start (M : Nat) : (List.replicate (M + 1) (0 : Int)).set 0 1 = dpA ways0 M := by
  apply List.ext_getElem?
  intro k
  rw [List.getElem?_set]
  unfold dpA
  rw [List.getElem?_map, List.length_replicate, List.getElem?_replicate]
  rcases Nat.lt_or_ge k (M + 1) with hk | hk
  · rw [List.getElem?_range hk]
    by_cases h : 0 = k
    · subst h; simp [ways0]
    · rw [if_neg h, if_pos hk]
      simp [ways0]; omega
  · rw [List.getElem?_eq_none (by simpa using hk), if_neg (by omega), if_neg (by omega)]
    rfl

theorem rd_one_drew {α : Type} (f : α → Value) (w : World) (x : α) (E : TypeId) : Rd f (w.alloc (.cells #[f x] E)).drew (.slice (some ⟨w.heap.size, 0, none⟩) 1 1) [x] := rd_one f w x E

/-! ### two rows that grow in turn -/
section
variable {α β : Type} {f : α → Value} {f' : β → Value} {E E' : TypeId} {w w1 w2 w3 : World} {base : Nat} {v0 v1 u0 u1 : Value} {x0 y0 : List α} {x1 z1 : List β}
theorem rows_in_turn (o1 : Own f' E' w base v1 x1) (ap : v0.ownBlock = none ∨ v0.ownBlock ≠ v1.ownBlock) (ho : Own f E w1 base u0 y0) (hg : w.grownBy w1 v0.ownBlock) (hp : u0.ownBlock = v0.ownBlock ∨ u0.ownBlock = some w.heap.size) (hb : Below w1.heap.size w1 w2)
    (_ho' : Own f' E' w3 base u1 z1) (hg' : w2.grownBy w3 v1.ownBlock) (hp' : u1.ownBlock = v1.ownBlock ∨ u1.ownBlock = some w2.heap.size) :
    Own f E w3 base u0 y0 ∧ (u0.ownBlock = none ∨ u0.ownBlock ≠ u1.ownBlock) := by
  have hz1 := hg.size
  have hz2 := hb.size
  have a0 : ∀ a, u0.ownBlock = some a → base ≤ a ∧ a < w1.heap.size := fun a e => ho.lt a e
  have ap1 : u0.ownBlock = none ∨ u0.ownBlock ≠ v1.ownBlock := by
    cases hu : u0.ownBlock with
    | none => exact .inl rfl
    | some a =>
      refine .inr fun e => ?_
      have hl := (o1.lt a e.symm).2
      rcases hp with e' | e'
      · rcases ap with k | k
        · rw [hu, k] at e'; cases e'
        · exact k (e'.symm.trans (hu.trans e))
      · rw [hu] at e'; injection e' with e'; omega
  refine ⟨(ho.below hb).kept hg' ap1, ?_⟩
  cases hu : u0.ownBlock with
  | none => exact .inl rfl
  | some a =>
    refine .inr fun e => ?_
    rcases hp' with e' | e'
    · rcases ap1 with k | k
      · rw [hu] at k; cases k
      · exact k (hu.trans (e.trans e'))
    · rw [← e] at e'
      injection e' with e'
      have := (a0 a hu).2
      omega
/-- The second row is kept while the first one grows. -/
theorem row_beside (o1 : Own f' E' w base v1 x1) (ap : v0.ownBlock = none ∨ v0.ownBlock ≠ v1.ownBlock) (hg : w.grownBy w1 v0.ownBlock) : Own f' E' w1 base v1 x1 :=
  World.ownsRow.kept o1 hg (by
    cases h : v1.ownBlock with
    | none => exact .inl rfl
    | some a =>
      refine .inr fun e => ?_
      rcases ap with k | k
      · rw [← e] at k; cases k
      · exact k (e.symm.trans h.symm))
end
end Go.Proofs.Ytmhmekfbnaafmaa
