/-
  Pairs of numbers in their order: a row of pairs that is moved about and in order is one list. (Plain.)
-/
import Derived.Test.YthdnelfggmlalaaPdqP
namespace Go.Proofs.Ythdnelfggmlalaa
open Go.RowKit

/-- A pair comes ahead of another. -/
def ltP (x y : Int × Int) : Bool := decide (x.1 < y.1 ∨ x.1 = y.1 ∧ x.2 < y.2)
theorem ltP_less : Less ltP where
  asym := fun x y h => by
    unfold ltP at h ⊢
    have := of_decide_eq_true h
    exact decide_eq_false (by omega)
  tr := fun x y z h k => by
    unfold ltP at h k ⊢
    have h1 := of_decide_eq_false h
    have h2 := of_decide_eq_false k
    exact decide_eq_false (by omega)
theorem ltP_total {x y : Int × Int} (h : ltP x y = false) (k : ltP y x = false) : x = y := by
  unfold ltP at h k
  have h1 := of_decide_eq_false h
  have h2 := of_decide_eq_false k
  exact Prod.ext (by omega) (by omega)

/-- The pairs of a list (a last odd number is left out). -/
def pairsOf : List Int → List (Int × Int)
  | a :: b :: l => (a, b) :: pairsOf l
  | _ => []
/-- The list of some pairs. -/
def flatP : List (Int × Int) → List Int
  | [] => []
  | p :: l => p.1 :: p.2 :: flatP l
theorem flatP_len (ps : List (Int × Int)) : (flatP ps).length = 2 * ps.length := by
  induction ps with
  | nil => rfl
  | cons p l ih => simp only [flatP, List.length_cons, ih]; omega
theorem flatP_pairs : ∀ {xs : List Int} {n : Nat}, xs.length = 2 * n → flatP (pairsOf xs) = xs
  | [], _, _ => rfl
  | [a], n, h => by simp only [List.length_cons, List.length_nil] at h; omega
  | a :: b :: l, n, h => by
    simp only [pairsOf, flatP]
    rw [flatP_pairs (xs := l) (n := n - 1) (by simp only [List.length_cons] at h; omega)]
theorem pairs_flat (ps : List (Int × Int)) : pairsOf (flatP ps) = ps := by
  induction ps with
  | nil => rfl
  | cons p l ih => simp only [flatP, pairsOf, ih]
theorem pairs_len {xs : List Int} {n : Nat} (h : xs.length = 2 * n) : (pairsOf xs).length = n := by
  have := flatP_len (pairsOf xs)
  rw [flatP_pairs h, h] at this
  omega
theorem flatP_app (ps qs : List (Int × Int)) : flatP (ps ++ qs) = flatP ps ++ flatP qs := by
  induction ps with
  | nil => rfl
  | cons p l ih => simp only [flatP, List.cons_append, ih]
theorem flatP_at : ∀ {ps : List (Int × Int)} {k : Nat} {p : Int × Int}, ps[k]? = some p → (flatP ps)[2 * k]? = some p.1 ∧ (flatP ps)[2 * k + 1]? = some p.2
  | [], _, _, h => by simp at h
  | q :: l, 0, p, h => by
    simp only [List.getElem?_cons_zero, Option.some.injEq] at h
    subst h
    exact ⟨rfl, rfl⟩
  | q :: l, k + 1, p, h => by
    rw [List.getElem?_cons_succ] at h
    have := flatP_at h
    rw [show 2 * (k + 1) = 2 * k + 1 + 1 by omega]
    simp only [flatP, List.getElem?_cons_succ]
    exact this
theorem flatP_set : ∀ {ps : List (Int × Int)} {k : Nat} (p : Int × Int), k < ps.length → flatP (ps.set k p) = ((flatP ps).set (2 * k) p.1).set (2 * k + 1) p.2
  | [], _, _, h => by simp at h
  | q :: l, 0, p, _ => rfl
  | q :: l, k + 1, p, h => by
    rw [show 2 * (k + 1) = 2 * k + 1 + 1 by omega]
    simp only [flatP, List.set_cons_succ]
    rw [flatP_set p (by simpa using h)]
/-- A pair with the lesser number first. -/
def normP (p : Int × Int) : Int × Int := if p.1 > p.2 then (p.2, p.1) else p
theorem normP_norm (p : Int × Int) : normP (normP p) = normP p := by
  unfold normP
  by_cases h : p.1 > p.2
  · rw [if_pos h]
    exact if_neg (by simp; omega)
  · rw [if_neg h, if_neg h]
/-- The pairs of a list, each with the lesser number first, in their order. -/
def inOrd (xs : List Int) : List Int := flatP (((pairsOf xs).map normP).mergeSort (fun x y => !ltP y x))

theorem sr_pairwise {zs : List (Int × Int)} {n : Nat} (hn : n = zs.length) (h : SR ltP 0 n zs) : zs.Pairwise (fun x y => ltP y x = false) := by
  subst hn
  rw [List.pairwise_iff_getElem]
  intro i j hi hj hij
  exact h i j _ _ (Nat.zero_le _) hij hj (List.getElem?_eq_getElem hi) (List.getElem?_eq_getElem hj)
/-- What is in order and holds the pairs is their list. -/
theorem inOrd_of {zs : List (Int × Int)} {xs : List Int} (hp : zs.Perm ((pairsOf xs).map normP)) (hs : zs.Pairwise (fun x y => ltP y x = false)) : flatP zs = inOrd xs := by
  unfold inOrd
  congr 1
  have h2 : (((pairsOf xs).map normP).mergeSort (fun x y => !ltP y x)).Pairwise (fun x y => ltP y x = false) := by
    have := List.pairwise_mergeSort (le := fun x y => !ltP y x) (fun a b c h1 h2 => by
      simp only [Bool.not_eq_true'] at h1 h2 ⊢
      exact ltP_less.tr _ _ _ h2 h1) (fun a b => by
      cases h : ltP b a
      · simp
      · rw [ltP_less.asym _ _ h]; simp) ((pairsOf xs).map normP)
    exact this.imp fun h => by simpa using h
  exact List.Perm.eq_of_pairwise (fun a b _ _ h k => ltP_total k h) hs h2 (hp.trans (List.mergeSort_perm _ _).symm)

section
variable {α : Type} {lt : α → α → Bool}
/-- Within a row that is in order but for the place j. -/
structure InsG (lt : α → α → Bool) (a i j : Nat) (zs : List α) : Prop where
  rest : ∀ p q x y, a ≤ p → p < q → q ≤ i → p ≠ j → q ≠ j → zs[p]? = some x → zs[q]? = some y → lt y x = false
  up : ∀ q x y, j < q → q ≤ i → zs[j]? = some x → zs[q]? = some y → lt y x = false
theorem InsG.start {a i : Nat} {zs : List α} (h : SR lt a i zs) : InsG lt a i i zs :=
  ⟨fun p q x y h1 h2 h3 _ h5 => h p q x y h1 h2 (by omega), fun q x y h1 h2 => by omega⟩
theorem InsG.step (L : Less lt) {a i j : Nat} {zs : List α} {x y : α} (h : InsG lt a i (j + 1) zs) (hj : a ≤ j) (hi : j + 1 ≤ i) (hx : zs[j + 1]? = some x) (hy : zs[j]? = some y) (hl : lt x y = true) : InsG lt a i j (sw zs (j + 1) j x y) := by
  constructor
  · intro p q u v h1 h2 h3 h4 h5 hu hv
    rw [sw_get hx hy, if_neg h4] at hu
    rw [sw_get hx hy, if_neg h5] at hv
    by_cases e1 : p = j + 1
    · subst e1
      rw [if_pos rfl] at hu
      cases hu
      rw [if_neg (by omega)] at hv
      exact h.rest j q _ v hj (by omega) h3 (by omega) (by omega) hy hv
    · rw [if_neg e1] at hu
      by_cases e2 : q = j + 1
      · subst e2
        rw [if_pos rfl] at hv
        cases hv
        exact h.rest p j u _ h1 (by omega) (by omega) e1 (by omega) hu hy
      · rw [if_neg e2] at hv
        exact h.rest p q u v h1 h2 h3 e1 e2 hu hv
  · intro q u v h1 h2 hu hv
    rw [sw_get hx hy, if_pos rfl] at hu
    cases hu
    rw [sw_get hx hy, if_neg (by omega)] at hv
    by_cases e2 : q = j + 1
    · subst e2
      rw [if_pos rfl] at hv
      cases hv
      exact L.asym _ _ hl
    · rw [if_neg e2] at hv
      exact h.up q x v (by omega) h2 hx hv
theorem InsG.done (L : Less lt) {a i j : Nat} {zs : List α} (h : InsG lt a i j zs) (hd : j = a ∨ ∀ x y, zs[j]? = some x → zs[j - 1]? = some y → lt x y = false) (haj : a ≤ j) (hil : i < zs.length) : SR lt a (i + 1) zs := by
  intro p q u v h1 h2 h3 hu hv
  by_cases e1 : q = j
  · subst e1
    rcases hd with e | hd
    · omega
    · obtain ⟨y, hy⟩ := get_ex (xs := zs) (i := q - 1) (by omega)
      have hvy := hd v y hv hy
      by_cases e2 : p = q - 1
      · subst e2
        rw [hu] at hy
        cases hy
        exact hvy
      · exact L.tr _ _ _ hvy (h.rest p (q - 1) u y h1 (by omega) (by omega) (by omega) (by omega) hu hy)
  · by_cases e2 : p = j
    · subst e2
      exact h.up q u v h2 (by omega) hu hv
    · exact h.rest p q u v h1 h2 (by omega) e2 e1 hu hv
end

/-- What sorting by exchanges has brought about: the first I pairs have their lesser numbers first and are in order. -/
structure SortI (ps zs : List (Int × Int)) (I : Nat) : Prop where
  perm : (zs.map normP).Perm (ps.map normP)
  norm : ∀ j p, j < I → zs[j]? = some p → normP p = p
theorem SortI.start (ps : List (Int × Int)) : SortI ps ps 0 := ⟨List.Perm.refl _, fun _ _ h => by omega⟩
theorem SortI.len {ps zs : List (Int × Int)} {I : Nat} (h : SortI ps zs I) : zs.length = ps.length := by simpa using h.perm.length_eq
theorem SortI.put {ps zs : List (Int × Int)} {I : Nat} {p : Int × Int} (h : SortI ps zs I) (hp : zs[I]? = some p) : SortI ps (zs.set I (normP p)) (I + 1) := by
  have e : (zs.set I (normP p)).map normP = zs.map normP := by
    rw [List.map_set, normP_norm]
    apply List.ext_getElem?
    intro k
    rw [List.getElem?_set]
    split
    · rename_i e
      subst e
      have hl := get_lt hp
      rw [if_pos (by simpa using hl), List.getElem?_map, hp]
      rfl
    · rfl
  refine ⟨by rw [e]; exact h.perm, fun j q hj hq => ?_⟩
  rw [List.getElem?_set] at hq
  split at hq
  · split at hq
    · cases hq; exact normP_norm _
    · cases hq
  · exact h.norm j q (by omega) hq
theorem SortI.sw {ps zs : List (Int × Int)} {I i j : Nat} {x y : Int × Int} (h : SortI ps zs I) (hx : zs[i]? = some x) (hy : zs[j]? = some y) (hi : i < I) (hj : j < I) : SortI ps (sw zs i j x y) I := by
  refine ⟨((sw_perm hx hy).map normP).trans h.perm, fun k q hk hq => ?_⟩
  rw [sw_get hx hy] at hq
  split at hq
  · cases hq; exact h.norm i x hi hx
  · split at hq
    · cases hq; exact h.norm j y hj hy
    · exact h.norm k q hk hq
theorem SortI.done {zs : List (Int × Int)} {xs : List Int} {I : Nat} (h : SortI (pairsOf xs) zs I) (hI : zs.length ≤ I) (hs : SR ltP 0 I zs) : flatP zs = inOrd xs := by
  have e : zs.map normP = zs := by
    apply List.ext_getElem?
    intro k
    rw [List.getElem?_map]
    cases hk : zs[k]? with
    | none => rfl
    | some p => exact congrArg some (h.norm k p (by have := get_lt hk; omega) hk)
  have hp := h.perm
  rw [e] at hp
  exact inOrd_of hp (sr_pairwise rfl (hs.sub (Nat.le_refl _) hI))
theorem inOrd_len {xs : List Int} {n : Nat} (h : xs.length = 2 * n) : (inOrd xs).length = 2 * n := by
  unfold inOrd
  rw [flatP_len, List.length_mergeSort, List.length_map, pairs_len h]
theorem sr_set {zs : List (Int × Int)} {I : Nat} {p : Int × Int} (h : SR ltP 0 I zs) : SR ltP 0 I (zs.set I p) := h.same fun i _ hi => by rw [List.getElem?_set_ne (by omega)]
end Go.Proofs.Ythdnelfggmlalaa
