/-
  Sorting by exchanges within a range: what stays, what is in order. (For any order that is told by 'less'.)
  A heap within a row: what sifting keeps. (Plain.)
-/
import Derived.Test.YtjajlddnhmbekaaGreatBase
namespace Go.Proofs.YtjajlddnhmbekaaGreat
section
open Go.RowKit

section
variable {α : Type}
/-- A total order up to equals, told by 'less'. -/
structure Less (lt : α → α → Bool) : Prop where
  asym : ∀ x y, lt x y = true → lt y x = false
  tr : ∀ x y z, lt x y = false → lt y z = false → lt x z = false
theorem Less.irr {lt : α → α → Bool} (h : Less lt) (x : α) : lt x x = false := by
  cases e : lt x x with
  | false => rfl
  | true => exact absurd (h.asym x x e) (by rw [e]; simp)

/-- ys is xs with what lies from a to b moved about. -/
structure PR (a b : Nat) (xs ys : List α) : Prop where
  perm : ys.Perm xs
  out : ∀ i, i < a ∨ b ≤ i → ys[i]? = xs[i]?
theorem PR.refl (a b : Nat) (xs : List α) : PR a b xs xs := ⟨List.Perm.refl _, fun _ _ => rfl⟩
theorem PR.trans {a b : Nat} {xs ys zs : List α} (h : PR a b xs ys) (k : PR a b ys zs) : PR a b xs zs := ⟨k.perm.trans h.perm, fun i hi => (k.out i hi).trans (h.out i hi)⟩
theorem PR.mono {a b a' b' : Nat} {xs ys : List α} (h : PR a b xs ys) (ha : a' ≤ a) (hb : b ≤ b') : PR a' b' xs ys := ⟨h.perm, fun i hi => h.out i (by omega)⟩
theorem PR.len {a b : Nat} {xs ys : List α} (h : PR a b xs ys) : ys.length = xs.length := h.perm.length_eq
theorem get_lt {xs : List α} {i : Nat} {x : α} (h : xs[i]? = some x) : i < xs.length := (List.getElem?_eq_some_iff.1 h).1
theorem get_ex {xs : List α} {i : Nat} (h : i < xs.length) : ∃ x, xs[i]? = some x := ⟨xs[i], List.getElem?_eq_getElem h⟩
theorem split3 (xs : List α) {a b : Nat} (hab : a ≤ b) : xs = xs.take a ++ ((xs.drop a).take (b - a) ++ xs.drop b) := by
  have h : xs.drop b = (xs.drop a).drop (b - a) := by rw [List.drop_drop]; congr 1; omega
  rw [h, List.take_append_drop, List.take_append_drop]
/-- The middle is the same up to its order. -/
theorem PR.mid {a b : Nat} {xs ys : List α} (h : PR a b xs ys) (hab : a ≤ b) : ((ys.drop a).take (b - a)).Perm ((xs.drop a).take (b - a)) := by
  have e1 : ys.take a = xs.take a := by
    apply List.ext_getElem?
    intro i
    rw [List.getElem?_take, List.getElem?_take]
    split
    · exact h.out i (.inl (by assumption))
    · rfl
  have e2 : ys.drop b = xs.drop b := by
    apply List.ext_getElem?
    intro i
    rw [List.getElem?_drop, List.getElem?_drop]
    exact h.out _ (.inr (by omega))
  have hp := h.perm
  rw [split3 ys hab, split3 xs hab, e1, e2] at hp
  exact (List.perm_append_right_iff _).1 ((List.perm_append_left_iff _).1 hp)
theorem PR.mem {a b : Nat} {xs ys : List α} (h : PR a b xs ys) {i : Nat} {y : α} (ha : a ≤ i) (hb : i < b) (hy : ys[i]? = some y) : ∃ j, a ≤ j ∧ j < b ∧ xs[j]? = some y := by
  have hm : y ∈ (ys.drop a).take (b - a) := by
    rw [List.mem_take_iff_getElem]
    have hi := get_lt hy
    refine ⟨i - a, by rw [List.length_drop]; omega, ?_⟩
    rw [List.getElem_drop]
    have e : a + (i - a) = i := by omega
    have := (List.getElem?_eq_some_iff.1 hy).2
    simp only [e]
    exact this
  have hm2 := (h.mid (by omega)).mem_iff.1 hm
  rw [List.mem_take_iff_getElem] at hm2
  obtain ⟨j, hj, e⟩ := hm2
  rw [List.length_drop] at hj
  refine ⟨a + j, by omega, by omega, ?_⟩
  rw [List.getElem_drop] at e
  rw [List.getElem?_eq_getElem (by omega), e]
/-- What holds of all of a range holds of all of it, moved about. -/
theorem PR.all {a b : Nat} {xs ys : List α} (h : PR a b xs ys) {p : α → Prop} (hp : ∀ j x, a ≤ j → j < b → xs[j]? = some x → p x) : ∀ j x, a ≤ j → j < b → ys[j]? = some x → p x := fun j x ha hb hx => by
  obtain ⟨j', h1, h2, h3⟩ := h.mem ha hb hx
  exact hp j' x h1 h2 h3

/-- Two exchanged. -/
def sw (xs : List α) (i j : Nat) (x y : α) : List α := (xs.set i y).set j x
theorem sw_len (xs : List α) (i j : Nat) (x y : α) : (sw xs i j x y).length = xs.length := by simp [sw]
theorem sw_get {xs : List α} {i j : Nat} {x y : α} (hi : xs[i]? = some x) (hj : xs[j]? = some y) (k : Nat) : (sw xs i j x y)[k]? = if k = j then some x else if k = i then some y else xs[k]? := by
  unfold sw
  have h1 := get_lt hi
  have h2 := get_lt hj
  rw [List.getElem?_set, List.getElem?_set]
  by_cases e : j = k
  · subst e
    rw [if_pos rfl, if_pos (by simpa using h2), if_pos rfl]
  · have e' : ¬ k = j := fun h => e h.symm
    rw [if_neg e, if_neg e']
    by_cases e2 : i = k
    · subst e2
      rw [if_pos rfl, if_pos h1, if_pos rfl]
    · have e2' : ¬ k = i := fun h => e2 h.symm
      rw [if_neg e2, if_neg e2']
theorem sw_perm {xs : List α} {i j : Nat} {x y : α} (hi : xs[i]? = some x) (hj : xs[j]? = some y) : (sw xs i j x y).Perm xs := by
  obtain ⟨h1, e1⟩ := List.getElem?_eq_some_iff.1 hi
  obtain ⟨h2, e2⟩ := List.getElem?_eq_some_iff.1 hj
  unfold sw
  rw [← e1, ← e2]
  exact List.set_set_perm h1 h2
theorem PR.sw {a b : Nat} {xs : List α} {i j : Nat} {x y : α} (hi : xs[i]? = some x) (hj : xs[j]? = some y) (h1 : a ≤ i) (h2 : i < b) (h3 : a ≤ j) (h4 : j < b) : PR a b xs (sw xs i j x y) :=
  ⟨sw_perm hi hj, fun k hk => by rw [sw_get hi hj, if_neg (by omega), if_neg (by omega)]⟩

/-- In order from a to b. -/
def SR (lt : α → α → Bool) (a b : Nat) (ys : List α) : Prop := ∀ i j x y, a ≤ i → i < j → j < b → ys[i]? = some x → ys[j]? = some y → lt y x = false
theorem SR.small {lt : α → α → Bool} {a b : Nat} {ys : List α} (h : b ≤ a + 1) : SR lt a b ys := fun i j x y h1 h2 h3 => by omega
theorem SR.sub {lt : α → α → Bool} {a b a' b' : Nat} {ys : List α} (h : SR lt a b ys) (ha : a ≤ a') (hb : b' ≤ b) : SR lt a' b' ys := fun i j x y h1 h2 h3 => h i j x y (by omega) h2 (by omega)
theorem SR.same {lt : α → α → Bool} {a b : Nat} {ys zs : List α} (h : SR lt a b ys) (e : ∀ i, a ≤ i → i < b → zs[i]? = ys[i]?) : SR lt a b zs := fun i j x y h1 h2 h3 hx hy =>
  h i j x y h1 h2 h3 ((e i h1 (by omega)).symm.trans hx) ((e j (by omega) h3).symm.trans hy)

/-- All pairs are in order but those that lie in the inner range. -/
def Out (lt : α → α → Bool) (a b a' b' : Nat) (ys : List α) : Prop := ∀ i j x y, a ≤ i → i < j → j < b → ¬ (a' ≤ i ∧ j < b') → ys[i]? = some x → ys[j]? = some y → lt y x = false
variable {lt : α → α → Bool} {a b a' b' : Nat} {ys zs : List α}
theorem Out.start (lt : α → α → Bool) (a b : Nat) (ys : List α) : Out lt a b a b ys := fun _ _ _ _ h1 _ h3 h4 => absurd ⟨h1, h3⟩ h4
theorem Out.moved (h : Out lt a b a' b' ys) (k : PR a' b' ys zs) (ha : a ≤ a') (hb : b' ≤ b) : Out lt a b a' b' zs := fun i j x y h1 h2 h3 h4 hx hy => by
  by_cases hi : a' ≤ i ∧ i < b'
  · have hj : b' ≤ j := by omega
    obtain ⟨i', k1, k2, k3⟩ := k.mem hi.1 hi.2 hx
    rw [k.out j (.inr hj)] at hy
    by_cases hia : a ≤ i'
    · exact h i' j x y hia (by omega) h3 (by omega) k3 hy
    · exfalso; omega
  · rw [k.out i (by omega)] at hx
    by_cases hj : a' ≤ j ∧ j < b'
    · obtain ⟨j', k1, k2, k3⟩ := k.mem hj.1 hj.2 hy
      exact h i j' x y h1 (by omega) (by omega) (by omega) hx k3
    · rw [k.out j (by omega)] at hy
      exact h i j x y h1 h2 h3 h4 hx hy
theorem Out.close (h : Out lt a b a' b' ys) (k : SR lt a' b' ys) : SR lt a b ys := fun i j x y h1 h2 h3 hx hy => by
  by_cases hi : a' ≤ i ∧ j < b'
  · exact k i j x y hi.1 h2 hi.2 hx hy
  · exact h i j x y h1 h2 h3 hi hx hy
/-- What a partition leaves: below the middle nothing is greater, above nothing is less. -/
structure Part (lt : α → α → Bool) (a b m : Nat) (ys : List α) (p : α) : Prop where
  at_ : ys[m]? = some p
  lo : ∀ i x, a ≤ i → i < m → ys[i]? = some x → lt p x = false
  hi : ∀ i x, m < i → i < b → ys[i]? = some x → lt x p = false
theorem Out.left (L : Less lt) (h : Out lt a b a' b' ys) {m : Nat} {p : α} (k : Part lt a' b' m ys p) (s : SR lt a' m ys) : Out lt a b (m + 1) b' ys := fun i j x y h1 h2 h3 h4 hx hy => by
  by_cases hi : a' ≤ i ∧ j < b'
  · have him : i ≤ m := by omega
    rcases Nat.lt_trichotomy j m with e | e | e
    · exact s i j x y hi.1 h2 e hx hy
    · subst e
      rw [k.at_] at hy
      cases hy
      exact k.lo i x hi.1 h2 hx
    · have hyp := k.hi j y e hi.2 hy
      by_cases e2 : i = m
      · subst e2
        rw [k.at_] at hx
        cases hx
        exact hyp
      · exact L.tr _ _ _ hyp (k.lo i x hi.1 (by omega) hx)
  · exact h i j x y h1 h2 h3 hi hx hy
theorem Out.right (L : Less lt) (h : Out lt a b a' b' ys) {m : Nat} {p : α} (k : Part lt a' b' m ys p) (s : SR lt (m + 1) b' ys) : Out lt a b a' m ys := fun i j x y h1 h2 h3 h4 hx hy => by
  by_cases hi : a' ≤ i ∧ j < b'
  · have hjm : m ≤ j := by omega
    rcases Nat.lt_trichotomy i m with e | e | e
    · have hxp := k.lo i x hi.1 e hx
      by_cases e2 : j = m
      · subst e2
        rw [k.at_] at hy
        cases hy
        exact hxp
      · exact L.tr _ _ _ (k.hi j y (by omega) hi.2 hy) hxp
    · subst e
      rw [k.at_] at hx
      cases hx
      exact k.hi j y h2 hi.2 hy
    · exact s i j x y (by omega) h2 hi.2 hx hy
  · exact h i j x y h1 h2 h3 hi hx hy
/-- What lies ahead of the range is not greater. -/
def Pred (lt : α → α → Bool) (a b : Nat) (ys : List α) : Prop := ∀ p, 0 < a → ys[a - 1]? = some p → ∀ i x, a ≤ i → i < b → ys[i]? = some x → lt x p = false
theorem Pred.moved (h : Pred lt a b ys) (k : PR a b ys zs) : Pred lt a b zs := fun p h0 hp => by
  rw [k.out (a - 1) (.inl (by omega))] at hp
  exact k.all (h p h0 hp)
theorem Pred.sub (h : Pred lt a b ys) {m : Nat} (hm : m ≤ b) : Pred lt a m ys := fun p h0 hp i x h1 h2 => h p h0 hp i x h1 (by omega)
theorem Pred.next {m : Nat} {p : α} (k : Part lt a b m ys p) : Pred lt (m + 1) b ys := fun q _ hq i x h1 h2 hx => by
  rw [Nat.add_sub_cancel, k.at_] at hq
  cases hq
  exact k.hi i x (by omega) h2 hx
/-- Among equals. -/
theorem Out.equal (L : Less lt) (h : Out lt a b a' b' ys) {m : Nat} {p : α} (hall : ∀ i x, a' ≤ i → i < b' → ys[i]? = some x → lt x p = false) (hlo : ∀ i x, a' ≤ i → i < m → ys[i]? = some x → lt p x = false) (_hm : m ≤ b') : Out lt a b m b' ys := fun i j x y h1 h2 h3 h4 hx hy => by
  by_cases hi : a' ≤ i ∧ j < b'
  · exact L.tr _ _ _ (hall j y (by omega) hi.2 hy) (hlo i x hi.1 (by omega) hx)
  · exact h i j x y h1 h2 h3 hi hx hy
end
end

section
open Go.RowKit

section
variable {α : Type} {lt : α → α → Bool} {f lo hi r : Nat} {ys zs : List α}
/-- No child is greater than its parent, from the parent lo on. -/
def HeapR (lt : α → α → Bool) (f lo hi : Nat) (ys : List α) : Prop := ∀ p c x y, lo ≤ p → (c = 2 * p + 1 ∨ c = 2 * p + 2) → c < hi → ys[f + p]? = some x → ys[f + c]? = some y → lt x y = false
/-- The same but for the parent r; and r's children are not greater than r's parent. -/
structure SiftI (lt : α → α → Bool) (f lo hi r : Nat) (ys : List α) : Prop where
  heap : ∀ p c x y, lo ≤ p → p ≠ r → (c = 2 * p + 1 ∨ c = 2 * p + 2) → c < hi → ys[f + p]? = some x → ys[f + c]? = some y → lt x y = false
  up : ∀ q c x y, lo ≤ q → (r = 2 * q + 1 ∨ r = 2 * q + 2) → (c = 2 * r + 1 ∨ c = 2 * r + 2) → c < hi → ys[f + q]? = some x → ys[f + c]? = some y → lt x y = false
theorem SiftI.start (h : HeapR lt f (lo + 1) hi ys) : SiftI lt f lo hi lo ys :=
  ⟨fun p c x y h1 h2 => h p c x y (by omega), fun q c x y h1 h2 => by omega⟩
theorem SiftI.leaf (h : SiftI lt f lo hi r ys) (hc : hi ≤ 2 * r + 1) : HeapR lt f lo hi ys := fun p c x y h1 h2 h3 hx hy => by
  by_cases e : p = r
  · omega
  · exact h.heap p c x y h1 e h2 h3 hx hy
/-- c is the greater child of r (or the only one). -/
def Great (lt : α → α → Bool) (f hi r c : Nat) (ys : List α) : Prop := (c = 2 * r + 1 ∨ c = 2 * r + 2) ∧ c < hi ∧ ∀ d x y, (d = 2 * r + 1 ∨ d = 2 * r + 2) → d < hi → ys[f + c]? = some x → ys[f + d]? = some y → lt x y = false
theorem SiftI.done (L : Less lt) {c : Nat} {x y : α} (h : SiftI lt f lo hi r ys) (hg : Great lt f hi r c ys) (hx : ys[f + r]? = some x) (hy : ys[f + c]? = some y) (hl : lt x y = false) : HeapR lt f lo hi ys := fun p d u v h1 h2 h3 hu hv => by
  by_cases e : p = r
  · subst e
    rw [hx] at hu
    cases hu
    exact L.tr _ _ _ hl (hg.2.2 d y v h2 h3 hy hv)
  · exact h.heap p d u v h1 e h2 h3 hu hv
theorem SiftI.step (L : Less lt) {c : Nat} {x y : α} (h : SiftI lt f lo hi r ys) (hlo : lo ≤ r) (hg : Great lt f hi r c ys) (hx : ys[f + r]? = some x) (hy : ys[f + c]? = some y) (hl : lt x y = true) : SiftI lt f lo hi c (sw ys (f + r) (f + c) x y) := by
  have hcr : c ≠ r := by have := hg.1; omega
  have get : ∀ k, (sw ys (f + r) (f + c) x y)[f + k]? = if k = c then some x else if k = r then some y else ys[f + k]? := fun k => by
    rw [sw_get hx hy]
    by_cases e1 : k = c
    · rw [if_pos (by omega), if_pos e1]
    · by_cases e2 : k = r
      · rw [if_neg (by omega), if_pos (by omega), if_neg e1, if_pos e2]
      · rw [if_neg (by omega), if_neg (by omega), if_neg e1, if_neg e2]
  constructor
  · intro p d u v h1 h2 h3 h4 hu hv
    rw [get] at hu hv
    rw [if_neg h2] at hu
    by_cases e1 : p = r
    · subst e1
      rw [if_pos rfl] at hu
      cases hu
      by_cases e2 : d = c
      · rw [if_pos e2] at hv
        cases hv
        exact L.asym _ _ hl
      · rw [if_neg e2, if_neg (by omega)] at hv
        exact hg.2.2 d _ v h3 h4 hy hv
    · rw [if_neg e1] at hu
      have hdc : d ≠ c := by have := hg.1; omega
      rw [if_neg hdc] at hv
      by_cases e2 : d = r
      · subst e2
        rw [if_pos rfl] at hv
        cases hv
        exact h.up p c u _ h1 h3 hg.1 hg.2.1 hu hy
      · rw [if_neg e2] at hv
        exact h.heap p d u v h1 e1 h3 h4 hu hv
  · intro q d u v h1 h2 h3 h4 hu hv
    have hqr : q = r := by have := hg.1; omega
    subst hqr
    rw [get] at hu hv
    rw [if_neg (by omega), if_pos rfl] at hu
    cases hu
    rw [if_neg (by omega), if_neg (by omega)] at hv
    exact h.heap c d _ v (by have := hg.1; omega) hcr h3 h4 hy hv
theorem HeapR.vac (h : hi ≤ 2 * lo + 1) : HeapR lt f lo hi ys := fun p c x y h1 h2 h3 => by omega
/-- Its first number is the greatest. -/
theorem HeapR.top (L : Less lt) (h : HeapR lt f 0 hi ys) (hl : f + hi ≤ ys.length) {x : α} (hx : ys[f]? = some x) : ∀ n k y, k ≤ n → k < hi → ys[f + k]? = some y → lt x y = false := by
  intro n
  induction n with
  | zero =>
    intro k y h1 _ hy
    obtain rfl : k = 0 := by omega
    rw [Nat.add_zero, hx] at hy
    cases hy
    exact L.irr _
  | succ n ih =>
    intro k y h1 h2 hy
    by_cases e : k = 0
    · exact ih k y (by omega) h2 hy
    · obtain ⟨z, hz⟩ := get_ex (xs := ys) (i := f + (k - 1) / 2) (by omega)
      exact L.tr _ _ _ (ih ((k - 1) / 2) z (by omega) (by omega) hz) (h ((k - 1) / 2) k z y (by omega) (by omega) h2 hz hy)
/-- What is behind place i is in order, and nothing ahead is greater than it. -/
def Tail (lt : α → α → Bool) (f i hi : Nat) (ys : List α) : Prop := ∀ p q x y, p < q → i ≤ q → q < hi → ys[f + p]? = some x → ys[f + q]? = some y → lt y x = false
theorem Tail.start : Tail lt f hi hi ys := fun p q x y _ h2 h3 => by omega
/-- The greatest is put behind. -/
theorem Tail.step (L : Less lt) {i : Nat} {x y : α} (h : Tail lt f (i + 1) hi ys) (hh : HeapR lt f 0 (i + 1) ys) (hi' : i < hi) (hl : f + hi ≤ ys.length) (hx : ys[f]? = some x) (hy : ys[f + i]? = some y) : Tail lt f i hi (sw ys f (f + i) x y) := by
  have get : ∀ k, (sw ys f (f + i) x y)[f + k]? = if k = i then some x else if k = 0 then some y else ys[f + k]? := fun k => by
    rw [sw_get hx hy]
    by_cases e1 : k = i
    · rw [if_pos (by omega), if_pos e1]
    · by_cases e2 : k = 0
      · rw [if_neg (by omega), if_pos (by omega), if_neg e1, if_pos e2]
      · rw [if_neg (by omega), if_neg (by omega), if_neg e1, if_neg e2]
  intro p q u v h1 h2 h3 hu hv
  rw [get] at hu hv
  have old : ∃ p', p' ≤ i ∧ ys[f + p']? = some u ∨ i < p ∧ ys[f + p]? = some u := by
    by_cases e1 : p = i
    · rw [if_pos e1] at hu
      cases hu
      exact ⟨0, .inl ⟨by omega, hx⟩⟩
    · rw [if_neg e1] at hu
      by_cases e2 : p = 0
      · rw [if_pos e2] at hu
        cases hu
        exact ⟨i, .inl ⟨Nat.le_refl _, hy⟩⟩
      · rw [if_neg e2] at hu
        by_cases e3 : p ≤ i
        · exact ⟨p, .inl ⟨e3, hu⟩⟩
        · exact ⟨0, .inr ⟨by omega, hu⟩⟩
  by_cases eq : q = i
  · rw [if_pos eq] at hv
    cases hv
    obtain ⟨p', ⟨k1, k2⟩ | ⟨k1, _⟩⟩ := old
    · exact hh.top L (by omega) hx p' p' u (Nat.le_refl _) (by omega) k2
    · omega
  · rw [if_neg eq, if_neg (by omega)] at hv
    obtain ⟨p', ⟨k1, k2⟩ | ⟨k1, k2⟩⟩ := old
    · exact h p' q u v (by omega) (by omega) h3 k2 hv
    · exact h p q u v h1 (by omega) h3 k2 hv
theorem Tail.moved {i : Nat} (h : Tail lt f i hi ys) (k : PR f (f + i) ys zs) : Tail lt f i hi zs := fun p q x y h1 h2 h3 hx hy => by
  rw [k.out (f + q) (.inr (by omega))] at hy
  by_cases e : p < i
  · obtain ⟨j, k1, k2, k3⟩ := k.mem (by omega) (by omega) hx
    exact h (j - f) q x y (by omega) h2 h3 (by rw [show f + (j - f) = j by omega]; exact k3) hy
  · rw [k.out (f + p) (.inr (by omega))] at hx
    exact h p q x y h1 h2 h3 hx hy
theorem HeapR.sw_top {i : Nat} {x y : α} (hh : HeapR lt f 0 (i + 1) ys) (hx : ys[f]? = some x) (hy : ys[f + i]? = some y) : HeapR lt f 1 i (sw ys f (f + i) x y) := fun p c u v h1 h2 h3 hu hv => by
  rw [sw_get hx hy, if_neg (by omega), if_neg (by omega)] at hu
  rw [sw_get hx hy, if_neg (by omega), if_neg (by omega)] at hv
  exact hh p c u v (by omega) h2 (by omega) hu hv
theorem Tail.sorted {a b : Nat} (h : Tail lt a 0 (b - a) ys) : SR lt a b ys := fun i j x y h1 h2 h3 hx hy =>
  h (i - a) (j - a) x y (by omega) (by omega) (by omega) (by rw [show a + (i - a) = i by omega]; exact hx) (by rw [show a + (j - a) = j by omega]; exact hy)
end
end
end Go.Proofs.YtjajlddnhmbekaaGreat
