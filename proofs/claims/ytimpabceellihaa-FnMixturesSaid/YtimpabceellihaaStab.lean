/-
  The stable sort in plain lists: what exchanging, rotating and merging in place make of a list, by its parts.
  Gathering in plain lists: chances are added up at equal values, whether the values come in their own order or sorted, equals in the order in which they came.
  The stable sort's two passes in plain lists: what a step of each keeps.
-/
import Derived.Test.YtimpabceellihaaSl
namespace Go.Proofs.Ytimpabceellihaa
section
/-- Two places change their elements. -/
def swp (xs : List Int) (i j : Nat) : List Int := (xs.set i (xs[j]?.getD 0)).set j (xs[i]?.getD 0)
theorem swp_len (xs : List Int) (i j : Nat) : (swp xs i j).length = xs.length := by simp [swp]
theorem swp_up (P S : List Int) (x y : Int) {k : Nat} (hk : P.length = k) : swp (P ++ x :: y :: S) k (k + 1) = P ++ y :: x :: S := by
  subst hk
  simp [swp, List.set_append_right]
theorem swp_down (P S : List Int) (x y : Int) {k : Nat} (hk : P.length = k) : swp (P ++ x :: y :: S) (k + 1) k = P ++ y :: x :: S := by
  subst hk
  simp [swp, List.set_append_right]
/-- The first k of two rows of places change their elements. -/
def swpR (xs : List Int) (a b : Nat) : Nat → List Int
  | 0 => xs
  | k + 1 => swp (swpR xs a b k) (a + k) (b + k)
theorem swpR_len (xs : List Int) (a b k : Nat) : (swpR xs a b k).length = xs.length := by
  induction k with
  | zero => rfl
  | succ k ih => rw [swpR, swp_len, ih]
theorem swp_mid (P U S : List Int) (x y : Int) {i j : Nat} (hi : P.length = i) (hj : i + 1 + U.length = j) : swp (P ++ x :: U ++ y :: S) i j = P ++ y :: U ++ x :: S := by
  subst hi
  subst hj
  have e1 : (P ++ x :: U ++ y :: S)[P.length + 1 + U.length]? = some y := by
    rw [List.getElem?_append_right (by simp; omega)]
    simp
    rw [show P.length + 1 + U.length - (P.length + (U.length + 1)) = 0 by omega]
    rfl
  have e2 : (P ++ x :: U ++ y :: S)[P.length]? = some x := by simp
  unfold swp
  rw [e1, e2, Option.getD_some, Option.getD_some, List.append_assoc, List.set_append_right _ _ (Nat.le_refl _), Nat.sub_self, List.cons_append, List.set_cons_zero]
  rw [← List.cons_append, ← List.append_assoc, List.set_append_right _ _ (by simp; omega)]
  have : P.length + 1 + U.length - (P ++ y :: U).length = 0 := by simp; omega
  rw [this, List.set_cons_zero]
theorem swpR_eq (S M : List Int) : ∀ (n : Nat) (P U V : List Int), U.length = n → V.length = n → ∀ k, k ≤ n →
    swpR (P ++ (U ++ (M ++ (V ++ S)))) P.length (P.length + n + M.length) k = P ++ ((V.take k ++ U.drop k) ++ (M ++ ((U.take k ++ V.drop k) ++ S))) := by
  intro n P U V hU hV k
  induction k with
  | zero => intro _; simp [swpR]
  | succ k ih =>
    intro hk
    obtain ⟨x, hx⟩ := get_of_lt (xs := U) (k := k) (by omega)
    obtain ⟨y, hy⟩ := get_of_lt (xs := V) (k := k) (by omega)
    have du : U.drop k = x :: U.drop (k + 1) := by
      rw [List.drop_eq_getElem_cons (by omega)]
      congr 1
      rw [List.getElem?_eq_getElem (by omega)] at hx
      exact Option.some.inj hx
    have dv : V.drop k = y :: V.drop (k + 1) := by
      rw [List.drop_eq_getElem_cons (by omega)]
      congr 1
      rw [List.getElem?_eq_getElem (by omega)] at hy
      exact Option.some.inj hy
    rw [swpR, ih (by omega), du, dv, take_snoc hx, take_snoc hy]
    have h := swp_mid (P ++ V.take k) (U.drop (k + 1) ++ (M ++ U.take k)) (V.drop (k + 1) ++ S) x y (i := P.length + k) (j := P.length + n + M.length + k) (by simp; omega) (by simp; omega)
    simp only [List.append_assoc, List.cons_append, List.nil_append] at h ⊢
    exact h
theorem swpR_all (P U M V S : List Int) {a b n : Nat} (ha : P.length = a) (hU : U.length = n) (hV : V.length = n) (hb : a + n + M.length = b) : swpR (P ++ (U ++ (M ++ (V ++ S)))) a b n = P ++ (V ++ (M ++ (U ++ S))) := by
  subst ha
  subst hb
  rw [swpR_eq S M n P U V hU hV n (Nat.le_refl _), List.take_of_length_le (by omega), List.drop_of_length_le (by omega), List.take_of_length_le (by omega), List.drop_of_length_le (by omega)]
  simp

section
variable {lx : Int → Int → Bool}
/-- 'ahead of', each of the list of all behind it. -/
def Up (lx : Int → Int → Bool) (l : List Int) : Prop := l.Pairwise (fun x y => lx x y = true)
theorem up_get {l : List Int} (h : Up lx l) {i j : Nat} {x y : Int} (hx : l[i]? = some x) (hy : l[j]? = some y) (hij : i < j) : lx x y = true := by
  have hj := lt_of_get hy
  have hi := lt_of_get hx
  rw [List.getElem?_eq_getElem hi] at hx
  rw [List.getElem?_eq_getElem hj] at hy
  cases hx
  cases hy
  exact List.pairwise_iff_getElem.1 h i j hi hj hij
theorem mem_take_get {l : List Int} {k : Nat} {y : Int} (h : y ∈ l.take k) : ∃ i, i < k ∧ l[i]? = some y := by
  rw [List.mem_take_iff_getElem] at h
  obtain ⟨i, hi, e⟩ := h
  exact ⟨i, by omega, by rw [← e]; exact List.getElem?_eq_getElem _⟩
theorem mem_drop_get {l : List Int} {k : Nat} {y : Int} (h : y ∈ l.drop k) : ∃ i, k ≤ i ∧ l[i]? = some y := by
  rw [List.mem_drop_iff_getElem] at h
  obtain ⟨i, hi, e⟩ := h
  exact ⟨k + i, by omega, by rw [← e]; exact List.getElem?_eq_getElem _⟩
/-- Below a place where q holds it holds of all. -/
theorem all_take {q : Int → Bool} {B : List Int} (hs : Up lx B) (hq : ∀ a b, lx a b = true → q b = true → q a = true) {k : Nat} (hk : ∀ y, 0 < k → B[k - 1]? = some y → q y = true) (hl : k ≤ B.length) : ∀ y ∈ B.take k, q y = true := by
  intro y hy
  obtain ⟨i, hi, hiy⟩ := mem_take_get hy
  obtain ⟨z, hz⟩ := get_of_lt (xs := B) (k := k - 1) (by omega)
  by_cases e : i = k - 1
  · subst e
    exact hk y (by omega) hiy
  · exact hq _ _ (up_get hs hiy hz (by omega)) (hk z (by omega) hz)
/-- Above a place where q does not hold it holds of none. -/
theorem all_drop {q : Int → Bool} {B : List Int} (hs : Up lx B) (hq : ∀ a b, lx a b = true → q b = true → q a = true) {k : Nat} (hk : ∀ y, B[k]? = some y → q y = false) : ∀ y ∈ B.drop k, q y = false := by
  intro y hy
  obtain ⟨i, hi, hiy⟩ := mem_drop_get hy
  obtain ⟨z, hz⟩ := get_of_lt (xs := B) (k := k) (by have := lt_of_get hiy; omega)
  by_cases e : i = k
  · subst e
    exact hk y hiy
  · cases h : q y with
    | false => rfl
    | true =>
      have := hq _ _ (up_get hs hz hiy (by omega)) h
      rw [hk z hz] at this
      cases this
/-- All of one list are ahead of all of another. -/
def Bef (lx : Int → Int → Bool) (A B : List Int) : Prop := ∀ x ∈ A, ∀ y ∈ B, lx x y = true
theorem up_append {A B : List Int} (hA : Up lx A) (hB : Up lx B) (h : Bef lx A B) : Up lx (A ++ B) := List.pairwise_append.2 ⟨hA, hB, h⟩
theorem bef_perm {A A' B B' : List Int} (h : Bef lx A B) (hA : A'.Perm A) (hB : B'.Perm B) : Bef lx A' B' := fun x hx y hy => h x (hA.mem_iff.1 hx) y (hB.mem_iff.1 hy)
theorem bef_app {A B C D : List Int} (h1 : Bef lx A C) (h2 : Bef lx A D) (h3 : Bef lx B C) (h4 : Bef lx B D) : Bef lx (A ++ B) (C ++ D) := by
  intro x hx y hy
  rw [List.mem_append] at hx hy
  rcases hx with hx | hx <;> rcases hy with hy | hy
  · exact h1 x hx y hy
  · exact h2 x hx y hy
  · exact h3 x hx y hy
  · exact h4 x hx y hy
theorem bef_split {A : List Int} (h : Up lx A) (k : Nat) : Bef lx (A.take k) (A.drop k) := by
  intro x hx y hy
  obtain ⟨i, hi, hix⟩ := mem_take_get hx
  obtain ⟨j, hj, hjy⟩ := mem_drop_get hy
  exact up_get h hix hjy (by omega)
theorem up_take {A : List Int} (h : Up lx A) (k : Nat) : Up lx (A.take k) := List.Pairwise.sublist (List.take_sublist _ _) h
theorem up_drop {A : List Int} (h : Up lx A) (k : Nat) : Up lx (A.drop k) := List.Pairwise.sublist (List.drop_sublist _ _) h
/-- The last of one list ahead of the first of another: all ahead of all. -/
theorem bef_of_ends (htr : ∀ a b c, lx a b = true → lx b c = true → lx a c = true) {A B : List Int} (hA : Up lx A) (hB : Up lx B) {i j : Nat} (h : ∀ x y, 0 < i → A[i - 1]? = some x → B[j]? = some y → lx x y = true) (hi : i ≤ A.length) : Bef lx (A.take i) (B.drop j) := by
  intro x hx y hy
  obtain ⟨p, hp, hpx⟩ := mem_take_get hx
  obtain ⟨r, hr, hry⟩ := mem_drop_get hy
  obtain ⟨x', hx'⟩ := get_of_lt (xs := A) (k := i - 1) (by omega)
  obtain ⟨y', hy'⟩ := get_of_lt (xs := B) (k := j) (by have := lt_of_get hry; omega)
  have h0 := h x' y' (by omega) hx' hy'
  have h1 : lx x y' = true := by
    by_cases e : p = i - 1
    · subst e
      rw [hpx] at hx'
      cases hx'
      exact h0
    · exact htr _ _ _ (up_get hA hpx hx' (by omega)) h0
  by_cases e : r = j
  · subst e
    rw [hry] at hy'
    cases hy'
    exact h1
  · exact htr _ _ _ h1 (up_get hB hy' hry (by omega))

/-- What the comparing function says of an element of B and one of A is the order's word; the order tells the two apart. -/
def Tells (lx : Int → Int → Bool) (cf : Int → Int → Int) (A B : List Int) : Prop := ∀ x ∈ A, ∀ y ∈ B, decide (cf y x < 0) = lx y x ∧ lx x y = !lx y x
theorem Tells.mono {cf : Int → Int → Int} {A A' B B' : List Int} (h : Tells lx cf A B) (hA : ∀ x ∈ A', x ∈ A) (hB : ∀ x ∈ B', x ∈ B) : Tells lx cf A' B' := fun x hx y hy => h x (hA x hx) y (hB y hy)
theorem Tells.perm {cf : Int → Int → Int} {A A' B B' : List Int} (h : Tells lx cf A B) (hA : A'.Perm A) (hB : B'.Perm B) : Tells lx cf A' B' := h.mono (fun _ hx => hA.mem_iff.1 hx) (fun _ hx => hB.mem_iff.1 hx)
/-- One element ahead of a row that goes up. -/
theorem one_left {cf : Int → Int → Int} (htr : ∀ a b c, lx a b = true → lx b c = true → lx a c = true) {x : Int} {B : List Int} (hB : Up lx B) (ht : Tells lx cf [x] B) {k : Nat} (hk : k ≤ B.length)
    (h1 : ∀ y, 0 < k → B[k - 1]? = some y → cf y x < 0) (h2 : ∀ y, B[k]? = some y → ¬ cf y x < 0) : Up lx (B.take k ++ x :: B.drop k) ∧ (B.take k ++ x :: B.drop k).Perm ([x] ++ B) := by
  have hq : ∀ a b, lx a b = true → lx b x = true → lx a x = true := fun a b h k => htr a b x h k
  have g1 : ∀ y ∈ B.take k, lx y x = true := all_take (q := fun y => lx y x) hB hq (fun y h0 hy => by
    rw [← (ht x (by simp) y (List.mem_of_getElem? hy)).1]; exact decide_eq_true (h1 y h0 hy)) hk
  have g2 : ∀ y ∈ B.drop k, lx y x = false := all_drop (q := fun y => lx y x) hB hq (fun y hy => by
    rw [← (ht x (by simp) y (List.mem_of_getElem? hy)).1]; exact decide_eq_false (h2 y hy))
  refine ⟨up_append (up_take hB k) (List.pairwise_cons.2 ⟨fun y hy => ?_, up_drop hB k⟩) ?_, ?_⟩
  · rw [(ht x (by simp) y (List.mem_of_mem_drop hy)).2, g2 y hy]; rfl
  · intro a ha b hb
    rcases List.mem_cons.1 hb with rfl | hb
    · exact g1 a ha
    · exact bef_split hB k a ha b hb
  · refine (List.perm_middle).trans ?_
    rw [List.take_append_drop]
    exact List.Perm.refl _
/-- One element behind a row that goes up. -/
theorem one_right {cf : Int → Int → Int} (htr : ∀ a b c, lx a b = true → lx b c = true → lx a c = true) {y : Int} {A : List Int} (hA : Up lx A) (ht : Tells lx cf A [y]) {k : Nat} (hk : k ≤ A.length)
    (h1 : ∀ x, 0 < k → A[k - 1]? = some x → ¬ cf y x < 0) (h2 : ∀ x, A[k]? = some x → cf y x < 0) : Up lx (A.take k ++ y :: A.drop k) ∧ (A.take k ++ y :: A.drop k).Perm (A ++ [y]) := by
  have hq : ∀ a b, lx a b = true → (!lx y b) = true → (!lx y a) = true := fun a b h k => by
    cases hya : lx y a with
    | false => rfl
    | true =>
      rw [htr y a b hya h] at k
      cases k
  have g1 : ∀ x ∈ A.take k, (!lx y x) = true := all_take (q := fun x => !lx y x) hA hq (fun x h0 hx => by
    show (!lx y x) = true
    rw [← (ht x (List.mem_of_getElem? hx) y (by simp)).1, decide_eq_false (h1 x h0 hx)]; rfl) hk
  have g2 : ∀ x ∈ A.drop k, (!lx y x) = false := all_drop (q := fun x => !lx y x) hA hq (fun x hx => by
    show (!lx y x) = false
    rw [← (ht x (List.mem_of_getElem? hx) y (by simp)).1, decide_eq_true (h2 x hx)]; rfl)
  refine ⟨up_append (up_take hA k) (List.pairwise_cons.2 ⟨fun x hx => ?_, up_drop hA k⟩) ?_, ?_⟩
  · simpa using g2 x hx
  · intro a ha b hb
    rcases List.mem_cons.1 hb with rfl | hb
    · rw [(ht a (List.mem_of_mem_take ha) b (by simp)).2]; exact g1 a ha
    · exact bef_split hA k a ha b hb
  · refine (List.perm_middle).trans ?_
    rw [List.take_append_drop]
    exact (List.perm_append_comm (l₁ := [y])).trans (List.Perm.refl _)
/-- Two rows, each cut in two, the first parts merged, and the second. -/
theorem two_parts (htr : ∀ a b c, lx a b = true → lx b c = true → lx a c = true) {A B R1 R2 : List Int} {i j : Nat} (hA : Up lx A) (hB : Up lx B) (hi : i ≤ A.length) (hj : j ≤ B.length)
    (h1 : ∀ x y, 0 < i → A[i - 1]? = some x → B[j]? = some y → lx x y = true) (h2 : ∀ y x, 0 < j → B[j - 1]? = some y → A[i]? = some x → lx y x = true)
    (p1 : R1.Perm (A.take i ++ B.take j)) (p2 : R2.Perm (A.drop i ++ B.drop j)) (u1 : Up lx R1) (u2 : Up lx R2) : Up lx (R1 ++ R2) ∧ (R1 ++ R2).Perm (A ++ B) := by
  refine ⟨up_append u1 u2 (bef_perm (bef_app (bef_split hA i) (bef_of_ends htr hA hB h1 hi) (bef_of_ends htr hB hA h2 hj) (bef_split hB j)) p1 p2), ?_⟩
  refine (p1.append p2).trans ?_
  have e : A ++ B = (A.take i ++ A.drop i) ++ (B.take j ++ B.drop j) := by rw [List.take_append_drop, List.take_append_drop]
  rw [e, List.append_assoc, List.append_assoc]
  refine List.Perm.append_left _ ?_
  rw [← List.append_assoc, ← List.append_assoc]
  exact List.Perm.append_right _ List.perm_append_comm
/-- An element that goes down to its place in a row that goes up. -/
theorem ins_end {cf : Int → Int → Int} (htr : ∀ a b c, lx a b = true → lx b c = true → lx a c = true) {x : Int} {R1 R2 : List Int} (hR : Up lx (R1 ++ R2)) (h2 : ∀ r ∈ R2, lx x r = true) (ht : Tells lx cf R1 [x])
    (h1 : ∀ r, 0 < R1.length → R1[R1.length - 1]? = some r → ¬ cf x r < 0) : Up lx (R1 ++ x :: R2) := by
  obtain ⟨u1, u2, u3⟩ := List.pairwise_append.1 hR
  have h := (one_right htr u1 ht (k := R1.length) (Nat.le_refl _) h1 (fun y hy => by have := lt_of_get hy; omega)).1
  rw [List.take_length, List.drop_length] at h
  obtain ⟨_, _, v3⟩ := List.pairwise_append.1 h
  refine up_append u1 (List.pairwise_cons.2 ⟨h2, u2⟩) ?_
  intro a ha b hb
  rcases List.mem_cons.1 hb with rfl | hb
  · exact v3 a ha b (by simp)
  · exact u3 a ha b hb

/-- X is D, each block of s brought up for itself. -/
inductive Chunks (lx : Int → Int → Bool) (s : Nat) : List Int → List Int → Prop
  | last {D X : List Int} : X.length ≤ s → X.Perm D → Up lx X → Chunks lx s D X
  | cons {DA A D X : List Int} : A.length = s → A.Perm DA → Up lx A → Chunks lx s D X → Chunks lx s (DA ++ D) (A ++ X)
/-- .. of the blocks ahead, whatever comes behind. -/
def Ahead (lx : Int → Int → Bool) (s : Nat) (D X : List Int) : Prop := ∀ D' X', Chunks lx s D' X' → Chunks lx s (D ++ D') (X ++ X')
theorem ahead_nil (s : Nat) : Ahead lx s [] [] := fun _ _ h => h
theorem Ahead.more {s : Nat} {D X DA A : List Int} (h : Ahead lx s D X) (hl : A.length = s) (hp : A.Perm DA) (hu : Up lx A) : Ahead lx s (D ++ DA) (X ++ A) := fun D' X' k => by
  rw [List.append_assoc, List.append_assoc]
  exact h _ _ (.cons hl hp hu k)
theorem Ahead.whole {s : Nat} {D X DA A : List Int} (h : Ahead lx s D X) (hl : A.length ≤ s) (hp : A.Perm DA) (hu : Up lx A) : Chunks lx s (D ++ DA) (X ++ A) := h _ _ (.last hl hp hu)
theorem Chunks.perm {s : Nat} {D X : List Int} (h : Chunks lx s D X) : X.Perm D := by
  induction h with
  | last _ h _ => exact h
  | cons _ h _ _ ih => exact h.append ih
theorem Chunks.one {s : Nat} {D X : List Int} (h : Chunks lx s D X) (hl : X.length ≤ s) : Up lx X := by
  cases h with
  | last _ _ h => exact h
  | cons h1 h2 h3 h4 =>
    rename_i DA A D X
    have : X = [] := List.eq_nil_of_length_eq_zero (by simp at hl; omega)
    subst this
    simpa using h3
theorem Chunks.split {s : Nat} {D X : List Int} (h : Chunks lx s D X) (hl : s ≤ X.length) : ∃ DA A D' X', D = DA ++ D' ∧ X = A ++ X' ∧ A.length = s ∧ A.Perm DA ∧ Up lx A ∧ Chunks lx s D' X' := by
  cases h with
  | last h1 h2 h3 => exact ⟨D, X, [], [], by simp, by simp, by omega, h2, h3, .last (by simp) (List.Perm.refl _) List.Pairwise.nil⟩
  | cons h1 h2 h3 h4 => exact ⟨_, _, _, _, rfl, rfl, h1, h2, h3, h4⟩
/-- What the order tells of two parts of a list. -/
def TellsAll (lx : Int → Int → Bool) (cf : Int → Int → Int) (D : List Int) : Prop := D.Pairwise (fun x y => decide (cf y x < 0) = lx y x ∧ lx x y = !lx y x)
theorem TellsAll.two {cf : Int → Int → Int} {D1 DA DB D2 : List Int} (h : TellsAll lx cf (D1 ++ (DA ++ (DB ++ D2)))) : Tells lx cf DA DB := by
  obtain ⟨_, h, _⟩ := List.pairwise_append.1 h
  obtain ⟨_, _, h⟩ := List.pairwise_append.1 h
  exact fun x hx y hy => h x hx y (List.mem_append_left _ hy)
theorem TellsAll.part {cf : Int → Int → Int} {D1 DA D2 : List Int} (h : TellsAll lx cf (D1 ++ (DA ++ D2))) : TellsAll lx cf DA := by
  obtain ⟨_, h, _⟩ := List.pairwise_append.1 h
  exact (List.pairwise_append.1 h).1
end
end

section
section
variable {β γ : Type} (key : β → Rat) (add : γ → γ → γ) (z : γ)
/-- A value with a chance comes into a row of values that goes up. -/
def insG (x : β) (c : γ) : List (β × γ) → List (β × γ)
  | [] => [(x, add z c)]
  | (v, d) :: t => if key v < key x then (v, d) :: insG x c t else if key v = key x then (v, add d c) :: t else (x, add z c) :: (v, d) :: t
def insL (s : List (β × γ)) (l : List (β × γ)) : List (β × γ) := l.foldl (fun s p => insG key add z p.1 p.2 s) s
theorem insL_snoc (s l : List (β × γ)) (p : β × γ) : insL key add z s (l ++ [p]) = insG key add z p.1 p.2 (insL key add z s l) := by simp [insL]
theorem insL_app (s l m : List (β × γ)) : insL key add z s (l ++ m) = insL key add z (insL key add z s l) m := by simp [insL]
variable {key add z}
theorem insG_nil (x : β) (c : γ) : insG key add z x c [] = [(x, add z c)] := rfl
theorem insG_lt {x v : β} {c d : γ} {t : List (β × γ)} (h : key v < key x) : insG key add z x c ((v, d) :: t) = (v, d) :: insG key add z x c t := by rw [insG, if_pos h]
theorem insG_eq {x v : β} {c d : γ} {t : List (β × γ)} (h : key v = key x) : insG key add z x c ((v, d) :: t) = (v, add d c) :: t := by rw [insG, if_neg (by rw [h]; exact Rat.lt_irrefl), if_pos h]
theorem insG_gt {x v : β} {c d : γ} {t : List (β × γ)} (h : key x < key v) : insG key add z x c ((v, d) :: t) = (x, add z c) :: (v, d) :: t := by
  rw [insG, if_neg (by grind), if_neg (by grind)]
theorem key_cases (a b : β) : key a < key b ∨ key a = key b ∨ key b < key a := by grind
/-- Two that differ come in either order to the same. -/
theorem insG_comm {x y : β} (h : key x < key y) (c d : γ) : ∀ s : List (β × γ), insG key add z x c (insG key add z y d s) = insG key add z y d (insG key add z x c s)
  | [] => by rw [insG_nil, insG_nil, insG_gt h, insG_lt h, insG_nil]
  | (v, e) :: t => by
    have ih := insG_comm h c d t
    rcases key_cases (key := key) v x with h1 | h1 | h1
    · have h2 : key v < key y := by grind
      rw [insG_lt h2, insG_lt h1, insG_lt h1, insG_lt h2, ih]
    · have h2 : key v < key y := by grind
      rw [insG_lt h2, insG_eq h1, insG_eq h1, insG_lt h2]
    · rcases key_cases (key := key) v y with h2 | h2 | h2
      · rw [insG_lt h2, insG_gt h1, insG_gt h1, insG_lt h, insG_lt h2]
      · rw [insG_eq h2, insG_gt h1, insG_gt h1, insG_lt h, insG_eq h2]
      · rw [insG_gt h2, insG_gt h, insG_gt h1, insG_lt h, insG_gt h2]
/-- One that is less than all behind it may as well come behind them. -/
theorem insL_past {p : β × γ} : ∀ (l : List (β × γ)) (s : List (β × γ)), (∀ q ∈ l, key p.1 < key q.1) → insL key add z s (p :: l) = insL key add z s (l ++ [p])
  | [], s, _ => rfl
  | q :: l, s, h => by
    have h1 := h q (by simp)
    have ih := insL_past l (insG key add z q.1 q.2 s) (fun r hr => h r (by simp [hr]))
    show insL key add z (insG key add z q.1 q.2 (insG key add z p.1 p.2 s)) l = insL key add z (insG key add z q.1 q.2 s) (l ++ [p])
    rw [← ih]
    show _ = insL key add z (insG key add z p.1 p.2 (insG key add z q.1 q.2 s)) l
    rw [insG_comm h1]
/-- Sorted, with equals in the order in which they came, gathers to the same. -/
theorem insL_sorted (f : Nat → β × γ) : ∀ (n : Nat) (order : List Nat), order.Perm (List.range n) → order.Pairwise (fun i j => key (f i).1 < key (f j).1 ∨ key (f i).1 = key (f j).1 ∧ i < j) →
    insL key add z [] (order.map f) = insL key add z [] ((List.range n).map f) := by
  intro n
  induction n with
  | zero =>
    intro order hp _
    have : order = [] := by simpa using hp
    rw [this]; rfl
  | succ n ih =>
    intro order hp hs
    have hmem : n ∈ order := hp.mem_iff.2 (by simp)
    obtain ⟨M1, M2, rfl⟩ := List.append_of_mem hmem
    have hp2 : (M1 ++ M2).Perm (List.range n) := by
      have h := (List.perm_middle (l₁ := M1) (l₂ := M2) (a := n)).symm.trans hp
      rw [List.range_succ] at h
      exact (List.perm_cons n).1 (h.trans (List.perm_append_comm (l₁ := List.range n) (l₂ := [n])))
    obtain ⟨s1, s2, s3⟩ := List.pairwise_append.1 hs
    have s2' := List.pairwise_cons.1 s2
    have hs2 : (M1 ++ M2).Pairwise (fun i j => key (f i).1 < key (f j).1 ∨ key (f i).1 = key (f j).1 ∧ i < j) := List.pairwise_append.2 ⟨s1, s2'.2, fun a ha b hb => s3 a ha b (by simp [hb])⟩
    have hlt : ∀ q ∈ M2.map f, key (f n).1 < key q.1 := by
      intro q hq
      obtain ⟨i, hi, rfl⟩ := List.mem_map.1 hq
      have hin : i < n := by
        have := hp2.mem_iff.1 (List.mem_append_right M1 hi)
        simpa using this
      rcases s2'.1 i hi with h | ⟨_, h⟩
      · exact h
      · omega
    rw [List.range_succ, List.map_append, List.map_append, List.map_cons, insL_app, insL_past _ _ hlt, ← insL_app, ← List.append_assoc, ← List.map_append, insL_snoc]
    show _ = insL key add z [] ((List.range n).map f ++ [f n])
    rw [insL_snoc, ih _ hp2 hs2]
/-- A row that goes up. -/
def KUp (key : β → Rat) (s : List (β × γ)) : Prop := s.Pairwise (fun p q => key p.1 < key q.1)
theorem insG_all_lt {x : β} {c : γ} : ∀ {s : List (β × γ)}, (∀ p ∈ s, key p.1 < key x) → insG key add z x c s = s ++ [(x, add z c)]
  | [], _ => rfl
  | (v, d) :: t, h => by
    rw [insG_lt (h (v, d) (by simp)), insG_all_lt (fun p hp => h p (by simp [hp]))]
    rfl
theorem insG_last_eq {x v : β} {c d : γ} {s : List (β × γ)} (h : ∀ p ∈ s, key p.1 < key x) (hv : key v = key x) : insG key add z x c (s ++ [(v, d)]) = s ++ [(v, add d c)] := by
  induction s with
  | nil => exact insG_eq hv
  | cons p t ih =>
    obtain ⟨u, e⟩ := p
    rw [List.cons_append, insG_lt (h (u, e) (by simp)), ih (fun q hq => h q (by simp [hq]))]
    rfl
theorem insG_mem {x : β} {c : γ} : ∀ {s : List (β × γ)} {p : β × γ}, p ∈ insG key add z x c s → p.1 = x ∨ ∃ q ∈ s, q.1 = p.1
  | [], p, h => by
    rw [insG_nil] at h
    simp at h
    left; rw [h]
  | (v, d) :: t, p, h => by
    rcases key_cases (key := key) v x with h1 | h1 | h1
    · rw [insG_lt h1] at h
      rcases List.mem_cons.1 h with rfl | h
      · exact .inr ⟨_, by simp, rfl⟩
      · rcases insG_mem h with h | ⟨q, hq, e⟩
        · exact .inl h
        · exact .inr ⟨q, by simp [hq], e⟩
    · rw [insG_eq h1] at h
      rcases List.mem_cons.1 h with rfl | h
      · exact .inr ⟨(v, d), by simp, rfl⟩
      · exact .inr ⟨p, by simp [h], rfl⟩
    · rw [insG_gt h1] at h
      rcases List.mem_cons.1 h with rfl | h
      · exact .inl rfl
      · exact .inr ⟨p, h, rfl⟩
theorem insG_up {x : β} {c : γ} : ∀ {s : List (β × γ)}, KUp key s → KUp key (insG key add z x c s)
  | [], _ => by rw [insG_nil]; exact List.pairwise_singleton _ _
  | (v, d) :: t, h => by
    obtain ⟨h0, ht⟩ := List.pairwise_cons.1 h
    rcases key_cases (key := key) v x with h1 | h1 | h1
    · rw [insG_lt h1]
      refine List.pairwise_cons.2 ⟨fun p hp => ?_, insG_up ht⟩
      rcases insG_mem hp with e | ⟨q, hq, e⟩
      · show key v < key p.1
        rw [e]; exact h1
      · show key v < key p.1
        rw [← e]; exact h0 q hq
    · rw [insG_eq h1]
      exact List.pairwise_cons.2 ⟨h0, ht⟩
    · rw [insG_gt h1]
      refine List.pairwise_cons.2 ⟨fun p hp => ?_, h⟩
      rcases List.mem_cons.1 hp with rfl | hp
      · exact h1
      · have h2 : key v < key p.1 := h0 p hp
        show key x < key p.1
        grind
theorem insL_up (l : List (β × γ)) : ∀ {s : List (β × γ)}, KUp key s → KUp key (insL key add z s l) := by
  induction l with
  | nil => intro s h; exact h
  | cons p l ih => intro s h; exact ih (insG_up h)
theorem insG_len (x : β) (c : γ) : ∀ s : List (β × γ), s.length ≤ (insG key add z x c s).length ∧ (insG key add z x c s).length ≤ s.length + 1
  | [] => by simp [insG]
  | (v, d) :: t => by
    have ih := insG_len x c t
    unfold insG
    split
    · simp; omega
    · split
      · simp
      · simp
theorem insL_len (l : List (β × γ)) : ∀ s : List (β × γ), s.length ≤ (insL key add z s l).length ∧ (insL key add z s l).length ≤ s.length + l.length := by
  induction l with
  | nil => intro s; simp [insL]
  | cons p l ih =>
    intro s
    have h1 := insG_len (key := key) (add := add) (z := z) p.1 p.2 s
    have h2 := ih (insG key add z p.1 p.2 s)
    show s.length ≤ (insL key add z (insG key add z p.1 p.2 s) l).length ∧ (insL key add z (insG key add z p.1 p.2 s) l).length ≤ s.length + (l.length + 1)
    omega
/-- By the place at which the value stands or would stand. -/
theorem insG_at {x : β} {c : γ} : ∀ {s : List (β × γ)} {k : Nat}, (∀ i p, i < k → s[i]? = some p → key p.1 < key x) → (∀ p, s[k]? = some p → ¬ key p.1 < key x) → k ≤ s.length →
    (∀ p, s[k]? = some p → key p.1 = key x → insG key add z x c s = s.set k (p.1, add p.2 c)) ∧ ((∀ p, s[k]? = some p → key p.1 ≠ key x) → insG key add z x c s = s.take k ++ (x, add z c) :: s.drop k)
  | [], k, _, _, hk => by
    have : k = 0 := by simpa using hk
    subst this
    exact ⟨fun p hp => by simp at hp, fun _ => rfl⟩
  | (v, d) :: t, 0, _, h2, _ => by
    have h := h2 (v, d) rfl
    refine ⟨fun p hp he => ?_, fun hne => ?_⟩
    · simp at hp
      subst hp
      rw [insG_eq he]
      rfl
    · have hne' := hne (v, d) rfl
      rw [insG_gt (by have : ¬ key v < key x := h; have : key v ≠ key x := hne'; grind)]
      rfl
  | (v, d) :: t, k + 1, h1, h2, hk => by
    have hv : key v < key x := h1 0 (v, d) (by omega) rfl
    obtain ⟨g1, g2⟩ := insG_at (x := x) (c := c) (s := t) (k := k) (fun i p hi hp => h1 (i + 1) p (by omega) (by simpa using hp)) (fun p hp => h2 p (by simpa using hp)) (by simpa using hk)
    refine ⟨fun p hp he => ?_, fun hne => ?_⟩
    · rw [insG_lt hv, g1 p (by simpa using hp) he]
      rfl
    · rw [insG_lt hv, g2 (fun p hp => hne p (by simpa using hp))]
      rfl
end
end

section
section
variable {lx : Int → Int → Bool} {cf : Int → Int → Int} {n s a b s2 : Nat} {D D1 X1 D2 X2 R : List Int}
theorem tells_at {DA DB D3 A B : List Int} (h : TellsAll lx cf D) (e : D = D1 ++ (DA ++ (DB ++ D3))) (hA : A.Perm DA) (hB : B.Perm DB) : Tells lx cf A B := by
  rw [e] at h
  exact h.two.perm hA hB
/-- The blocks of 20 up to a are sorted; the rest lies as it lay. -/
def InvA (lx : Int → Int → Bool) (D : List Int) (n a b : Nat) (D1 X1 D2 : List Int) : Prop := b = a + 20 ∧ D = D1 ++ D2 ∧ D1.length = a ∧ X1.length = a ∧ Ahead lx 20 D1 X1 ∧ a + D2.length = n
theorem invA_start (h : D.length = n) : InvA lx D n 0 20 [] [] D := ⟨rfl, rfl, rfl, rfl, ahead_nil _, by omega⟩
theorem InvA.take (h : InvA lx D n a b D1 X1 D2) (hb : b ≤ n) : (D2.take 20).length = 20 := by
  obtain ⟨h1, _, _, _, _, h6⟩ := h
  simp; omega
theorem InvA.tells (h : InvA lx D n a b D1 X1 D2) (ht : TellsAll lx cf D) : TellsAll lx cf (D2.take 20) ∧ TellsAll lx cf D2 := by
  obtain ⟨_, h2, _⟩ := h
  constructor
  · rw [h2, ← List.take_append_drop 20 D2] at ht
    exact ht.part
  · rw [h2, ← List.append_nil D2] at ht
    exact ht.part
theorem InvA.mem (h : InvA lx D n a b D1 X1 D2) {z : Int} (hz : z ∈ D2) : z ∈ D := by
  rw [h.2.1]
  exact List.mem_append_right _ hz
theorem InvA.step (h : InvA lx D n a b D1 X1 D2) (hb : b ≤ n) (hp : R.Perm (D2.take 20)) (hu : Up lx R) : InvA lx D n b (b + 20) (D1 ++ D2.take 20) (X1 ++ R) (D2.drop 20) := by
  have ht := h.take hb
  obtain ⟨h1, h2, h3, h4, h5, h6⟩ := h
  have hRl : R.length = 20 := by rw [hp.length_eq, ht]
  exact ⟨rfl, by rw [List.append_assoc, List.take_append_drop]; exact h2, by rw [List.length_append, ht]; omega, by rw [List.length_append, hRl]; omega, h5.more hRl hp hu, by simp; omega⟩
theorem InvA.fin (h : InvA lx D n a b D1 X1 D2) (hb : ¬ b ≤ n) (hp : R.Perm D2) (hu : Up lx R) : Chunks lx 20 D (X1 ++ R) := by
  obtain ⟨h1, h2, h3, h4, h5, h6⟩ := h
  have := h5.whole (DA := D2) (A := R) (by rw [hp.length_eq]; omega) hp hu
  rwa [← h2] at this
/-- The blocks up to a are twice as long; the rest are as they were. -/
def InvB (lx : Int → Int → Bool) (s s2 n : Nat) (D : List Int) (a b : Nat) (D1 X1 D2 X2 : List Int) : Prop := b = a + s2 ∧ D = D1 ++ D2 ∧ D1.length = a ∧ X1.length = a ∧ Ahead lx s2 D1 X1 ∧ Chunks lx s D2 X2 ∧ a + X2.length = n
theorem invB_start {X : List Int} (h : X.length = n) (hc : Chunks lx s D X) : InvB lx s s2 n D 0 s2 [] [] D X := ⟨by omega, rfl, rfl, rfl, ahead_nil _, hc, by omega⟩
/-- Two blocks ahead. -/
theorem InvB.two (h : InvB lx s s2 n D a b D1 X1 D2 X2) (hs : s2 = 2 * s) (hb : b ≤ n) (ht : TellsAll lx cf D) : ∃ DA DB D3 A B X3, D2 = DA ++ (DB ++ D3) ∧ X2 = A ++ (B ++ X3) ∧ A.length = s ∧ B.length = s ∧ Up lx A ∧ Up lx B ∧ Tells lx cf A B ∧ (∀ z ∈ A ++ B, z ∈ D) ∧
    ∀ R : List Int, R.Perm (A ++ B) → Up lx R → InvB lx s s2 n D b (b + s2) (D1 ++ (DA ++ DB)) (X1 ++ R) D3 X3 := by
  obtain ⟨h1, h2, h3, h4, h5, h6, h7⟩ := h
  obtain ⟨DA, A, D', X', rfl, rfl, lA, pA, uA, c1⟩ := h6.split (by omega)
  have l1 := pA.length_eq
  simp only [List.length_append] at h7
  obtain ⟨DB, B, D3, X3, rfl, rfl, lB, pB, uB, c2⟩ := c1.split (by omega)
  have l2 := pB.length_eq
  simp only [List.length_append] at h7
  refine ⟨DA, DB, D3, A, B, X3, rfl, rfl, lA, lB, uA, uB, tells_at ht h2 pA pB, fun z hz => ?_, fun R hp hu => ?_⟩
  · rw [h2]
    rcases List.mem_append.1 hz with h | h
    · exact List.mem_append_right _ (List.mem_append_left _ (pA.mem_iff.1 h))
    · exact List.mem_append_right _ (List.mem_append_right _ (List.mem_append_left _ (pB.mem_iff.1 h)))
  · have lR : R.length = s2 := by rw [hp.length_eq, List.length_append]; omega
    exact ⟨rfl, by rw [h2]; simp, by simp only [List.length_append]; omega, by simp only [List.length_append]; omega, h5.more lR (hp.trans (pA.append pB)) hu, c2, by omega⟩
/-- A block and a shorter one. -/
theorem InvB.last (h : InvB lx s s2 n D a b D1 X1 D2 X2) (hs : s2 = 2 * s) (hb : ¬ b ≤ n) (hm : a + s < n) (ht : TellsAll lx cf D) : ∃ A B, X2 = A ++ (B ++ []) ∧ A.length = s ∧ a + s + B.length = n ∧ 1 ≤ B.length ∧ Up lx A ∧ Up lx B ∧ Tells lx cf A B ∧ (∀ z ∈ A ++ B, z ∈ D) ∧
    ∀ R : List Int, R.Perm (A ++ B) → Up lx R → Chunks lx s2 D (X1 ++ R) := by
  obtain ⟨h1, h2, h3, h4, h5, h6, h7⟩ := h
  obtain ⟨DA, A, DB, B, rfl, rfl, lA, pA, uA, c1⟩ := h6.split (by omega)
  simp only [List.length_append] at h7
  have uB := c1.one (by omega)
  have pB := c1.perm
  refine ⟨A, B, by rw [List.append_nil], lA, by omega, by omega, uA, uB, tells_at (D3 := []) ht (by rw [List.append_nil]; exact h2) pA pB, fun z hz => ?_, fun R hp hu => ?_⟩
  · rw [h2]
    rcases List.mem_append.1 hz with h | h
    · exact List.mem_append_right _ (List.mem_append_left _ (pA.mem_iff.1 h))
    · exact List.mem_append_right _ (List.mem_append_right _ (pB.mem_iff.1 h))
  · have h := h5.whole (DA := DA ++ DB) (A := R) (by rw [hp.length_eq, List.length_append]; omega) (hp.trans (pA.append pB)) hu
    rwa [← h2] at h
theorem InvB.fin (h : InvB lx s s2 n D a b D1 X1 D2 X2) (hs : s2 = 2 * s) (hm : ¬ a + s < n) : Chunks lx s2 D (X1 ++ X2) := by
  obtain ⟨h1, h2, h3, h4, h5, h6, h7⟩ := h
  have h := h5.whole (DA := D2) (A := X2) (by omega) h6.perm (h6.one (by omega))
  rwa [← h2] at h
end
end
end Go.Proofs.Ytimpabceellihaa
