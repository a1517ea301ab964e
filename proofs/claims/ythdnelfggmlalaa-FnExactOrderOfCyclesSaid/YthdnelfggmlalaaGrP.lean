/-
  Graphs led back from degrees: the numbers by their degrees, a round, all rounds; what comes is edges. (Plain.)
-/
import Derived.Test.YthdnelfggmlalaaTreeP
namespace Go.Proofs.Ythdnelfggmlalaa
open Go.RowKit

/-- What stands at a place. -/
def lv (L : List Int) (k : Nat) : Int := L[k]?.getD 0
theorem lv_of {L : List Int} {k : Nat} {x : Int} (h : L[k]? = some x) : lv L k = x := by unfold lv; rw [h]; rfl
theorem get_lv {L : List Int} {k : Nat} (h : k < L.length) : L[k]? = some (lv L k) := by unfold lv; rw [List.getElem?_eq_getElem h]; rfl
/-- a comes ahead of b: it has more, or as many and is the first one. -/
def ahd (L : List Int) (a b : Nat) : Bool := decide (lv L a > lv L b ∨ lv L a = lv L b ∧ a < b)
theorem ahd_less (L : List Int) : Less (ahd L) where
  asym := fun x y h => by
    unfold ahd at h ⊢
    have := of_decide_eq_true h
    exact decide_eq_false (by omega)
  tr := fun x y z h k => by
    unfold ahd at h k ⊢
    have h1 := of_decide_eq_false h
    have h2 := of_decide_eq_false k
    exact decide_eq_false (by omega)
theorem ahd_total {L : List Int} {x y : Nat} (h : ahd L x y = false) (k : ahd L y x = false) : x = y := by
  unfold ahd at h k
  have h1 := of_decide_eq_false h
  have h2 := of_decide_eq_false k
  omega
theorem ahd_sorted (L : List Int) (l : List Nat) : (l.mergeSort (fun a b => !ahd L b a)).Pairwise (fun a b => ahd L b a = false) := by
  have := List.pairwise_mergeSort (le := fun a b => !ahd L b a) (fun a b c h1 h2 => by
    simp only [Bool.not_eq_true'] at h1 h2 ⊢
    exact (ahd_less L).tr _ _ _ h2 h1) (fun a b => by
    cases h : ahd L b a
    · simp
    · rw [(ahd_less L).asym _ _ h]; simp) l
  exact this.imp fun h => by simpa using h
/-- All numbers but one, by their degrees. -/
def ordL (L : List Int) (a : Nat) : List Nat := ((List.range L.length).filter (fun k => k != a)).mergeSort (fun a b => !ahd L b a)
theorem ordL_perm (L : List Int) (a : Nat) : (ordL L a).Perm ((List.range L.length).filter (fun k => k != a)) := List.mergeSort_perm _ _
theorem ordL_of {L : List Int} {a : Nat} {ks : List Nat} (hp : ks.Perm ((List.range L.length).filter (fun k => k != a))) (hs : ks.Pairwise (fun a b => ahd L b a = false)) : ks = ordL L a :=
  List.Perm.eq_of_pairwise (fun _ _ _ _ h k => ahd_total k h) hs (ahd_sorted L _) (hp.trans (ordL_perm L a).symm)
theorem ordL_mem {L : List Int} {a k : Nat} : k ∈ ordL L a ↔ k < L.length ∧ k ≠ a := by
  rw [(ordL_perm L a).mem_iff, List.mem_filter, List.mem_range]
  simp
theorem ordL_nodup (L : List Int) (a : Nat) : (ordL L a).Nodup := (ordL_perm L a).nodup_iff.2 (List.nodup_range.filter _)
/-- The first one of those with the most. -/
def IsTop (L : List Int) (a : Nat) : Prop := a < L.length ∧ ∀ k, k < L.length → k ≠ a → ahd L a k = true
def topG (L : List Int) : Nat := ((List.range L.length).mergeSort (fun a b => !ahd L b a)).headD 0
theorem topG_of {L : List Int} {a : Nat} (h : IsTop L a) : topG L = a := by
  unfold topG
  have hs := ahd_sorted L (List.range L.length)
  have hp := List.mergeSort_perm (List.range L.length) (fun a b => !ahd L b a)
  cases hm : (List.range L.length).mergeSort (fun a b => !ahd L b a) with
  | nil =>
    rw [hm] at hp
    have := hp.length_eq
    simp at this
    have := h.1
    omega
  | cons x t =>
    rw [hm] at hs hp
    simp only [List.headD_cons]
    by_cases e : x = a
    · exact e
    · have hx : x < L.length := List.mem_range.1 (hp.mem_iff.1 (List.mem_cons_self ..))
      have ha : a ∈ t := by
        have := hp.mem_iff.2 (List.mem_range.2 h.1)
        rcases List.mem_cons.1 this with e2 | e2
        · exact absurd e2.symm e
        · exact e2
      have h1 := (List.pairwise_cons.1 hs).1 a ha
      rw [h.2 x hx e] at h1
      cases h1
/-- The j-th of the others comes ahead of all that are left. -/
theorem ordL_ahead {L : List Int} {a j k : Nat} {o : Nat} (ho : (ordL L a)[j]? = some o) (hk : k < L.length) (hka : k ≠ a) (hn : k ∉ (ordL L a).take j) (hko : k ≠ o) : ahd L o k = true := by
  have hm : k ∈ ordL L a := ordL_mem.2 ⟨hk, hka⟩
  obtain ⟨m, hm⟩ := List.mem_iff_getElem?.1 hm
  have hmj : j < m := by
    rcases Nat.lt_trichotomy m j with h | h | h
    · exact absurd (List.mem_iff_getElem?.2 ⟨m, by rw [List.getElem?_take, if_pos h]; exact hm⟩) hn
    · subst h
      rw [ho] at hm
      cases hm
      exact absurd rfl hko
    · exact h
  have hs : (ordL L a).Pairwise (fun a b => ahd L b a = false) := ahd_sorted L _
  rw [List.pairwise_iff_getElem] at hs
  obtain ⟨h1, e1⟩ := List.getElem?_eq_some_iff.1 ho
  obtain ⟨h2, e2⟩ := List.getElem?_eq_some_iff.1 hm
  have := hs j m h1 h2 hmj
  rw [e1, e2] at this
  cases h : ahd L o k
  · exact absurd (ahd_total h this).symm hko
  · rfl

/-- One less at a place. -/
def dec1 (L : List Int) (k : Nat) : List Int := L.set k (lv L k - 1)
def decA (L : List Int) (ks : List Nat) : List Int := ks.foldl dec1 L
theorem decA_snoc (L : List Int) (ks : List Nat) (k : Nat) : decA L (ks ++ [k]) = dec1 (decA L ks) k := by simp [decA]
theorem decA_len (L : List Int) (ks : List Nat) : (decA L ks).length = L.length := by
  unfold decA
  induction ks generalizing L with
  | nil => rfl
  | cons k l ih => rw [List.foldl_cons, ih]; simp [dec1]
theorem dec1_lv {L : List Int} {k j : Nat} (hk : k < L.length) : lv (dec1 L k) j = if j = k then lv L k - 1 else lv L j := by
  unfold dec1 lv
  rw [List.getElem?_set]
  by_cases e : k = j
  · subst e
    rw [if_pos rfl, if_pos hk, if_pos rfl]
    rfl
  · rw [if_neg e, if_neg (fun h => e h.symm)]
theorem decA_out {L : List Int} {ks : List Nat} {j : Nat} (hin : ∀ k ∈ ks, k < L.length) (hj : j ∉ ks) : lv (decA L ks) j = lv L j := by
  induction ks generalizing L with
  | nil => rfl
  | cons k l ih =>
    unfold decA
    rw [List.foldl_cons]
    have h1 := ih (L := dec1 L k) (fun q hq => by simp [dec1]; exact hin q (List.mem_cons_of_mem _ hq)) (fun h => hj (List.mem_cons_of_mem _ h))
    unfold decA at h1
    rw [h1, dec1_lv (hin k (List.mem_cons_self ..)), if_neg (fun e => hj (by rw [e]; exact List.mem_cons_self ..))]
theorem decA_in {L : List Int} {ks : List Nat} {j : Nat} (hin : ∀ k ∈ ks, k < L.length) (hnd : ks.Nodup) (hj : j ∈ ks) : lv (decA L ks) j = lv L j - 1 := by
  induction ks generalizing L with
  | nil => cases hj
  | cons k l ih =>
    have hnd' := List.nodup_cons.1 hnd
    unfold decA
    rw [List.foldl_cons]
    rcases List.mem_cons.1 hj with e | e
    · subst e
      have h1 := decA_out (L := dec1 L j) (ks := l) (fun q hq => by simp [dec1]; exact hin q (List.mem_cons_of_mem _ hq)) hnd'.1
      unfold decA at h1
      rw [h1, dec1_lv (hin j (List.mem_cons_self ..)), if_pos rfl]
    · have h1 := ih (L := dec1 L k) (fun q hq => by simp [dec1]; exact hin q (List.mem_cons_of_mem _ hq)) hnd'.2 e
      unfold decA at h1
      rw [h1, dec1_lv (hin k (List.mem_cons_self ..)), if_neg (fun e2 => hnd'.1 (by rw [← e2]; exact e))]
theorem decA_sum {L : List Int} {ks : List Nat} (hin : ∀ k ∈ ks, k < L.length) : (decA L ks).sum = L.sum - ks.length := by
  induction ks generalizing L with
  | nil => simp [decA]
  | cons k l ih =>
    unfold decA
    rw [List.foldl_cons]
    have h1 := ih (L := dec1 L k) (fun q hq => by simp [dec1]; exact hin q (List.mem_cons_of_mem _ hq))
    unfold decA at h1
    have h2 : (dec1 L k).sum = L.sum - 1 := by
      unfold dec1
      rw [sum_set (get_lv (hin k (List.mem_cons_self ..)))]
      omega
    rw [h1, h2, List.length_cons]
    push_cast
    omega

/-- The edges of one number to others. -/
def edgesTo (a : Nat) (ks : List Nat) : List Int := flatP (ks.map fun (k : Nat) => ((a : Int), (k : Int)))
theorem edgesTo_snoc (a : Nat) (ks : List Nat) (k : Nat) : edgesTo a (ks ++ [k]) = edgesTo a ks ++ [(a : Int), (k : Int)] := by
  unfold edgesTo
  rw [List.map_append, flatP_app]
  rfl
theorem edgesTo_len (a : Nat) (ks : List Nat) : (edgesTo a ks).length = 2 * ks.length := by unfold edgesTo; rw [flatP_len, List.length_map]
/-- A round: the one with the most is joined to the next ones. -/
def roundG (L : List Int) (a : Nat) : Option (List Int × List Int) :=
  if (ordL L a).length < (lv L a).toNat then none
  else if ((ordL L a).take (lv L a).toNat).any (fun k => lv L k == 0) = true then none
  else some ((decA L ((ordL L a).take (lv L a).toNat)).set a 0, edgesTo a ((ordL L a).take (lv L a).toNat))
def buildG : Nat → List Int → List Int → Option (List Int)
  | 0, _, _ => none
  | f + 1, L, out => if lv L (topG L) = 0 then some out else match roundG L (topG L) with
    | none => none
    | some r => buildG f r.1 (out ++ r.2)
/-- The edges of a graph of degrees, in the order in which they are found. -/
def graphO (xs : List Int) : Option (List Int) := buildG 1100 xs []
theorem buildG_done {f : Nat} {L out : List Int} {a : Nat} (h : IsTop L a) (h0 : lv L a = 0) : buildG (f + 1) L out = some out := by
  rw [buildG, topG_of h, if_pos h0]
theorem buildG_fail {f : Nat} {L out : List Int} {a : Nat} (h : IsTop L a) (h0 : lv L a ≠ 0) (hr : roundG L a = none) : buildG (f + 1) L out = none := by
  rw [buildG, topG_of h, if_neg h0, hr]
theorem buildG_step {f : Nat} {L out : List Int} {a : Nat} {r : List Int × List Int} (h : IsTop L a) (h0 : lv L a ≠ 0) (hr : roundG L a = some r) : buildG (f + 1) L out = buildG f r.1 (out ++ r.2) := by
  rw [buildG, topG_of h, if_neg h0, hr]
theorem roundG_few {L : List Int} {a : Nat} (h : (ordL L a).length < (lv L a).toNat) : roundG L a = none := if_pos h
theorem roundG_zero {L : List Int} {a j o : Nat} (hj : j < (lv L a).toNat) (ho : (ordL L a)[j]? = some o) (h0 : lv L o = 0) : roundG L a = none := by
  unfold roundG
  split
  · rfl
  · have : ((ordL L a).take (lv L a).toNat).any (fun k => lv L k == 0) = true := by
      rw [List.any_eq_true]
      exact ⟨o, List.mem_iff_getElem?.2 ⟨j, by rw [List.getElem?_take, if_pos hj]; exact ho⟩, by rw [h0]; rfl⟩
    rw [if_pos this]
theorem roundG_some {L : List Int} {a : Nat} (hl : (lv L a).toNat ≤ (ordL L a).length) (h : ∀ (j o : Nat), j < (lv L a).toNat → (ordL L a)[j]? = some o → lv L o ≠ 0) :
    roundG L a = some ((decA L ((ordL L a).take (lv L a).toNat)).set a 0, edgesTo a ((ordL L a).take (lv L a).toNat)) := by
  unfold roundG
  rw [if_neg (by omega), if_neg]
  intro hc
  rw [List.any_eq_true] at hc
  obtain ⟨o, ho, h0⟩ := hc
  obtain ⟨j, hj⟩ := List.mem_iff_getElem?.1 ho
  rw [List.getElem?_take] at hj
  split at hj
  · rename_i hjl
    exact h j o hjl hj (by simpa using h0)
  · cases hj

/-- What holds between the rounds. -/
structure GoodG (n : Nat) (S : Int) (L out : List Int) : Prop where
  len : L.length = n
  rng : ∀ k : Nat, 0 ≤ lv L k ∧ lv L k ≤ 16
  even : ∃ m, out.length = 2 * m
  sum : (out.length : Int) + L.sum = S
  ends : ∀ p ∈ pairsOf out, (0 ≤ p.1 ∧ p.1 < n) ∧ (0 ≤ p.2 ∧ p.2 < n) ∧ p.1 ≠ p.2 ∧ lv L p.1.toNat = 0
  apart : (pairsOf out).Pairwise (fun p q => normP p ≠ normP q)
theorem sum_nonneg : ∀ {L : List Int}, (∀ k, 0 ≤ lv L k) → 0 ≤ L.sum
  | [], _ => by simp
  | a :: l, h => by
    have h1 := sum_nonneg (L := l) fun k => by have := h (k + 1); unfold lv at this ⊢; rwa [List.getElem?_cons_succ] at this
    have h2 := h 0
    unfold lv at h2
    simp at h2
    rw [List.sum_cons]
    omega
theorem sum_small : ∀ {L : List Int}, (∀ k, lv L k ≤ 16) → L.sum ≤ 16 * L.length
  | [], _ => by simp
  | a :: l, h => by
    have h1 := sum_small (L := l) fun k => by have := h (k + 1); unfold lv at this ⊢; rwa [List.getElem?_cons_succ] at this
    have h2 := h 0
    unfold lv at h2
    simp at h2
    rw [List.sum_cons, List.length_cons]
    push_cast
    omega
theorem pairs_app {xs ys : List Int} {m : Nat} (h : xs.length = 2 * m) : pairsOf (xs ++ ys) = pairsOf xs ++ pairsOf ys := by
  induction m generalizing xs with
  | zero =>
    have e : xs = [] := List.eq_nil_of_length_eq_zero (by omega)
    rw [e]
    rfl
  | succ m ih =>
    match xs, h with
    | a :: b :: l, h =>
      simp only [List.cons_append, pairsOf]
      rw [ih (by simp at h; omega)]
theorem normP_eq {p q : Int × Int} (h : normP p = normP q) : (p.1 = q.1 ∧ p.2 = q.2) ∨ (p.1 = q.2 ∧ p.2 = q.1) := by
  obtain ⟨a, b⟩ := p
  obtain ⟨c, d⟩ := q
  unfold normP at h
  simp only at h ⊢
  split at h <;> split at h <;> (rw [Prod.mk.injEq] at h; omega)
theorem GoodG.start {xs : List Int} {n : Nat} (hn : xs.length = n) (h : ∀ x ∈ xs, 0 ≤ x ∧ x ≤ 16) : GoodG n xs.sum xs [] := by
  refine ⟨hn, fun k => ?_, ⟨0, rfl⟩, by simp, (fun p hp => by cases hp), List.Pairwise.nil⟩
  unfold lv
  cases hk : xs[k]? with
  | none => simp
  | some x => exact h x (List.mem_of_getElem? hk)
theorem GoodG.step {n : Nat} {S : Int} {L out : List Int} {a : Nat} (h : GoodG n S L out) (ha : a < n) (h0 : lv L a ≠ 0) (hl : (lv L a).toNat ≤ (ordL L a).length)
    (hz : ∀ (j o : Nat), j < (lv L a).toNat → (ordL L a)[j]? = some o → lv L o ≠ 0) :
    GoodG n S ((decA L ((ordL L a).take (lv L a).toNat)).set a 0) (out ++ edgesTo a ((ordL L a).take (lv L a).toNat)) := by
  obtain ⟨ks, hks⟩ : ∃ ks, ks = (ordL L a).take (lv L a).toNat := ⟨_, rfl⟩
  rw [← hks]
  have hin : ∀ k ∈ ks, k < L.length ∧ k ≠ a := fun k hk => ordL_mem.1 (List.mem_of_mem_take (by rw [← hks]; exact hk))
  have hnd : ks.Nodup := by rw [hks]; exact (ordL_nodup L a).sublist (List.take_sublist _ _)
  have hkl : ks.length = (lv L a).toNat := by rw [hks, List.length_take]; omega
  have hnz : ∀ k ∈ ks, lv L k ≠ 0 := fun k hk => by
    rw [hks] at hk
    obtain ⟨j, hj⟩ := List.mem_iff_getElem?.1 hk
    rw [List.getElem?_take] at hj
    split at hj
    · rename_i hjl; exact hz j k hjl hj
    · cases hj
  have hak : a ∉ ks := fun hk => (hin a hk).2 rfl
  have haL : a < L.length := by rw [h.len]; exact ha
  have hd : ∀ k, lv ((decA L ks).set a 0) k = if k = a then 0 else lv (decA L ks) k := fun k => by
    unfold lv
    rw [List.getElem?_set]
    by_cases e : a = k
    · subst e
      rw [if_pos rfl, if_pos (by rw [decA_len]; exact haL), if_pos rfl]
      rfl
    · rw [if_neg e, if_neg (fun h => e h.symm)]
  have hv : ∀ k, (k ∈ ks ∧ lv (decA L ks) k = lv L k - 1) ∨ (k ∉ ks ∧ lv (decA L ks) k = lv L k) := fun k => by
    by_cases hk : k ∈ ks
    · exact .inl ⟨hk, decA_in (fun q hq => (hin q hq).1) hnd hk⟩
    · exact .inr ⟨hk, decA_out (fun q hq => (hin q hq).1) hk⟩
  have hzero : ∀ k, lv L k = 0 → lv ((decA L ks).set a 0) k = 0 := fun k hk => by
    rw [hd]
    split
    · rfl
    · rcases hv k with ⟨h1, _⟩ | ⟨_, h2⟩
      · exact absurd hk (hnz k h1)
      · rw [h2, hk]
  obtain ⟨m, hm⟩ := h.even
  refine ⟨by rw [List.length_set, decA_len, h.len], fun k => ?_, ⟨m + ks.length, by rw [List.length_append, edgesTo_len, hm]; omega⟩, ?_, fun p hp => ?_, ?_⟩
  · rw [hd]
    have h1 := h.rng k
    split
    · omega
    · rcases hv k with ⟨h2, h3⟩ | ⟨_, h3⟩
      · have := hnz k h2
        omega
      · omega
  · have h1 : lv (decA L ks) a = lv L a := decA_out (fun q hq => (hin q hq).1) hak
    have h2 := (h.rng a).1
    rw [sum_set (get_lv (by rw [decA_len]; exact haL)), decA_sum (fun q hq => (hin q hq).1), h1, List.length_append, edgesTo_len, hkl]
    have := h.sum
    push_cast
    omega
  · rw [pairs_app hm, List.mem_append] at hp
    rcases hp with hp | hp
    · obtain ⟨e1, e2, e3, e4⟩ := h.ends p hp
      exact ⟨e1, e2, e3, hzero _ e4⟩
    · unfold edgesTo at hp
      rw [pairs_flat, List.mem_map] at hp
      obtain ⟨k, hk, rfl⟩ := hp
      have h1 := hin k hk
      rw [h.len] at h1
      refine ⟨by simp only; omega, by simp only; omega, by simp only; omega, ?_⟩
      simp only [Int.toNat_natCast]
      rw [hd, if_pos rfl]
  · rw [pairs_app hm, List.pairwise_append]
    refine ⟨h.apart, ?_, fun p hp q hq e => ?_⟩
    · unfold edgesTo
      rw [pairs_flat, List.pairwise_map]
      refine hnd.imp ?_
      intro x y hxy e
      rcases normP_eq e with h1 | h1 <;> simp only at h1 <;> omega
    · unfold edgesTo at hq
      rw [pairs_flat, List.mem_map] at hq
      obtain ⟨k, hk, rfl⟩ := hq
      have h1 := h.ends p hp
      rcases normP_eq e with ⟨h2, h3⟩ | ⟨h2, h3⟩ <;> simp only at h2 h3
      · rw [h2, Int.toNat_natCast] at h1
        exact h0 h1.2.2.2
      · rw [h2, Int.toNat_natCast] at h1
        exact hnz k hk h1.2.2.2
/-- What comes at the end is edges in their order. -/
theorem GoodG.edges {n : Nat} {S : Int} {L out : List Int} (h : GoodG n S L out) : ∃ zs : List (Int × Int), inOrd out = flatP zs ∧ 2 * zs.length = out.length ∧ (∀ p ∈ zs, 0 ≤ p.1 ∧ p.1 < p.2 ∧ p.2 < n) ∧ zs.Pairwise (fun x y => ltP x y = true) := by
  obtain ⟨m, hm⟩ := h.even
  have hp := List.mergeSort_perm ((pairsOf out).map normP) (fun x y => !ltP y x)
  refine ⟨_, rfl, ?_, fun p hpz => ?_, ?_⟩
  · rw [List.length_mergeSort, List.length_map, pairs_len hm, hm]
  · rw [hp.mem_iff, List.mem_map] at hpz
    obtain ⟨q, hq, rfl⟩ := hpz
    obtain ⟨h1, h2, h3, _⟩ := h.ends q hq
    unfold normP
    split
    · simp only; omega
    · omega
  · have h1 := List.pairwise_mergeSort (le := fun x y => !ltP y x) (fun a b c h1 h2 => by
      simp only [Bool.not_eq_true'] at h1 h2 ⊢
      exact ltP_less.tr _ _ _ h2 h1) (fun a b => by
      cases h : ltP b a
      · simp
      · rw [ltP_less.asym _ _ h]; simp) ((pairsOf out).map normP)
    have h2 : ((pairsOf out).map normP).Pairwise (fun p q => p ≠ q) := List.pairwise_map.2 h.apart
    have h3 := (hp.symm.pairwise_iff (R := fun p q => p ≠ q) (fun h => Ne.symm h)).1 h2
    refine (h1.and h3).imp fun {x y} hxy => ?_
    cases hc : ltP x y
    · have h4 : ltP y x = false := by simpa using hxy.1
      exact absurd (ltP_total hc h4) hxy.2
    · rfl
end Go.Proofs.Ythdnelfggmlalaa
