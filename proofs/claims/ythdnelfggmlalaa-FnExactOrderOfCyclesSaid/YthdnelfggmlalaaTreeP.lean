/-
  The code of a tree led back to its edges: at each step there is a leaf. (Plain.)
-/
import Derived.Test.YthdnelfggmlalaaPairP
namespace Go.Proofs.Ythdnelfggmlalaa
open Go.RowKit

/-- The first place of a 1. -/
def one1 (D : List Int) : Nat := D.findIdx (fun d => d == 1)
/-- All places of a 1, from place o on. -/
def onesF : List Int → Nat → List Int
  | [], _ => []
  | d :: l, o => if d = 1 then (o : Int) :: onesF l (o + 1) else onesF l (o + 1)
theorem onesF_snoc (l : List Int) (d : Int) (o : Nat) : onesF (l ++ [d]) o = if d = 1 then onesF l o ++ [((o + l.length : Nat) : Int)] else onesF l o := by
  induction l generalizing o with
  | nil => simp [onesF]
  | cons a l ih =>
    simp only [List.cons_append, onesF, ih, List.length_cons]
    rw [show o + 1 + l.length = o + (l.length + 1) by omega]
    split <;> split <;> rfl
theorem onesF_len (l : List Int) (o : Nat) : (onesF l o).length = l.countP (fun d => d == 1) := by
  induction l generalizing o with
  | nil => rfl
  | cons a l ih =>
    rw [List.countP_cons]
    simp only [onesF]
    by_cases h : a = 1
    · subst h; simp [ih]
    · simp [h, ih]
theorem onesF_head : ∀ {l : List Int} {o : Nat} {a : Int} {t : List Int}, onesF l o = a :: t → a = ((o + one1 l : Nat) : Int) ∧ one1 l < l.length ∧ l[one1 l]? = some 1 ∧ onesF (l.set (one1 l) 0) o = t
  | [], _, _, _, h => by simp [onesF] at h
  | d :: l, o, a, t, h => by
    by_cases hd : d = 1
    · subst hd
      rw [onesF, if_pos rfl] at h
      have e : one1 ((1 : Int) :: l) = 0 := by simp [one1, List.findIdx_cons]
      rw [e]
      injection h with h1 h2
      refine ⟨h1.symm, by simp, rfl, ?_⟩
      rw [List.set_cons_zero, onesF, if_neg (by decide)]
      exact h2
    · rw [onesF, if_neg hd] at h
      have ih := onesF_head h
      have e : one1 (d :: l) = one1 l + 1 := by
        have : (d == 1) = false := by simp [hd]
        simp [one1, List.findIdx_cons, this]
      rw [e]
      refine ⟨by rw [ih.1]; congr 1; omega, by simp; exact ih.2.1, by rw [List.getElem?_cons_succ]; exact ih.2.2.1, ?_⟩
      rw [List.set_cons_succ, onesF, if_neg hd]
      exact ih.2.2.2
theorem one1_first {D : List Int} {k : Nat} (h : k < one1 D) {d : Int} (hd : D[k]? = some d) : d ≠ 1 := by
  intro e
  subst e
  have hl : k < D.length := (List.getElem?_eq_some_iff.1 hd).1
  have := List.not_of_lt_findIdx h
  rw [(List.getElem?_eq_some_iff.1 hd).2] at this
  simp at this

/-- One step: the leaf is taken away, and the number that it hangs on has one edge less. -/
def stepD (D : List Int) (leaf : Nat) (c : Nat) : List Int := (D.set leaf 0).set c ((D.set leaf 0)[c]?.getD 0 - 1)
/-- Where a tree that is led back stands: degrees, edges. -/
def stp (s : List Int × List Int) (c : Int) : List Int × List Int := (stepD s.1 (one1 s.1) c.toNat, s.2 ++ [(one1 s.1 : Int), c])
def stAt (D : List Int) (code : List Int) : List Int × List Int := code.foldl stp (D, [])
theorem stAt_snoc (D : List Int) (code : List Int) (c : Int) : stAt D (code ++ [c]) = stp (stAt D code) c := by simp [stAt]
/-- The degrees of a code so far. -/
def incD (D : List Int) (c : Int) : List Int := D.set c.toNat (D[c.toNat]?.getD 0 + 1)
def degA (n : Nat) (code : List Int) : List Int := code.foldl incD (List.replicate n 1)
theorem degA_snoc (n : Nat) (code : List Int) (c : Int) : degA n (code ++ [c]) = incD (degA n code) c := by simp [degA]
/-- The edges of a tree, in the order in which they are found. -/
def treeF (code : List Int) : List Int := (stAt (degA (code.length + 2) code) code).2 ++ onesF (stAt (degA (code.length + 2) code) code).1 0

theorem sum_set {l : List Int} {k : Nat} {d : Int} (h : l[k]? = some d) (x : Int) : (l.set k x).sum = l.sum - d + x := by
  induction l generalizing k with
  | nil => simp at h
  | cons a l ih =>
    cases k with
    | zero =>
      simp only [List.getElem?_cons_zero, Option.some.injEq] at h
      subst h
      simp only [List.set_cons_zero, List.sum_cons]
      omega
    | succ k =>
      rw [List.getElem?_cons_succ] at h
      simp only [List.set_cons_succ, List.sum_cons, ih h]
      omega
theorem nz_set {l : List Int} {k : Nat} {d : Int} (h : l[k]? = some d) (x : Int) : (l.set k x).countP (fun d => d != 0) + (if d = 0 then 0 else 1) = l.countP (fun d => d != 0) + (if x = 0 then 0 else 1) := by
  induction l generalizing k with
  | nil => simp at h
  | cons a l ih =>
    cases k with
    | zero =>
      simp only [List.getElem?_cons_zero, Option.some.injEq] at h
      subst h
      simp only [List.set_cons_zero, List.countP_cons]
      by_cases h1 : a = 0 <;> by_cases h2 : x = 0 <;> simp [h1, h2]
    | succ k =>
      rw [List.getElem?_cons_succ] at h
      have := ih h
      simp only [List.set_cons_succ, List.countP_cons]
      omega

/-- Degrees that fit to the rest of a code. -/
structure Fits (n : Nat) (D : List Int) (rest : List Int) : Prop where
  len : D.length = n
  cnt : ∀ (v : Nat) (d : Int), D[v]? = some d → (d = 0 ∧ rest.count (v : Int) = 0) ∨ d = 1 + (rest.count (v : Int) : Int)
  nz : D.countP (fun d => d != 0) = rest.length + 2
  sum : D.sum = 2 * rest.length + 2
  inr : ∀ c ∈ rest, 0 ≤ c ∧ c < n

theorem sum_ge : ∀ {l : List Int}, (∀ d ∈ l, d = 0 ∨ 2 ≤ d) → 2 * (l.countP (fun d => d != 0) : Int) ≤ l.sum
  | [], _ => by simp
  | a :: l, h => by
    have ih := sum_ge (l := l) fun d hd => h d (List.mem_cons_of_mem _ hd)
    rw [List.countP_cons, List.sum_cons]
    rcases h a (List.mem_cons_self ..) with e | e
    · subst e; simp; omega
    · have : (a != 0) = true := by simp; omega
      rw [this]
      simp
      omega
theorem Fits.one {n : Nat} {D rest : List Int} (h : Fits n D rest) : ∃ a t, onesF D 0 = a :: t := by
  by_cases h0 : onesF D 0 = []
  · exfalso
    have hc := onesF_len D 0
    rw [h0, List.length_nil] at hc
    have := sum_ge (l := D) fun d hd => by
      obtain ⟨v, hv⟩ := List.mem_iff_getElem?.1 hd
      have h1 : d ≠ 1 := fun e => by
        have := List.countP_eq_zero.1 hc.symm d hd
        rw [e] at this
        simp at this
      rcases h.cnt v d hv with ⟨e, _⟩ | e
      · exact .inl e
      · exact .inr (by omega)
    rw [h.nz, h.sum] at this
    push_cast at this
    omega
  · exact ⟨_, _, (List.cons_head_tail h0).symm⟩
theorem Fits.leaf {n : Nat} {D rest : List Int} (h : Fits n D rest) : one1 D < n ∧ D[one1 D]? = some 1 := by
  obtain ⟨a, t, e⟩ := h.one
  have := onesF_head e
  exact ⟨h.len ▸ this.2.1, this.2.2.1⟩
theorem Fits.get {n : Nat} {D rest : List Int} {c : Int} (h : Fits n D (c :: rest)) : ∃ d, D[c.toNat]? = some d ∧ 2 ≤ d ∧ c.toNat ≠ one1 D ∧ d = 2 + (rest.count c : Int) := by
  have hc := h.inr c (List.mem_cons_self ..)
  obtain ⟨d, hd⟩ := get_ex (xs := D) (i := c.toNat) (by rw [h.len]; omega)
  have e : ((c.toNat : Nat) : Int) = c := by omega
  have h1 := h.cnt _ _ hd
  rw [e, List.count_cons_self] at h1
  have h2 : d = 2 + (rest.count c : Int) := by omega
  refine ⟨d, hd, by omega, fun e2 => ?_, h2⟩
  have := h.leaf.2
  rw [← e2, hd] at this
  cases this
  omega
theorem Fits.step {n : Nat} {D rest : List Int} {c : Int} (h : Fits n D (c :: rest)) : Fits n (stepD D (one1 D) c.toNat) rest := by
  obtain ⟨d, hd, h2, hne, hcd⟩ := h.get
  have hc := h.inr c (List.mem_cons_self ..)
  have hl := h.leaf
  have hd' : (D.set (one1 D) 0)[c.toNat]? = some d := by rw [List.getElem?_set_ne (Ne.symm hne)]; exact hd
  have e : ((c.toNat : Nat) : Int) = c := by omega
  have hlc : (rest.count ((one1 D : Nat) : Int)) = 0 := by
    have := h.cnt _ _ hl.2
    rw [List.count_cons] at this
    omega
  unfold stepD
  rw [hd', Option.getD_some]
  refine ⟨by simp [h.len], fun v u hu => ?_, ?_, ?_, fun x hx => h.inr x (List.mem_cons_of_mem _ hx)⟩
  · rw [List.getElem?_set] at hu
    split at hu
    · rename_i ev
      split at hu
      · cases hu
        subst ev
        rw [e]
        right; omega
      · cases hu
    · rename_i ev
      rw [List.getElem?_set] at hu
      split at hu
      · rename_i ev2
        split at hu
        · cases hu
          subst ev2
          exact .inl ⟨rfl, hlc⟩
        · cases hu
      · have h1 := h.cnt v u hu
        have : ((v : Int) == c) = false := by simp; omega
        have hcv : (c == (v : Int)) = false := by simp; omega
        rw [List.count_cons, hcv] at h1
        simpa using h1
  · have h1 := nz_set hl.2 0
    have h3 := nz_set hd' (d - 1)
    have h4 := h.nz
    rw [List.length_cons] at h4
    rw [if_neg (by decide), if_pos rfl] at h1
    rw [if_neg (by omega), if_neg (by omega)] at h3
    omega
  · rw [sum_set hd', sum_set hl.2, h.sum, List.length_cons]
    push_cast
    omega

theorem degA_fits (n : Nat) (code : List Int) (hin : ∀ c ∈ code, 0 ≤ c ∧ c < n) : (degA n code).length = n ∧ (∀ (v : Nat) (d : Int), (degA n code)[v]? = some d → d = 1 + (code.count (v : Int) : Int)) ∧ (degA n code).sum = n + code.length := by
  have H : ∀ k, k ≤ code.length → (degA n (code.take k)).length = n ∧ (∀ (v : Nat) (d : Int), (degA n (code.take k))[v]? = some d → d = 1 + ((code.take k).count (v : Int) : Int)) ∧ (degA n (code.take k)).sum = n + k := by
    intro k
    induction k with
    | zero =>
      intro _
      refine ⟨by simp [degA], fun v d hd => ?_, ?_⟩
      · simp only [List.take_zero, degA, List.foldl_nil] at hd
        rw [List.getElem?_replicate] at hd
        split at hd
        · cases hd; simp
        · cases hd
      · simp only [List.take_zero, degA, List.foldl_nil]
        clear hin
        induction n with
        | zero => rfl
        | succ n ih => rw [List.replicate_succ, List.sum_cons, ih]; push_cast; omega
    | succ k ih =>
      intro hk
      obtain ⟨i1, i2, i3⟩ := ih (by omega)
      obtain ⟨c, hc⟩ := get_ex (xs := code) (i := k) (by omega)
      have hcin := hin c (List.mem_iff_getElem?.2 ⟨k, hc⟩)
      have et : code.take (k + 1) = code.take k ++ [c] := by rw [List.take_add_one, hc]; rfl
      obtain ⟨d, hd⟩ := get_ex (xs := degA n (code.take k)) (i := c.toNat) (by rw [i1]; omega)
      have hdv := i2 _ _ hd
      have e : ((c.toNat : Nat) : Int) = c := by omega
      rw [e] at hdv
      rw [et, degA_snoc]
      unfold incD
      rw [hd, Option.getD_some]
      refine ⟨by simp [i1], fun v u hu => ?_, by rw [sum_set hd, i3]; push_cast; omega⟩
      rw [List.getElem?_set] at hu
      rw [List.count_append, List.count_singleton]
      split at hu
      · rename_i ev
        split at hu
        · cases hu
          subst ev
          rw [e, beq_self_eq_true, if_pos rfl]
          push_cast
          omega
        · cases hu
      · rename_i ev
        have h1 := i2 v u hu
        have hcv : (c == (v : Int)) = false := by simp; omega
        rw [hcv]
        simpa using h1
  have := H code.length (Nat.le_refl _)
  rwa [List.take_length] at this
theorem degA_len (n : Nat) (code : List Int) : (degA n code).length = n := by
  unfold degA
  have : ∀ (code : List Int) (D : List Int), (code.foldl incD D).length = D.length := by
    intro code
    induction code with
    | nil => intro D; rfl
    | cons c l ih => intro D; rw [List.foldl_cons, ih]; simp [incD]
  rw [this]; simp
/-- All of a code so far has been taken. -/
theorem fits_at {code : List Int} {n : Nat} (hn : n = code.length + 2) (hin : ∀ c ∈ code, 0 ≤ c ∧ c < n) (k : Nat) (hk : k ≤ code.length) : Fits n (stAt (degA n code) (code.take k)).1 (code.drop k) ∧ (stAt (degA n code) (code.take k)).2.length = 2 * k := by
  induction k with
  | zero =>
    obtain ⟨h1, h2, h3⟩ := degA_fits n code hin
    refine ⟨⟨h1, fun v d hd => .inr (h2 v d hd), ?_, ?_, hin⟩, rfl⟩
    · rw [List.drop_zero]
      show (degA n code).countP _ = _
      rw [List.countP_eq_length.2, h1, hn]
      intro d hd
      obtain ⟨v, hv⟩ := List.mem_iff_getElem?.1 hd
      have := h2 v d hv
      simp
      omega
    · show (degA n code).sum = _
      rw [h3, hn, List.drop_zero]
      push_cast
      omega
  | succ k ih =>
    obtain ⟨hF, hl⟩ := ih (by omega)
    obtain ⟨c, hc⟩ := get_ex (xs := code) (i := k) (by omega)
    have et : code.take (k + 1) = code.take k ++ [c] := by rw [List.take_add_one, hc]; rfl
    have ed : code.drop k = c :: code.drop (k + 1) := by rw [List.drop_eq_getElem_cons (by omega)]; rw [(List.getElem?_eq_some_iff.1 hc).2]
    rw [ed] at hF
    rw [et, stAt_snoc]
    exact ⟨hF.step, by simp [stp, hl]; omega⟩
/-- What is left at the end: two leaves. -/
theorem Fits.two {n : Nat} {D : List Int} (h : Fits n D []) : ∃ b : Nat, onesF D 0 = [(one1 D : Int), (b : Int)] ∧ one1 D < n ∧ D[one1 D]? = some 1 ∧ b = one1 (D.set (one1 D) 0) ∧ b < n ∧ (D.set (one1 D) 0)[b]? = some 1 := by
  have hc := onesF_len D 0
  have e1 : D.countP (fun d => d == 1) = D.countP (fun d => d != 0) := by
    apply List.countP_congr
    intro d hd
    obtain ⟨v, hv⟩ := List.mem_iff_getElem?.1 hd
    have := h.cnt v d hv
    simp only [beq_iff_eq, bne_iff_ne, ne_eq]
    simp at this
    omega
  rw [e1, h.nz, List.length_nil] at hc
  obtain ⟨a, t, e⟩ := h.one
  have h1 := onesF_head e
  rw [e] at hc
  simp at hc
  obtain ⟨b, t2, rfl⟩ : ∃ b t2, t = b :: t2 := by
    cases t with
    | nil => simp at hc
    | cons b t2 => exact ⟨b, t2, rfl⟩
  have ht2 : t2 = [] := by
    cases t2 with
    | nil => rfl
    | cons _ _ => simp at hc
  subst ht2
  have h2 := onesF_head h1.2.2.2
  refine ⟨one1 (D.set (one1 D) 0), ?_, h.len ▸ h1.2.1, h1.2.2.1, rfl, ?_, h2.2.2.1⟩
  · rw [e, h1.1, h2.1]
    simp
  · have := h2.2.1
    rw [List.length_set, h.len] at this
    exact this
end Go.Proofs.Ythdnelfggmlalaa
