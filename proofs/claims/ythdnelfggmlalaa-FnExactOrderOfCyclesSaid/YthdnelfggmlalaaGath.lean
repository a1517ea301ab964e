/-
  Gathering in plain lists: chances are added up at equal values, whether the values come in their own order or sorted, equals in the order in which they came.
-/
import Derived.Test.YthdnelfggmlalaaStab
namespace Go.Proofs.Ythdnelfggmlalaa

section
variable {β γ : Type} (key : β → Rat) (add : γ → γ → γ) (z : γ)
/-- A value with a chance comes into a row of values that goes up. -/
def insG (x : β) (c : γ) : List (β × γ) → List (β × γ)
  | [] => [(x, add z c)]
  | (v, d) :: t => if key v < key x then (v, d) :: insG x c t else if key v = key x then (v, add d c) :: t else (x, add z c) :: (v, d) :: t
def insL (s : List (β × γ)) (l : List (β × γ)) : List (β × γ) := l.foldl (fun s p => insG key add z p.1 p.2 s) s
theorem insL_snoc (s l : List (β × γ)) (p : β × γ) : insL key add z s (l ++ [p]) = insG key add z p.1 p.2 (insL key add z s l) := by simp [insL]
theorem insL_app (s l m : List (β × γ)) : insL key add z s (l ++ m) = insL key add z (insL key add z s l) m := by simp [insL]
variable {key add z}
theorem insG_nil (x : β) (c : γ) : insG key add z x c [] = [(x, add z c)] := rfl
theorem insG_lt {x v : β} {c d : γ} {t : List (β × γ)} (h : key v < key x) : insG key add z x c ((v, d) :: t) = (v, d) :: insG key add z x c t := by rw [insG, if_pos h]
theorem insG_eq {x v : β} {c d : γ} {t : List (β × γ)} (h : key v = key x) : insG key add z x c ((v, d) :: t) = (v, add d c) :: t := by rw [insG, if_neg (by rw [h]; exact Rat.lt_irrefl), if_pos h]
theorem insG_gt {x v : β} {c d : γ} {t : List (β × γ)} (h : key x < key v) : insG key add z x c ((v, d) :: t) = (x, add z c) :: (v, d) :: t := by
  rw [insG, if_neg (by grind), if_neg (by grind)]
theorem key_cases (a b : β) : key a < key b ∨ key a = key b ∨ key b < key a := by grind
/-- Two that differ come in either order to the same. -/
theorem insG_comm {x y : β} (h : key x < key y) (c d : γ) : ∀ s : List (β × γ), insG key add z x c (insG key add z y d s) = insG key add z y d (insG key add z x c s)
  | [] => by rw [insG_nil, insG_nil, insG_gt h, insG_lt h, insG_nil]
  | (v, e) :: t => by
    have ih := insG_comm h c d t
    rcases key_cases (key := key) v x with h1 | h1 | h1
    · have h2 : key v < key y := by grind
      rw [insG_lt h2, insG_lt h1, insG_lt h1, insG_lt h2, ih]
    · have h2 : key v < key y := by grind
      rw [insG_lt h2, insG_eq h1, insG_eq h1, insG_lt h2]
    · rcases key_cases (key := key) v y with h2 | h2 | h2
      · rw [insG_lt h2, insG_gt h1, insG_gt h1, insG_lt h, insG_lt h2]
      · rw [insG_eq h2, insG_gt h1, insG_gt h1, insG_lt h, insG_eq h2]
      · rw [insG_gt h2, insG_gt h, insG_gt h1, insG_lt h, insG_gt h2]
/-- One that is less than all behind it may as well come behind them. -/
theorem insL_past {p : β × γ} : ∀ (l : List (β × γ)) (s : List (β × γ)), (∀ q ∈ l, key p.1 < key q.1) → insL key add z s (p :: l) = insL key add z s (l ++ [p])
  | [], s, _ => rfl
  | q :: l, s, h => by
    have h1 := h q (by simp)
    have ih := insL_past l (insG key add z q.1 q.2 s) (fun r hr => h r (by simp [hr]))
    show insL key add z (insG key add z q.1 q.2 (insG key add z p.1 p.2 s)) l = insL key add z (insG key add z q.1 q.2 s) (l ++ [p])
    rw [← ih]
    show _ = insL key add z (insG key add z p.1 p.2 (insG key add z q.1 q.2 s)) l
    rw [insG_comm h1]
/-- Sorted, with equals in the order in which they came, gathers to the same. -/
theorem insL_sorted (f : Nat → β × γ) : ∀ (n : Nat) (order : List Nat), order.Perm (List.range n) → order.Pairwise (fun i j => key (f i).1 < key (f j).1 ∨ key (f i).1 = key (f j).1 ∧ i < j) →
    insL key add z [] (order.map f) = insL key add z [] ((List.range n).map f) := by
  intro n
  induction n with
  | zero =>
    intro order hp _
    have : order = [] := by simpa using hp
    rw [this]; rfl
  | succ n ih =>
    intro order hp hs
    have hmem : n ∈ order := hp.mem_iff.2 (by simp)
    obtain ⟨M1, M2, rfl⟩ := List.append_of_mem hmem
    have hp2 : (M1 ++ M2).Perm (List.range n) := by
      have h := (List.perm_middle (l₁ := M1) (l₂ := M2) (a := n)).symm.trans hp
      rw [List.range_succ] at h
      exact (List.perm_cons n).1 (h.trans (List.perm_append_comm (l₁ := List.range n) (l₂ := [n])))
    obtain ⟨s1, s2, s3⟩ := List.pairwise_append.1 hs
    have s2' := List.pairwise_cons.1 s2
    have hs2 : (M1 ++ M2).Pairwise (fun i j => key (f i).1 < key (f j).1 ∨ key (f i).1 = key (f j).1 ∧ i < j) := List.pairwise_append.2 ⟨s1, s2'.2, fun a ha b hb => s3 a ha b (by simp [hb])⟩
    have hlt : ∀ q ∈ M2.map f, key (f n).1 < key q.1 := by
      intro q hq
      obtain ⟨i, hi, rfl⟩ := List.mem_map.1 hq
      have hin : i < n := by
        have := hp2.mem_iff.1 (List.mem_append_right M1 hi)
        simpa using this
      rcases s2'.1 i hi with h | ⟨_, h⟩
      · exact h
      · omega
    rw [List.range_succ, List.map_append, List.map_append, List.map_cons, insL_app, insL_past _ _ hlt, ← insL_app, ← List.append_assoc, ← List.map_append, insL_snoc]
    show _ = insL key add z [] ((List.range n).map f ++ [f n])
    rw [insL_snoc, ih _ hp2 hs2]
/-- A row that goes up. -/
def KUp (key : β → Rat) (s : List (β × γ)) : Prop := s.Pairwise (fun p q => key p.1 < key q.1)
theorem insG_all_lt {x : β} {c : γ} : ∀ {s : List (β × γ)}, (∀ p ∈ s, key p.1 < key x) → insG key add z x c s = s ++ [(x, add z c)]
  | [], _ => rfl
  | (v, d) :: t, h => by
    rw [insG_lt (h (v, d) (by simp)), insG_all_lt (fun p hp => h p (by simp [hp]))]
    rfl
theorem insG_last_eq {x v : β} {c d : γ} {s : List (β × γ)} (h : ∀ p ∈ s, key p.1 < key x) (hv : key v = key x) : insG key add z x c (s ++ [(v, d)]) = s ++ [(v, add d c)] := by
  induction s with
  | nil => exact insG_eq hv
  | cons p t ih =>
    obtain ⟨u, e⟩ := p
    rw [List.cons_append, insG_lt (h (u, e) (by simp)), ih (fun q hq => h q (by simp [hq]))]
    rfl
theorem insG_mem {x : β} {c : γ} : ∀ {s : List (β × γ)} {p : β × γ}, p ∈ insG key add z x c s → p.1 = x ∨ ∃ q ∈ s, q.1 = p.1
  | [], p, h => by
    rw [insG_nil] at h
    simp at h
    left; rw [h]
  | (v, d) :: t, p, h => by
    rcases key_cases (key := key) v x with h1 | h1 | h1
    · rw [insG_lt h1] at h
      rcases List.mem_cons.1 h with rfl | h
      · exact .inr ⟨_, by simp, rfl⟩
      · rcases insG_mem h with h | ⟨q, hq, e⟩
        · exact .inl h
        · exact .inr ⟨q, by simp [hq], e⟩
    · rw [insG_eq h1] at h
      rcases List.mem_cons.1 h with rfl | h
      · exact .inr ⟨(v, d), by simp, rfl⟩
      · exact .inr ⟨p, by simp [h], rfl⟩
    · rw [insG_gt h1] at h
      rcases List.mem_cons.1 h with rfl | h
      · exact .inl rfl
      · exact .inr ⟨p, h, rfl⟩
theorem insG_up {x : β} {c : γ} : ∀ {s : List (β × γ)}, KUp key s → KUp key (insG key add z x c s)
  | [], _ => by rw [insG_nil]; exact List.pairwise_singleton _ _
  | (v, d) :: t, h => by
    obtain ⟨h0, ht⟩ := List.pairwise_cons.1 h
    rcases key_cases (key := key) v x with h1 | h1 | h1
    · rw [insG_lt h1]
      refine List.pairwise_cons.2 ⟨fun p hp => ?_, insG_up ht⟩
      rcases insG_mem hp with e | ⟨q, hq, e⟩
      · show key v < key p.1
        rw [e]; exact h1
      · show key v < key p.1
        rw [← e]; exact h0 q hq
    · rw [insG_eq h1]
      exact List.pairwise_cons.2 ⟨h0, ht⟩
    · rw [insG_gt h1]
      refine List.pairwise_cons.2 ⟨fun p hp => ?_, h⟩
      rcases List.mem_cons.1 hp with rfl | hp
      · exact h1
      · have h2 : key v < key p.1 := h0 p hp
        show key x < key p.1
        grind
theorem insL_up (l : List (β × γ)) : ∀ {s : List (β × γ)}, KUp key s → KUp key (insL key add z s l) := by
  induction l with
  | nil => intro s h; exact h
  | cons p l ih => intro s h; exact ih (insG_up h)
theorem insG_len (x : β) (c : γ) : ∀ s : List (β × γ), s.length ≤ (insG key add z x c s).length ∧ (insG key add z x c s).length ≤ s.length + 1
  | [] => by simp [insG]
  | (v, d) :: t => by
    have ih := insG_len x c t
    unfold insG
    split
    · simp; omega
    · split
      · simp
      · simp
theorem insL_len (l : List (β × γ)) : ∀ s : List (β × γ), s.length ≤ (insL key add z s l).length ∧ (insL key add z s l).length ≤ s.length + l.length := by
  induction l with
  | nil => intro s; simp [insL]
  | cons p l ih =>
    intro s
    have h1 := insG_len (key := key) (add := add) (z := z) p.1 p.2 s
    have h2 := ih (insG key add z p.1 p.2 s)
    show s.length ≤ (insL key add z (insG key add z p.1 p.2 s) l).length ∧ (insL key add z (insG key add z p.1 p.2 s) l).length ≤ s.length + (l.length + 1)
    omega
/-- By the place at which the value stands or would stand. -/
theorem insG_at {x : β} {c : γ} : ∀ {s : List (β × γ)} {k : Nat}, (∀ i p, i < k → s[i]? = some p → key p.1 < key x) → (∀ p, s[k]? = some p → ¬ key p.1 < key x) → k ≤ s.length →
    (∀ p, s[k]? = some p → key p.1 = key x → insG key add z x c s = s.set k (p.1, add p.2 c)) ∧ ((∀ p, s[k]? = some p → key p.1 ≠ key x) → insG key add z x c s = s.take k ++ (x, add z c) :: s.drop k)
  | [], k, _, _, hk => by
    have : k = 0 := by simpa using hk
    subst this
    exact ⟨fun p hp => by simp at hp, fun _ => rfl⟩
  | (v, d) :: t, 0, _, h2, _ => by
    have h := h2 (v, d) rfl
    refine ⟨fun p hp he => ?_, fun hne => ?_⟩
    · simp at hp
      subst hp
      rw [insG_eq he]
      rfl
    · have hne' := hne (v, d) rfl
      rw [insG_gt (by have : ¬ key v < key x := h; have : key v ≠ key x := hne'; grind)]
      rfl
  | (v, d) :: t, k + 1, h1, h2, hk => by
    have hv : key v < key x := h1 0 (v, d) (by omega) rfl
    obtain ⟨g1, g2⟩ := insG_at (x := x) (c := c) (s := t) (k := k) (fun i p hi hp => h1 (i + 1) p (by omega) (by simpa using hp)) (fun p hp => h2 p (by simpa using hp)) (by simpa using hk)
    refine ⟨fun p hp he => ?_, fun hne => ?_⟩
    · rw [insG_lt hv, g1 p (by simpa using hp) he]
      rfl
    · rw [insG_lt hv, g2 (fun p hp => hne p (by simpa using hp))]
      rfl
end
end Go.Proofs.Ythdnelfggmlalaa
