/-
  Tables with sums told, plainly: the ways to take a row, the number of tables, that it is the same turned round; counts by codes.
-/
namespace Go.Proofs.Ytmhmekfbnaafmaa

/-! ### sums -/
def sN (g : Nat → Nat) : Nat → Nat
  | 0 => 0
  | n + 1 => sN g n + g n
theorem sN_congr {g h : Nat → Nat} : ∀ {n : Nat}, (∀ k, k < n → g k = h k) → sN g n = sN h n
  | 0, _ => rfl
  | n + 1, hh => by simp only [sN]; rw [sN_congr (fun k hk => hh k (by omega)), hh n (by omega)]
theorem sN_zero {g : Nat → Nat} {n : Nat} (h : ∀ k, k < n → g k = 0) : sN g n = 0 := by
  induction n with
  | zero => rfl
  | succ n ih => simp only [sN]; rw [ih (fun k hk => h k (by omega)), h n (by omega)]
theorem sN_add (g h : Nat → Nat) : ∀ n, sN (fun k => g k + h k) n = sN g n + sN h n
  | 0 => rfl
  | n + 1 => by simp only [sN]; rw [sN_add g h n]; omega
theorem sN_mul (c : Nat) (g : Nat → Nat) : ∀ n, sN (fun k => c * g k) n = c * sN g n
  | 0 => rfl
  | n + 1 => by simp only [sN]; rw [sN_mul c g n, Nat.mul_add]
theorem sN_mulr (c : Nat) (g : Nat → Nat) : ∀ n, sN (fun k => g k * c) n = sN g n * c
  | 0 => by simp [sN]
  | n + 1 => by simp only [sN]; rw [sN_mulr c g n, Nat.add_mul]
theorem sN_comm (F : Nat → Nat → Nat) (m : Nat) : ∀ n, sN (fun i => sN (fun j => F i j) m) n = sN (fun j => sN (fun i => F i j) n) m
  | 0 => (sN_zero (fun _ _ => rfl)).symm
  | n + 1 => by simp only [sN]; rw [sN_comm F m n, sN_add]
theorem sN_at {g h : Nat → Nat} {x d : Nat} (hx : h x = g x + d) : ∀ {n : Nat}, x < n → (∀ k, k < n → k ≠ x → h k = g k) → sN h n = sN g n + d
  | 0, h1, _ => absurd h1 (by omega)
  | n + 1, h1, ho => by
    simp only [sN]
    by_cases e : x = n
    · subst e
      rw [hx, sN_congr (g := h) (h := g) (fun k hk => ho k (by omega) (by omega))]; omega
    · rw [sN_at hx (by omega) (fun k hk => ho k (by omega)), ho n (by omega) (fun e' => e e'.symm)]; omega
theorem sN_one {g : Nat → Nat} {x n : Nat} (hx : x < n) (ho : ∀ k, k < n → k ≠ x → g k = 0) : sN g n = g x := by
  rw [sN_at (g := fun _ => 0) (x := x) (d := g x) (by simp) hx ho, sN_zero (fun _ _ => rfl)]; omega
theorem sN_le {g h : Nat → Nat} : ∀ {n : Nat}, (∀ k, k < n → g k ≤ h k) → sN g n ≤ sN h n
  | 0, _ => Nat.le_refl _
  | n + 1, hh => by
    simp only [sN]
    exact Nat.add_le_add (sN_le (fun k hk => hh k (by omega))) (hh n (by omega))
theorem sN_const (c : Nat) : ∀ n, sN (fun _ => c) n = n * c
  | 0 => by simp [sN]
  | n + 1 => by simp only [sN]; rw [sN_const c n, Nat.add_mul, Nat.one_mul]
theorem le_sN {g : Nat → Nat} {x : Nat} : ∀ {n : Nat}, x < n → g x ≤ sN g n
  | 0, h => absurd h (by omega)
  | n + 1, h => by
    simp only [sN]
    by_cases e : x = n
    · subst e; omega
    · have := le_sN (g := g) (n := n) (show x < n by omega); omega

/-! ### to take a row -/
/-- The sum of f over what is left of some limits when a row of a sum is taken from them. -/
def wS : List Nat → Nat → (List Nat → Nat) → Nat
  | [], s, f => if s = 0 then f [] else 0
  | l :: ls, s, f => sN (fun x => wS ls (s - x) (fun u => f ((l - x) :: u))) (min s l + 1)
/-- How many tables have these sums. -/
def wT : List Nat → List Nat → Nat
  | [], c => if c.all (· == 0) then 1 else 0
  | r :: rs, c => wS c r (wT rs)

theorem wS_zero : ∀ (ls : List Nat) (s : Nat), wS ls s (fun _ => 0) = 0
  | [], s => by simp [wS]
  | l :: ls, s => by simp only [wS]; exact sN_zero (fun k _ => wS_zero ls _)
theorem wS_add : ∀ (ls : List Nat) (s : Nat) (f g : List Nat → Nat), wS ls s (fun u => f u + g u) = wS ls s f + wS ls s g
  | [], s, f, g => by simp only [wS]; split <;> rfl
  | l :: ls, s, f, g => by
    simp only [wS]
    rw [← sN_add]
    exact sN_congr (fun k _ => wS_add ls _ _ _)
theorem wS_mul (c : Nat) : ∀ (ls : List Nat) (s : Nat) (f : List Nat → Nat), wS ls s (fun u => c * f u) = c * wS ls s f
  | [], s, f => by simp only [wS]; split <;> simp
  | l :: ls, s, f => by
    simp only [wS]
    rw [← sN_mul]
    exact sN_congr (fun k _ => wS_mul c ls _ _)
theorem wS_mulr (c : Nat) (ls : List Nat) (s : Nat) (f : List Nat → Nat) : wS ls s (fun u => f u * c) = wS ls s f * c := by
  rw [Nat.mul_comm, ← wS_mul]
  congr 1
  funext u
  exact Nat.mul_comm _ _
theorem wS_sN (ls : List Nat) (s : Nat) (F : Nat → List Nat → Nat) : ∀ n, wS ls s (fun u => sN (fun i => F i u) n) = sN (fun i => wS ls s (F i)) n
  | 0 => wS_zero ls s
  | n + 1 => by simp only [sN]; rw [wS_add, wS_sN ls s F n]
theorem wS_comm : ∀ (ls : List Nat) (s : Nat) (ms : List Nat) (t : Nat) (F : List Nat → List Nat → Nat),
    wS ls s (fun u => wS ms t (fun v => F u v)) = wS ms t (fun v => wS ls s (fun u => F u v))
  | [], s, ms, t, F => by
    simp only [wS]
    split
    · rfl
    · exact (wS_zero ms t).symm
  | l :: ls, s, ms, t, F => by
    simp only [wS]
    rw [wS_sN ms t (fun x v => wS ls (s - x) (fun u => F ((l - x) :: u) v))]
    exact sN_congr (fun k _ => wS_comm ls _ ms t _)
theorem wT_col : ∀ (rs : List Nat) (c : Nat) (cs : List Nat), wT rs (c :: cs) = wS rs c (fun v => wT v cs)
  | [], c, cs => by
    simp only [wT, wS, List.all_cons, Bool.and_eq_true, beq_iff_eq]
    by_cases h : c = 0
    · simp [h]
    · simp [h]
  | r :: rs, c, cs => by
    show wS (c :: cs) r (wT rs) = wS (r :: rs) c (fun v => wT v cs)
    simp only [wS]
    rw [Nat.min_comm]
    refine sN_congr (fun x _ => ?_)
    have e : (fun u => wT rs ((c - x) :: u)) = fun u => wS rs (c - x) (fun v => wT v u) := by
      funext u
      exact wT_col rs (c - x) u
    rw [e, wS_comm]
    rfl
theorem wT_nil : ∀ rs : List Nat, wT rs [] = wT [] rs
  | [] => rfl
  | r :: rs => by
    show wS [] r (wT rs) = _
    simp only [wS]
    rw [wT_nil rs]
    simp only [wT, List.all_cons, Bool.and_eq_true, beq_iff_eq]
    by_cases h : r = 0
    · simp [h]
    · simp [h]
/-- The number of tables is the same for the table that is turned round. -/
theorem wT_symm : ∀ (cs rs : List Nat), wT rs cs = wT cs rs
  | [], rs => wT_nil rs
  | c :: cs, rs => by
    rw [wT_col]
    show _ = wS rs c (wT cs)
    congr 1
    funext v
    exact wT_symm cs v
/-- Only what can be left counts. -/
theorem wS_congr : ∀ {ls : List Nat} {s : Nat} {f g : List Nat → Nat}, (∀ x ∈ ls, x < 25) → (∀ u : List Nat, u.length = ls.length → (∀ x ∈ u, x < 25) → f u = g u) → wS ls s f = wS ls s g
  | [], s, f, g, _, h => by
    simp only [wS]
    rw [h [] rfl (fun x hx => by cases hx)]
  | l :: ls, s, f, g, hl, h => by
    simp only [wS]
    refine sN_congr (fun k _ => wS_congr (fun x hx => hl x (by simp [hx])) (fun u hu hx => h _ (by simp [hu]) (fun x hx' => ?_)))
    rcases List.mem_cons.1 hx' with rfl | hx'
    · have := hl l (by simp); omega
    · exact hx x hx'
theorem wS_one_le : ∀ {ls : List Nat} {s : Nat}, (∀ x ∈ ls, x < 25) → wS ls s (fun _ => 1) ≤ 25 ^ ls.length
  | [], s, _ => by simp only [wS]; split <;> simp
  | l :: ls, s, hl => by
    simp only [wS]
    have h1 : sN (fun x => wS ls (s - x) (fun _ => 1)) (min s l + 1) ≤ sN (fun _ => 25 ^ ls.length) (min s l + 1) := sN_le (fun k _ => wS_one_le (fun x hx => hl x (by simp [hx])))
    rw [sN_const] at h1
    have h2 := hl l (by simp)
    have h3 : (min s l + 1) * 25 ^ ls.length ≤ 25 * 25 ^ ls.length := Nat.mul_le_mul_right _ (by omega)
    rw [List.length_cons, Nat.pow_succ]
    omega
/-- The last one takes what is left. -/
theorem wS_last (l s : Nat) (f : List Nat → Nat) : wS [l] s f = if s ≤ l then f [l - s] else 0 := by
  simp only [wS]
  by_cases h : s ≤ l
  · rw [if_pos h, sN_one (x := s) (by omega) (fun k hk hne => by rw [if_neg (by omega)]), if_pos (by omega)]
  · rw [if_neg h]
    exact sN_zero (fun k hk => by rw [if_neg (by omega)])

/-! ### codes -/
def code (v : List Nat) : Nat := v.foldl (fun a d => a * 25 + d) 0
theorem code_snoc (v : List Nat) (d : Nat) : code (v ++ [d]) = code v * 25 + d := by simp [code]
def digs : Nat → Nat → List Nat
  | 0, _ => []
  | C + 1, n => digs C (n / 25) ++ [n % 25]
theorem digs_len : ∀ (C n : Nat), (digs C n).length = C
  | 0, _ => rfl
  | C + 1, n => by simp [digs, digs_len C]
theorem digs_lt : ∀ {C n : Nat}, ∀ x ∈ digs C n, x < 25
  | 0, _, x, h => by cases h
  | C + 1, n, x, h => by
    simp only [digs, List.mem_append, List.mem_singleton] at h
    rcases h with h | rfl
    · exact digs_lt x h
    · omega
theorem code_digs : ∀ {C n : Nat}, n < 25 ^ C → code (digs C n) = n
  | 0, n, h => by simp at h; subst h; rfl
  | C + 1, n, h => by
    rw [Nat.pow_succ] at h
    rw [digs, code_snoc, code_digs (by omega)]
    omega
theorem code_lt : ∀ {C : Nat} {v : List Nat}, v.length = C → (∀ x ∈ v, x < 25) → code v < 25 ^ C
  | 0, v, h, _ => by
    rw [List.length_eq_zero_iff.1 h]; simp [code]
  | C + 1, v, h, hv => by
    rcases List.eq_nil_or_concat v with rfl | ⟨l, d, rfl⟩
    · simp at h
    · rw [List.concat_eq_append] at h hv ⊢
      have := code_lt (C := C) (v := l) (by simpa using h) (fun x hx => hv x (by simp [hx]))
      have hd := hv d (by simp)
      rw [code_snoc, Nat.pow_succ]
      omega
theorem digs_code : ∀ {C : Nat} {v : List Nat}, v.length = C → (∀ x ∈ v, x < 25) → digs C (code v) = v
  | 0, v, h, _ => by rw [List.length_eq_zero_iff.1 h]; rfl
  | C + 1, v, h, hv => by
    rcases List.eq_nil_or_concat v with rfl | ⟨l, d, rfl⟩
    · simp at h
    · rw [List.concat_eq_append] at h hv ⊢
      have hd := hv d (by simp)
      rw [code_snoc, digs, show (code l * 25 + d) / 25 = code l by omega, show (code l * 25 + d) % 25 = d by omega,
        digs_code (C := C) (by simpa using h) (fun x hx => hv x (by simp [hx]))]
theorem code_inj {u v : List Nat} (hl : u.length = v.length) (hu : ∀ x ∈ u, x < 25) (hv : ∀ x ∈ v, x < 25) (h : code u = code v) : u = v :=
   (digs_code hl hu).symm.trans (by rw [h]; exact digs_code rfl hv)

/-! ### the counts of what is left -/
/-- In how many ways a row of sum s, taken from the limits ls behind pre, leads to the code n. -/
def wA (pre ls : List Nat) (s n : Nat) : Nat := wS ls s (fun u => if code (pre ++ u) = n then 1 else 0)
theorem wA_nil (pre : List Nat) (s n : Nat) : wA pre [] s n = if s = 0 then (if code pre = n then 1 else 0) else 0 := by
  simp [wA, wS]
theorem wA_cons (pre : List Nat) (l : Nat) (ls : List Nat) (s n : Nat) : wA pre (l :: ls) s n = sN (fun x => wA (pre ++ [l - x]) ls (s - x) n) (min s l + 1) := by
  simp only [wA, wS, List.append_assoc, List.singleton_append]
theorem wA_last (pre : List Nat) (l s n : Nat) : wA pre [l] s n = if s ≤ l then (if code (pre ++ [l - s]) = n then 1 else 0) else 0 := by
  unfold wA; rw [wS_last]
/-- Summed up with weights. -/
theorem wA_sum {pre ls : List Nat} {C : Nat} (hC : pre.length + ls.length = C) (hp : ∀ x ∈ pre, x < 25) (hl : ∀ x ∈ ls, x < 25) (s : Nat) (g : Nat → Nat) :
    sN (fun n => wA pre ls s n * g n) (25 ^ C) = wS ls s (fun u => g (code (pre ++ u))) := by
  have e : (fun n => wA pre ls s n * g n) = fun n => wS ls s (fun u => (if code (pre ++ u) = n then 1 else 0) * g n) := by
    funext n
    exact (wS_mulr (g n) ls s _).symm
  rw [e, ← wS_sN]
  refine wS_congr hl (fun u hu hx => ?_)
  have hlt : code (pre ++ u) < 25 ^ C := code_lt (by simp; omega) (fun x hx' => by
    rcases List.mem_append.1 hx' with h | h
    · exact hp x h
    · exact hx x h)
  rw [sN_one hlt (fun k _ hk => by rw [if_neg (Ne.symm hk)]; simp)]
  simp
/-- One row more. -/
def wNext (C r : Nat) (W : Nat → Nat) (n : Nat) : Nat := sN (fun k => W k * wA [] (digs C k) r n) (25 ^ C)
theorem wNext_sum (C r : Nat) (W g : Nat → Nat) : sN (fun n => wNext C r W n * g n) (25 ^ C) = sN (fun k => W k * wS (digs C k) r (fun u => g (code u))) (25 ^ C) := by
  have e : (fun n => wNext C r W n * g n) = fun n => sN (fun k => W k * (wA [] (digs C k) r n * g n)) (25 ^ C) := by
    funext n
    unfold wNext
    rw [← sN_mulr]
    exact sN_congr (fun k _ => Nat.mul_assoc _ _ _)
  rw [e, sN_comm]
  refine sN_congr (fun k _ => ?_)
  rw [sN_mul, wA_sum (C := C) (by simp [digs_len]) (fun x hx => by cases hx) digs_lt]
  rfl
def wAll (C : Nat) : List Nat → (Nat → Nat) → Nat → Nat
  | [], W => W
  | r :: rs, W => wAll C rs (wNext C r W)
theorem wAll_snoc (C : Nat) : ∀ (rs : List Nat) (r : Nat) (W : Nat → Nat), wAll C (rs ++ [r]) W = wNext C r (wAll C rs W)
  | [], _, _ => rfl
  | x :: rs, r, W => wAll_snoc C rs r (wNext C x W)
theorem wAll_sum (C : Nat) : ∀ (rs : List Nat) (W : Nat → Nat), sN (fun n => wAll C rs W n * wT [] (digs C n)) (25 ^ C) = sN (fun n => W n * wT rs (digs C n)) (25 ^ C)
  | [], _ => rfl
  | r :: rs, W => by
    show sN (fun n => wAll C rs (wNext C r W) n * wT [] (digs C n)) (25 ^ C) = _
    rw [wAll_sum C rs (wNext C r W), wNext_sum C r W (fun n => wT rs (digs C n))]
    refine sN_congr (fun k _ => ?_)
    show _ * wS (digs C k) r _ = _ * wS (digs C k) r (wT rs)
    congr 1
    exact wS_congr digs_lt (fun u hu hx => by rw [digs_code (hu.trans (digs_len C k)) hx])
theorem wAll_tot (C : Nat) : ∀ (rs : List Nat) (W : Nat → Nat), sN (wAll C rs W) (25 ^ C) ≤ sN W (25 ^ C) * (25 ^ C) ^ rs.length
  | [], W => by simp [wAll]
  | r :: rs, W => by
    have h1 := wAll_tot C rs (wNext C r W)
    have h2 := wNext_sum C r W (fun _ => 1)
    simp only [Nat.mul_one] at h2
    have h3 : sN (fun k => W k * wS (digs C k) r (fun _ => 1)) (25 ^ C) ≤ sN (fun k => W k * 25 ^ C) (25 ^ C) := sN_le (fun k _ => Nat.mul_le_mul_left _ (by have := wS_one_le (ls := digs C k) (s := r) digs_lt; rwa [digs_len] at this))
    rw [sN_mulr] at h3
    have h2' : sN (wNext C r W) (25 ^ C) ≤ sN W (25 ^ C) * 25 ^ C := by
      rw [show wNext C r W = fun n => wNext C r W n from rfl, h2]; exact h3
    refine Nat.le_trans h1 (Nat.le_trans (Nat.mul_le_mul_right _ h2') ?_)
    rw [List.length_cons, Nat.pow_succ, Nat.mul_assoc, Nat.mul_comm (25 ^ C) _]
    exact Nat.le_refl _
/-- At the start: the sums of the columns, once. -/
def wOne (b : List Nat) (n : Nat) : Nat := if n = code b then 1 else 0
theorem sN_wOne {b : List Nat} {C : Nat} (hb : b.length = C) (hx : ∀ x ∈ b, x < 25) (g : Nat → Nat) : sN (fun n => wOne b n * g n) (25 ^ C) = g (code b) := by
  rw [sN_one (code_lt hb hx) (fun k _ hk => by unfold wOne; rw [if_neg hk]; simp)]
  simp [wOne]
theorem wT_zero {C n : Nat} (hn : n < 25 ^ C) : wT [] (digs C n) = if n = 0 then 1 else 0 := by
  have h : ∀ C : Nat, digs C 0 = List.replicate C 0 := fun C => by
    induction C with
    | zero => rfl
    | succ C ih => simp [digs, ih, List.replicate_succ']
  have h2 : code (List.replicate C 0) = 0 := by rw [← h]; exact code_digs (Nat.pow_pos (by omega))
  simp only [wT]
  by_cases e : n = 0
  · subst e
    rw [h]
    simp
  · rw [if_neg e, if_neg]
    intro hall
    apply e
    have : digs C n = List.replicate C 0 := List.eq_replicate_iff.2 ⟨digs_len C n, fun x hx => by simpa using List.all_eq_true.1 hall x hx⟩
    rw [← code_digs hn, this, h2]
theorem wAll_zero {C : Nat} (rs : List Nat) {b : List Nat} (hb : b.length = C) (hx : ∀ x ∈ b, x < 25) : wAll C rs (wOne b) 0 = wT rs b := by
  have h1 := wAll_sum C rs (wOne b)
  rw [sN_wOne hb hx, digs_code hb hx] at h1
  rw [← h1, sN_one (x := 0) (Nat.pow_pos (by omega)) (fun k hk hne => by rw [wT_zero hk, if_neg hne]; simp), wT_zero (Nat.pow_pos (by omega))]
  simp
theorem wAll_le {C : Nat} (rs : List Nat) {b : List Nat} (hb : b.length = C) (hx : ∀ x ∈ b, x < 25) {n : Nat} (hn : n < 25 ^ C) : wAll C rs (wOne b) n ≤ 25 ^ (C * rs.length) := by
  have h1 := wAll_tot C rs (wOne b)
  have h2 := sN_wOne hb hx (fun _ => 1)
  simp only [Nat.mul_one] at h2
  rw [show sN (wOne b) (25 ^ C) = 1 from h2, Nat.one_mul, ← Nat.pow_mul] at h1
  exact Nat.le_trans (le_sN hn) h1
end Go.Proofs.Ytmhmekfbnaafmaa
