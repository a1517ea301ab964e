/-
  Means and moments of shares, nearly.
-/
import Derived.Test.YtimpabceellihaaGood
import Derived.Test.YtimpabceellihaaMoment2
namespace Go.Proofs.Ytimpabceellihaa
open Go.RowKit

theorem fold_zip {α β γ : Type} (g : γ → α → β → γ) (xs : List α) (ys : List β) (a0 : α) (b0 : β) (hl : ys.length = xs.length) (z : γ) :
    (List.range xs.length).foldl (fun s i => g s (xs.getD i a0) (ys.getD i b0)) z = (xs.zip ys).foldl (fun s p => g s p.1 p.2) z := by
  have h : (List.range xs.length).map (fun i => (xs.getD i a0, ys.getD i b0)) = xs.zip ys := by
    apply List.ext_getElem
    · rw [List.length_map, List.length_range, List.length_zip]; omega
    · intro i h1 h2
      rw [List.length_map, List.length_range] at h1
      rw [List.getElem_map, List.getElem_range, List.getElem_zip, List.getD_eq_getElem?_getD, List.getD_eq_getElem?_getD, List.getElem?_eq_getElem h1, List.getElem?_eq_getElem (by omega)]; rfl
  rw [← h, List.foldl_map]
theorem fold_some {γ : Type} (g : γ → Nat → Option Nat → γ) : ∀ (xs ys : List Nat) (z : γ), (∀ y ∈ ys, absF .f32 y = some y) →
    (xs.zip ys).foldl (fun s p => g s p.1 (absF .f32 p.2)) z = (xs.zip (ys.map some)).foldl (fun s p => g s p.1 p.2) z
  | [], _, _, _ => by simp
  | _ :: _, [], _, _ => by simp
  | x :: xs, y :: ys, z, h => by
    simp only [List.map_cons, List.zip_cons_cons, List.foldl_cons]
    rw [h y (by simp)]
    exact fold_some g xs ys _ (fun u hu => h u (by simp [hu]))
/-- A sum of terms that are nearly these. -/
theorem sum_near {α : Type} {E : Int} (hE : inG .f32 (E - 24)) (hR : RepK .f32 (p2 E)) (τ : α → Option Nat) (e m : α → Rat) (ε : Rat) (hε : 0 ≤ ε) :
    ∀ (L : List α) (d : Option Nat) (r0 s0 M0 : Rat) (k : Rat), 0 ≤ k → Vl .f32 d r0 → s0 - k * (ε + p2 (E - 24)) ≤ r0 → r0 ≤ s0 + k * (ε + p2 (E - 24)) → -M0 ≤ s0 → s0 ≤ M0 →
      (∀ p ∈ L, ∃ q, Vl .f32 (τ p) q ∧ e p - ε ≤ q ∧ q ≤ e p + ε) → (∀ p ∈ L, -m p ≤ e p ∧ e p ≤ m p) → M0 + (L.map m).sum + (k + (L.length : Rat)) * (ε + p2 (E - 24)) ≤ p2 E →
      ∃ r, Vl .f32 (L.foldl (fun s p => opF .add .f32 s (τ p)) d) r ∧ s0 + (L.map e).sum - (k + (L.length : Rat)) * (ε + p2 (E - 24)) ≤ r ∧ r ≤ s0 + (L.map e).sum + (k + (L.length : Rat)) * (ε + p2 (E - 24))
  | [], d, r0, s0, M0, k, _, hd, h1, h2, _, _, _, _, _ => by
    refine ⟨r0, hd, ?_, ?_⟩
    · show s0 + 0 - (k + ((0 : Nat) : Rat)) * _ ≤ r0
      have : ((0 : Nat) : Rat) = 0 := rfl
      rw [this]; grind
    · show r0 ≤ s0 + 0 + (k + ((0 : Nat) : Rat)) * _
      have : ((0 : Nat) : Rat) = 0 := rfl
      rw [this]; grind
  | p :: L, d, r0, s0, M0, k, hk, hd, h1, h2, h3, h4, hq, hm, hE' => by
    obtain ⟨q, vq, q1, q2⟩ := hq p (by simp)
    obtain ⟨m1, m2⟩ := hm p (by simp)
    have hm' : ∀ x ∈ L, -m x ≤ e x ∧ e x ≤ m x := fun x hx => hm x (by simp [hx])
    have hmn : 0 ≤ (L.map m).sum := by
      clear hE' hq hm
      induction L with
      | nil => exact Rat.le_refl
      | cons x L ih =>
        have h1 := hm' x (by simp)
        have h2 := ih (fun y hy => hm' y (by simp [hy]))
        show 0 ≤ m x + (L.map m).sum
        grind
    have hlen : (((p :: L).length : Nat) : Rat) = (L.length : Rat) + 1 := by rw [List.length_cons]; exact Rat.natCast_add _ _
    have es : ((p :: L).map m).sum = m p + (L.map m).sum := by simp
    have ee : ((p :: L).map e).sum = e p + (L.map e).sum := by simp
    rw [hlen, es] at hE'
    rw [hlen, ee]
    have hη := p2_pos (E - 24)
    have hL : (0 : Rat) ≤ (L.length : Rat) := Rat.natCast_nonneg
    have hLη := Rat.mul_nonneg hL (b := ε + p2 (E - 24)) (by grind)
    have hkη := Rat.mul_nonneg hk (b := ε + p2 (E - 24)) (by grind)
    obtain ⟨r, hr, hn⟩ := vl_add hd vq (lo := -p2 E) (hi := p2 E) (rep_neg hR) hR (by grind) (by grind)
    have he := hn.err (e := E - 24) hE (by rw [gB32, show E - 24 + 24 = E by omega]; grind) (by rw [gB32, show E - 24 + 24 = E by omega]; grind)
    obtain ⟨r', hr', a, b⟩ := sum_near hE hR τ e m ε hε L (opF .add .f32 d (τ p)) r (s0 + e p) (M0 + m p) (k + 1) (by grind) hr (by grind) (by grind) (by grind) (by grind) (fun x hx => hq x (by simp [hx])) hm' (by grind)
    exact ⟨r', hr', by grind, by grind⟩
/-- A share whose words are at hand. -/
structure GSh (G : List (Nat × Option Nat)) (x0 x1 : List Nat) : Prop where
  e0 : x0 = G.map Prod.fst
  e1 : x1.map some = G.map Prod.snd
  ok : shareB x0 x1 = true
  ch : ∀ p ∈ G, OkC p.2
  len : G.length ≤ 64
  t1 : 1 - p2 (-11) ≤ Ph one G
  t2 : Ph one G ≤ 1 + p2 (-11)
section
variable {G : List (Nat × Option Nat)} {x0 x1 : List Nat}
theorem GSh.l0 (h : GSh G x0 x1) : x0.length = G.length := by rw [h.e0, List.length_map]
theorem GSh.l1 (h : GSh G x0 x1) : x1.length = G.length := by have := congrArg List.length h.e1; rwa [List.length_map, List.length_map] at this
theorem GSh.zip (h : GSh G x0 x1) : x0.zip (x1.map some) = G := by
  rw [h.e1, h.e0]
  have : ∀ l : List (Nat × Option Nat), (l.map Prod.fst).zip (l.map Prod.snd) = l := fun l => by
    induction l with
    | nil => rfl
    | cons p l ih => simp [ih]
  exact this G
theorem share_fin0 {x0 x1 : List Nat} (h : shareB x0 x1 = true) : x0.all finB = true := by
  unfold shareB at h
  simp only [Bool.and_eq_true] at h
  exact h.1.1.2
theorem GSh.abs1 (h : GSh G x0 x1) : ∀ y ∈ x1, absF .f32 y = some y := by
  intro y hy
  have : some y ∈ G.map Prod.snd := by rw [← h.e1]; exact List.mem_map_of_mem hy
  obtain ⟨p, hp, e⟩ := List.mem_map.1 this
  have := (h.ch p hp).1
  rw [e] at this
  exact (vl_fin this).2
theorem GSh.fin (h : GSh G x0 x1) : ∀ p ∈ G, finB p.1 = true := fun p hp => List.all_eq_true.1 (share_fin0 h.ok) p.1 (by rw [h.e0]; exact List.mem_map_of_mem hp)
theorem GSh.dot (h : GSh G x0 x1) : dotTo x0 x1 x0.length = G.foldl (fun s p => opF .add .f32 s (opF .mul .f32 (absF .f32 p.1) p.2)) (some 0) := by
  unfold dotTo
  rw [fold_zip (fun s a b => opF .add .f32 s (opF .mul .f32 (absF .f32 a) (absF .f32 b))) x0 x1 0 0 (by rw [h.l0, h.l1]), fold_some (fun s a b => opF .add .f32 s (opF .mul .f32 (absF .f32 a) b)) x0 x1 _ h.abs1, h.zip]
theorem GSh.mom (h : GSh G x0 x1) (m : Option Nat) (n : Nat) : momTo x0 x1 m n x0.length = G.foldl (fun s p => opF .add .f32 s (powTo p.2 (opF .sub .f32 (absF .f32 p.1) m) n)) (some 0) := by
  unfold momTo
  rw [fold_zip (fun s a b => opF .add .f32 s (powTo (absF .f32 b) (opF .sub .f32 (absF .f32 a) m) n)) x0 x1 0 0 (by rw [h.l0, h.l1]), fold_some (fun s a b => opF .add .f32 s (powTo b (opF .sub .f32 (absF .f32 a) m) n)) x0 x1 _ h.abs1, h.zip]
def idq (v : Rat) : Rat := v
theorem wo_le (h : ∀ p ∈ G, OkC p.2) {p : Nat × Option Nat} (hp : p ∈ G) : wo p.2 ≤ Ph one G := by
  induction G with
  | nil => cases hp
  | cons q G ih =>
    have hq := (h q (by simp)).2
    have hn := ph_nn (s := G) (fun x hx => h x (by simp [hx]))
    have e : Ph one (q :: G) = 1 * wo q.2 + Ph one G := ph_cons _ _ _
    rcases List.mem_cons.1 hp with rfl | hp
    · grind
    · have := ih (fun x hx => h x (by simp [hx])) hp
      grind
theorem ph_scale (F : Rat) : ∀ G : List (Nat × Option Nat), (G.map fun p => F * wo p.2).sum = F * Ph one G
  | [] => by show (0 : Rat) = F * 0; grind
  | p :: G => by
    have e : Ph one (p :: G) = 1 * wo p.2 + Ph one G := ph_cons _ _ _
    have e2 : ((p :: G).map fun p => F * wo p.2).sum = F * wo p.2 + (G.map fun p => F * wo p.2).sum := by simp
    rw [e, e2, ph_scale F G]; grind
/-- The mean of a share whose values are at most 12 off 0. -/
theorem GSh.mean (h : GSh G x0 x1) (hv : ∀ p ∈ G, -12 ≤ val p.1 ∧ val p.1 ≤ 12) :
    ∃ M r, dotTo x0 x1 x0.length = some M ∧ Vl .f32 (some M) r ∧ meanOk x0 x1 = true ∧ meanV x0 x1 = some M ∧ Ph idq G - (G.length : Rat) * p2 (-19) ≤ r ∧ r ≤ Ph idq G + (G.length : Rat) * p2 (-19) := by
  have q23 := p2_23
  have q11 : p2 (-11) * 2048 = 1 := p2m 11
  have q20 : p2 (-20) * 1048576 = 1 := p2m 20
  have q19 : p2 (-19) = 2 * p2 (-20) := by rw [show (-19 : Int) = -20 + ((1 : Nat) : Int) by omega, p2_add, p2_nat, Rat.mul_comm]; rfl
  have q4 : p2 4 = 16 := p2_nat 4
  have ht2 := h.t2
  have hn : (G.length : Rat) ≤ 64 := Rat.natCast_le_natCast.2 h.len
  have hn0 : (0 : Rat) ≤ (G.length : Rat) := Rat.natCast_nonneg
  have b2 := Rat.mul_le_mul_of_nonneg_right hn (p2_nn (-20))
  obtain ⟨r, hr, a, b⟩ := sum_near (E := 4) (in32 (by omega) (by omega)) (rep32 (by omega) (by omega)) (fun p : Nat × Option Nat => opF .mul .f32 (absF .f32 p.1) p.2) (fun p => idq (val p.1) * wo p.2) (fun p => 12 * wo p.2) (p2 (-20)) (p2_nn _) G (some 0) 0 0 0 0 Rat.le_refl vl_zero (by grind) (by grind) (by grind) (by grind)
    (fun p hp => by
      have hf := h.fin p hp
      have vf := fin_vl hf
      have hc := h.ch p hp
      have hw := wo_le h.ch hp
      obtain ⟨v1, v2⟩ := hv p hp
      have hb := mul_bd v1 v2 (b := wo p.2) (B := wo p.2) (by have := hc.2; grind) Rat.le_refl
      rw [(vl_fin vf).2]
      obtain ⟨r, hr, hn⟩ := vl_mul vf hc.1 (lo := -p2 4) (hi := p2 4) (rep_neg (rep32 (by omega) (by omega))) (rep32 (by omega) (by omega)) (by rw [q4]; grind) (by rw [q4]; grind)
      have he := hn.err (e := -20) (in32 (by omega) (by omega)) (by rw [gB32, show (-20 : Int) + 24 = 4 by omega, q4]; grind) (by rw [gB32, show (-20 : Int) + 24 = 4 by omega, q4]; grind)
      exact ⟨r, hr, he.1, he.2⟩)
    (fun p hp => by
      have hc := (h.ch p hp).2
      obtain ⟨v1, v2⟩ := hv p hp
      have hb := mul_bd v1 v2 (b := wo p.2) (B := wo p.2) (by grind) Rat.le_refl
      exact hb)
    (by rw [ph_scale, q4, show (4 : Int) - 24 = -20 by omega]; grind)
  rw [← h.dot] at hr
  have hr' := hr
  obtain ⟨M, eM, hM⟩ := hr
  have hfin : finB M = true := (vl_fin (q := r) ⟨M, rfl, hM⟩).1
  have hok : meanOk x0 x1 = true := by unfold meanOk; rw [h.ok, eM]; exact hfin
  rw [show (4 : Int) - 24 = -20 by omega] at a b
  have es : (G.map fun p => idq (val p.1) * wo p.2).sum = Ph idq G := rfl
  rw [es] at a b
  refine ⟨M, r, eM, by rwa [eM] at hr', hok, by unfold meanV; rw [if_pos hok, eM], ?_, ?_⟩
  · rw [q19]; grind
  · rw [q19]; grind
def sqd (m v : Rat) : Rat := (v - m) * (v - m)
def dif (m v : Rat) : Rat := v - m
/-- A difference and its product with a chance. -/
theorem GSh.term (h : GSh G x0 x1) (hv : ∀ p ∈ G, -8 ≤ val p.1 ∧ val p.1 ≤ 8) {M : Nat} {m : Rat} (hM : Vl .f32 (some M) m) (m1 : -9 ≤ m) (m2 : m ≤ 9) {p : Nat × Option Nat} (hp : p ∈ G) :
    ∃ d t, Vl .f32 (opF .sub .f32 (absF .f32 p.1) (some M)) d ∧ val p.1 - m - p2 (-19) ≤ d ∧ d ≤ val p.1 - m + p2 (-19) ∧ Vl .f32 (opF .mul .f32 p.2 (opF .sub .f32 (absF .f32 p.1) (some M))) t ∧ wo p.2 * d - p2 (-19) ≤ t ∧ t ≤ wo p.2 * d + p2 (-19) ∧ 0 ≤ wo p.2 ∧ wo p.2 * 1024 ≤ 1025 := by
  have q19 : p2 (-19) * 524288 = 1 := p2m 19
  have q11 : p2 (-11) * 2048 = 1 := p2m 11
  have q5 : p2 5 = 32 := p2_nat 5
  have ht2 := h.t2
  have vf := fin_vl (h.fin p hp)
  have hc := h.ch p hp
  have hc0 := hc.2
  have hw := wo_le h.ch hp
  obtain ⟨v1, v2⟩ := hv p hp
  rw [(vl_fin vf).2]
  obtain ⟨d, hd, hn⟩ := vl_sub vf hM (lo := -p2 5) (hi := p2 5) (rep_neg (rep32 (by omega) (by omega))) (rep32 (by omega) (by omega)) (by rw [q5]; grind) (by rw [q5]; grind)
  have he := hn.err (e := -19) (in32 (by omega) (by omega)) (by rw [gB32, show (-19 : Int) + 24 = 5 by omega, q5]; grind) (by rw [gB32, show (-19 : Int) + 24 = 5 by omega, q5]; grind)
  have hb := mul_bd (a := wo p.2) (A := wo p.2) (by grind) Rat.le_refl (b := d) (B := 18) (by grind) (by grind)
  obtain ⟨t, ht, hn2⟩ := vl_mul hc.1 hd (lo := -p2 5) (hi := p2 5) (rep_neg (rep32 (by omega) (by omega))) (rep32 (by omega) (by omega)) (by rw [q5]; grind) (by rw [q5]; grind)
  have he2 := hn2.err (e := -19) (in32 (by omega) (by omega)) (by rw [gB32, show (-19 : Int) + 24 = 5 by omega, q5]; grind) (by rw [gB32, show (-19 : Int) + 24 = 5 by omega, q5]; grind)
  exact ⟨d, t, hd, he.1, he.2, ht, he2.1, he2.2, hc0, by grind⟩
theorem GSh.mom1 (h : GSh G x0 x1) (hv : ∀ p ∈ G, -8 ≤ val p.1 ∧ val p.1 ≤ 8) {M : Nat} {m : Rat} (hM : Vl .f32 (some M) m) (m1 : -9 ≤ m) (m2 : m ≤ 9) (hok : meanOk x0 x1 = true) (hmv : meanV x0 x1 = some M) :
    ∃ V r, Vl .f32 (some V) r ∧ momOk x0 x1 1 = true ∧ momV x0 x1 1 = some V ∧ Ph (dif m) G - (G.length : Rat) * p2 (-16) ≤ r ∧ r ≤ Ph (dif m) G + (G.length : Rat) * p2 (-16) := by
  have q19 : p2 (-19) * 524288 = 1 := p2m 19
  have q11 : p2 (-11) * 2048 = 1 := p2m 11
  have q17 : p2 (-17) = 4 * p2 (-19) := by rw [show (-17 : Int) = -19 + ((2 : Nat) : Int) by omega, p2_add, p2_nat, Rat.mul_comm]; rfl
  have q16 : p2 (-16) = 8 * p2 (-19) := by rw [show (-16 : Int) = -19 + ((3 : Nat) : Int) by omega, p2_add, p2_nat, Rat.mul_comm]; rfl
  have q5 : p2 5 = 32 := p2_nat 5
  have ht2 := h.t2
  have hn : (G.length : Rat) ≤ 64 := Rat.natCast_le_natCast.2 h.len
  have hn0 : (0 : Rat) ≤ (G.length : Rat) := Rat.natCast_nonneg
  have b2 := Rat.mul_le_mul_of_nonneg_right hn (p2_nn (-19))
  have b3 := Rat.mul_nonneg hn0 (p2_nn (-19))
  obtain ⟨r, hr, a, b⟩ := sum_near (E := 5) (in32 (by omega) (by omega)) (rep32 (by omega) (by omega)) (fun p : Nat × Option Nat => powTo p.2 (opF .sub .f32 (absF .f32 p.1) (some M)) 1) (fun p => dif m (val p.1) * wo p.2) (fun p => 17 * wo p.2) (p2 (-17)) (p2_nn _) G (some 0) 0 0 0 0 Rat.le_refl vl_zero (by grind) (by grind) (by grind) (by grind)
    (fun p hp => by
      obtain ⟨d, t, hd, d1, d2, ht, t1, t2, c0, c1⟩ := h.term hv hM m1 m2 hp
      refine ⟨t, ht, ?_, ?_⟩
      all_goals
        have := mul_bd (a := wo p.2) (A := 2) (by grind) (by grind) (b := d - (val p.1 - m)) (B := p2 (-19)) (by grind) (by grind)
        unfold dif
        rw [q17]
        grind)
    (fun p hp => by
      have hc := (h.ch p hp).2
      obtain ⟨v1, v2⟩ := hv p hp
      exact mul_bd (a := dif m (val p.1)) (A := 17) (by unfold dif; grind) (by unfold dif; grind) (b := wo p.2) (B := wo p.2) (by grind) Rat.le_refl)
    (by rw [ph_scale, q5, show (5 : Int) - 24 = -19 by omega, q17]; grind)
  rw [← h.mom] at hr
  have hr' := hr
  obtain ⟨V, eV, hV⟩ := hr
  have hfin : finB V = true := (vl_fin (q := r) ⟨V, rfl, hV⟩).1
  have eR : momR x0 x1 1 = some V := by unfold momR; rw [hmv]; exact eV
  have hok1 : momOk x0 x1 1 = true := by unfold momOk momOk1; rw [hok, eR]; exact hfin
  rw [show (5 : Int) - 24 = -19 by omega] at a b
  have es : (G.map fun p => dif m (val p.1) * wo p.2).sum = Ph (dif m) G := rfl
  rw [es, q17] at a b
  refine ⟨V, r, by rwa [eV] at hr', hok1, by unfold momV; rw [if_pos hok1, eR], ?_, ?_⟩
  · rw [q16]; grind
  · rw [q16]; grind
theorem GSh.mom2 (h : GSh G x0 x1) (hv : ∀ p ∈ G, -8 ≤ val p.1 ∧ val p.1 ≤ 8) {M : Nat} {m : Rat} (hM : Vl .f32 (some M) m) (m1 : -9 ≤ m) (m2 : m ≤ 9) (hok : meanOk x0 x1 = true) (hmv : meanV x0 x1 = some M) :
    ∃ V r, Vl .f32 (some V) r ∧ momOk x0 x1 2 = true ∧ momV x0 x1 2 = some V ∧ Ph (sqd m) G - (G.length : Rat) * p2 (-11) ≤ r ∧ r ≤ Ph (sqd m) G + (G.length : Rat) * p2 (-11) := by
  have q19 : p2 (-19) * 524288 = 1 := p2m 19
  have q11 : p2 (-11) = 256 * p2 (-19) := by rw [show (-11 : Int) = -19 + ((8 : Nat) : Int) by omega, p2_add, p2_nat, Rat.mul_comm]; rfl
  have q12 : p2 (-12) = 128 * p2 (-19) := by rw [show (-12 : Int) = -19 + ((7 : Nat) : Int) by omega, p2_add, p2_nat, Rat.mul_comm]; rfl
  have q15 : p2 (-15) = 16 * p2 (-19) := by rw [show (-15 : Int) = -19 + ((4 : Nat) : Int) by omega, p2_add, p2_nat, Rat.mul_comm]; rfl
  have q9 : p2 9 = 512 := p2_nat 9
  have ht2 := h.t2
  have hn : (G.length : Rat) ≤ 64 := Rat.natCast_le_natCast.2 h.len
  have hn0 : (0 : Rat) ≤ (G.length : Rat) := Rat.natCast_nonneg
  have b2 := Rat.mul_le_mul_of_nonneg_right hn (p2_nn (-19))
  have b3 := Rat.mul_nonneg hn0 (p2_nn (-19))
  obtain ⟨r, hr, a, b⟩ := sum_near (E := 9) (in32 (by omega) (by omega)) (rep32 (by omega) (by omega)) (fun p : Nat × Option Nat => powTo p.2 (opF .sub .f32 (absF .f32 p.1) (some M)) 2) (fun p => sqd m (val p.1) * wo p.2) (fun p => 289 * wo p.2) (p2 (-12)) (p2_nn _) G (some 0) 0 0 0 0 Rat.le_refl vl_zero (by grind) (by grind) (by grind) (by grind)
    (fun p hp => by
      obtain ⟨d, t, hd, d1, d2, ht, t1, t2, c0, c1⟩ := h.term hv hM m1 m2 hp
      obtain ⟨v1, v2⟩ := hv p hp
      have B1 := mul_bd (a := wo p.2) (A := 1025 / 1024) (by grind) (by grind) (b := d) (B := 18) (by grind) (by grind)
      have B2 := mul_bd (a := t) (A := 19) (by grind) (by grind) (b := d) (B := 18) (by grind) (by grind)
      obtain ⟨r, hr, hn⟩ := vl_mul ht hd (lo := -p2 9) (hi := p2 9) (rep_neg (rep32 (by omega) (by omega))) (rep32 (by omega) (by omega)) (by rw [q9]; grind) (by rw [q9]; grind)
      have he := hn.err (e := -15) (in32 (by omega) (by omega)) (by rw [gB32, show (-15 : Int) + 24 = 9 by omega, q9]; grind) (by rw [gB32, show (-15 : Int) + 24 = 9 by omega, q9]; grind)
      have B3 := mul_bd (a := t - wo p.2 * d) (A := p2 (-19)) (by grind) (by grind) (b := d) (B := 18) (by grind) (by grind)
      have B4 := mul_bd (a := d - (val p.1 - m)) (A := p2 (-19)) (by grind) (by grind) (b := d + (val p.1 - m)) (B := 36) (by grind) (by grind)
      have B5 := mul_bd (a := wo p.2) (A := 1025 / 1024) (by grind) (by grind) (b := (d - (val p.1 - m)) * (d + (val p.1 - m))) (B := p2 (-19) * 36) (by grind) (by grind)
      refine ⟨r, hr, ?_, ?_⟩
      all_goals
        unfold sqd
        rw [q12]
        rw [q15] at he
        grind)
    (fun p hp => by
      have hc := (h.ch p hp).2
      obtain ⟨v1, v2⟩ := hv p hp
      have := mul_bd (a := val p.1 - m) (A := 17) (by grind) (by grind) (b := val p.1 - m) (B := 17) (by grind) (by grind)
      exact mul_bd (a := sqd m (val p.1)) (A := 289) (by unfold sqd; grind) (by unfold sqd; grind) (b := wo p.2) (B := wo p.2) (by grind) Rat.le_refl)
    (by rw [ph_scale, q9, show (9 : Int) - 24 = -15 by omega, q12, q15]; rw [q11] at ht2; grind)
  rw [← h.mom] at hr
  have hr' := hr
  obtain ⟨V, eV, hV⟩ := hr
  have hfin : finB V = true := (vl_fin (q := r) ⟨V, rfl, hV⟩).1
  have eR : momR x0 x1 2 = some V := by unfold momR; rw [hmv]; exact eV
  have hok1 : momOk x0 x1 2 = true := by unfold momOk momOk1; rw [hok, eR]; exact hfin
  rw [show (9 : Int) - 24 = -15 by omega] at a b
  have es : (G.map fun p => sqd m (val p.1) * wo p.2).sum = Ph (sqd m) G := rfl
  rw [es, q12, q15] at a b
  refine ⟨V, r, by rwa [eV] at hr', hok1, by unfold momV; rw [if_pos hok1, eR], ?_, ?_⟩
  · rw [q11]; grind
  · rw [q11]; grind
end
end Go.Proofs.Ytimpabceellihaa
