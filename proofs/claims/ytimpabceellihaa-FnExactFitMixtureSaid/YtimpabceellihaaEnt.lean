/-
  What bounds the entropy of a share: chances that nearly make one are at most 2, logarithms and sums stay small.
-/
import Derived.Test.YtimpabceellihaaLogN
import Derived.Test.YtimpabceellihaaShareIs
namespace Go.Proofs.Ytimpabceellihaa
open Go.RowKit

/-- At least a number of the format's, or above all. -/
def Up (R : Nat) (o : Option Nat) : Prop :=
  ∃ b, o = some b ∧ ((∃ s m p, FloatKind.f32.format.read b = .number s m p ∧ rV FloatKind.f32.format R ≤ vD (.number s m p)) ∨ FloatKind.f32.format.read b = .infinity false)
theorem Up.mono {R S : Nat} {o : Option Nat} (h : Up R o) (hle : S ≤ R) : Up S o := by
  obtain ⟨b, e, h⟩ := h
  refine ⟨b, e, ?_⟩
  rcases h with ⟨s, m, p, e1, h1⟩ | h
  · exact .inl ⟨s, m, p, e1, Rat.le_trans (rV_le _ hle) h1⟩
  · exact .inr h
theorem read_inf32 : FloatKind.f32.format.read (FloatKind.f32.encode (.infinity false)) = .infinity false := by decide
theorem up_near {R : Nat} {s : Bool} {m : Nat} {p : Int} (h : rV FloatKind.f32.format R ≤ vD (.number s m p)) : Up R (some (FloatKind.f32.encode (.number s m p))) := by
  refine ⟨_, rfl, ?_⟩
  show (∃ s' m' p', FloatKind.f32.format.read (FloatKind.f32.format.nearest s m p) = .number s' m' p' ∧ _) ∨ FloatKind.f32.format.read (FloatKind.f32.format.nearest s m p) = _
  by_cases hm : m = 0
  · subst hm
    left
    have e : FloatKind.f32.format.nearest s 0 p = FloatKind.f32.format.word s 0 := by unfold Ieee.Format.nearest; rw [if_pos rfl]
    rw [e]
    refine ⟨_, _, _, read_rung _ s (by decide), ?_⟩
    have h0 : vD (.number s 0 p) = 0 := by simp only [vD, mg_zero, sg_zero]
    have e1 : rM FloatKind.f32.format 0 = 0 := by decide
    rw [h0] at h
    simp only [vD, e1, mg_zero, sg_zero]
    exact h
  have hn := nearest_eq FloatKind.f32.format s p hm
  have hv := rV_nn FloatKind.f32.format R
  have hp := mg_pos hm p
  cases s
  case true => simp only [vD, sg_t] at h; exfalso; grind
  simp only [vD, sg_f] at h
  have hr := rung_lo FloatKind.f32.format hm h
  rw [hn]
  by_cases hlt : rungOf FloatKind.f32.format m p < FloatKind.f32.format.infRung
  · left
    rw [Nat.min_eq_left (Nat.le_of_lt hlt)]
    refine ⟨_, _, _, read_rung _ false hlt, ?_⟩
    simp only [vD, sg_f]
    rw [← rV_eq]
    exact rV_le _ hr
  · right
    rw [Nat.min_eq_right (by omega)]
    decide
theorem up_add {R S : Nat} {x y : Option Nat} (hx : Up R x) (hy : Up S y) : Up R (opF .add .f32 x y) ∧ Up S (opF .add .f32 x y) := by
  obtain ⟨u, rfl, hu⟩ := hx
  obtain ⟨v, rfl, hv⟩ := hy
  have eo : opF .add .f32 (some u) (some v) = ((FloatKind.f32.format.read u).sum (FloatKind.f32.format.read v)).map FloatKind.f32.format.write := rfl
  rw [eo]
  have hR := rV_nn FloatKind.f32.format R
  have hS := rV_nn FloatKind.f32.format S
  have hinf : ∀ T, Up T (some (FloatKind.f32.encode (.infinity false))) := fun T => ⟨_, rfl, .inr read_inf32⟩
  rcases hu with ⟨s, m, i, eu, hu⟩ | eu <;> rcases hv with ⟨t, n, j, ev, hv⟩ | ev <;> rw [eu, ev]
  · obtain ⟨r, l, p, es, hs⟩ := sum_val s m i t n j
    rw [es]
    exact ⟨up_near (by rw [hs]; grind), up_near (by rw [hs]; grind)⟩
  · exact ⟨hinf _, hinf _⟩
  · exact ⟨hinf _, hinf _⟩
  · exact ⟨hinf _, hinf _⟩
theorem foldl_up {R : Nat} : ∀ (l : List (Option Nat)) (a : Option Nat), (∀ x ∈ l, Up 0 x) → Up R a → Up R (l.foldl (opF .add .f32) a)
  | [], _, _, h => h
  | x :: t, a, hl, h => foldl_up t _ (fun y hy => hl y (by simp [hy])) (up_add h (hl x (by simp))).1
theorem foldl_up_mem {R : Nat} {c : Option Nat} : ∀ (l : List (Option Nat)) (a : Option Nat), (∀ x ∈ l, Up 0 x) → Up 0 a → c ∈ l → Up R c → Up R (l.foldl (opF .add .f32) a)
  | [], _, _, _, hc, _ => by cases hc
  | x :: t, a, hl, ha, hc, h => by
    rcases List.mem_cons.1 hc with rfl | hc
    · exact foldl_up t _ (fun y hy => hl y (by simp [hy])) (up_add ha h).2
    · exact foldl_up_mem t _ (fun y hy => hl y (by simp [hy])) (up_add ha (hl x (by simp))).1 hc h
theorem rV_two : rV FloatKind.f32.format 1073741824 = p2 1 := by
  rw [rV_eq, show rM FloatKind.f32.format 1073741824 = 2 ^ 23 from by decide, show FloatKind.f32.format.leastPlace + (rJ FloatKind.f32.format 1073741824 : Nat) = -22 from by decide, mg_pow]
  rfl
theorem rV_one : rV FloatKind.f32.format 1065353216 = p2 0 := by
  rw [rV_eq, show rM FloatKind.f32.format 1065353216 = 2 ^ 23 from by decide, show FloatKind.f32.format.leastPlace + (rJ FloatKind.f32.format 1065353216 : Nat) = -23 from by decide, mg_pow]
  rfl
theorem up_far {s : Option Nat} (h : Up 1073741824 s) : nearA s = false := by
  have hd : Up 1065353216 (opF .sub .f32 s (some 1065353216)) := by
    obtain ⟨u, rfl, hu⟩ := h
    have eo : opF .sub .f32 (some u) (some 1065353216) = ((FloatKind.f32.format.read u).sum (FloatKind.f32.format.read 1065353216).opposite).map FloatKind.f32.format.write := rfl
    have r1 : (FloatKind.f32.format.read 1065353216).opposite = .number true (2 ^ 23) (-23) := by decide
    rw [eo, r1]
    rcases hu with ⟨t, m, i, eu, hu⟩ | eu <;> rw [eu]
    · obtain ⟨r, l, p, es, hs⟩ := sum_val t m i true (2 ^ 23) (-23)
      rw [es]
      refine up_near ?_
      rw [hs]
      simp only [vD, sg_t]
      rw [mg_pow, rV_one]
      rw [rV_two, show (1 : Int) = 0 + 1 from rfl, p2_add] at hu
      have h2 : p2 1 = p2 0 + p2 0 := by
        have := mg_succ 1 0
        rw [mg_one, show (1 + 1 : Nat) = 2 ^ 1 from rfl, mg_pow] at this
        exact this
      have h0 : p2 0 = 1 := p2_zero
      have e3 : (-23 : Int) + (23 : Nat) = 0 := by omega
      rw [e3]
      rw [h2, h0] at hu
      simp only [vD] at hu
      grind
    · exact ⟨_, rfl, .inr read_inf32⟩
  have key : ordF .f32 (opF .sub .f32 s (some 1065353216)) (some 981668463) = some .gt := by
    obtain ⟨d, e, hd⟩ := hd
    rw [e]
    show (FloatKind.f32.format.read d).order (FloatKind.f32.format.read 981668463) = some .gt
    have rc : FloatKind.f32.format.read 981668463 = .number false 8589935 (-33) := by decide
    rw [rc]
    rcases hd with ⟨t, m, i, ed, hd⟩ | ed <;> rw [ed]
    · refine (order_cmp _ _ _ _ _ _).2.1.2 ?_
      have hlt : vD (.number false 8589935 (-33)) < rV FloatKind.f32.format 1065353216 := by
        rw [rV_one]
        simp only [vD, sg_f]
        have := (mg_lt (p := -33)).2 (show 8589935 < 2 ^ 33 by decide)
        rw [mg_pow] at this
        exact this
      grind
    · rfl
  unfold nearA
  simp only
  rw [key]
  rfl
theorem least_num {c : Nat} (h : leastB c = true) : ∃ s m p, FloatKind.f32.format.read c = .number s m p ∧ 0 ≤ vD (.number s m p) := by
  unfold leastB finB at h
  rw [Bool.and_eq_true] at h
  obtain ⟨h1, h2⟩ := h
  cases e : FloatKind.f32.decode c with
  | nan s t => rw [e] at h1; cases h1
  | infinity s => rw [e] at h1; cases h1
  | number s m p =>
    have e' : FloatKind.f32.format.read c = .number s m p := e
    refine ⟨s, m, p, e', ?_⟩
    have v0 : vD (.number false 0 (-149)) = 0 := by simp only [vD, mg_zero, sg_zero]
    have ho : ord32 c 0 = (Ieee.Datum.number s m p).order (.number false 0 (-149)) := by
      show (FloatKind.f32.format.read c).order (FloatKind.f32.format.read 0) = _
      rw [e']; rfl
    rw [ho] at h2
    rw [Bool.or_eq_true, beq_iff_eq, beq_iff_eq] at h2
    rcases h2 with h2 | h2
    · have := (order_cmp _ _ _ _ _ _).2.1.1 h2
      rw [v0] at this
      exact Rat.le_of_lt this
    · have := (order_cmp _ _ _ _ _ _).2.2.1 h2
      rw [v0] at this
      rw [this]; exact Rat.le_refl
theorem num_abs {c : Nat} {s : Bool} {m : Nat} {p : Int} (h : FloatKind.f32.format.read c = .number s m p) : absF .f32 c = some c := by
  refine absF_of ?_
  show (FloatKind.f32.format.read c).isNaN = false
  rw [h]; rfl
theorem least_up {c : Nat} (h : leastB c = true) : Up 0 (absF .f32 c) := by
  obtain ⟨s, m, p, e, hv⟩ := least_num h
  exact ⟨c, num_abs e, .inl ⟨s, m, p, e, by rw [rV_zero]; exact hv⟩⟩
theorem zero_up : Up 0 (some 0) := ⟨0, rfl, .inl ⟨false, 0, -149, rfl, by rw [rV_zero]; simp only [vD, mg_zero, sg_zero]; exact Rat.le_refl⟩⟩
/-- A chance of a share stands from 0 to 2. -/
theorem chance_bet {cs : List Nat} {c : Nat} (h : cs.all leastB = true) (hn : nearA (sumF (absL cs)) = true) (hc : c ∈ cs) : Bet .f32 (absF .f32 c) 0 (p2 1) := by
  have hl := List.all_eq_true.1 h
  obtain ⟨s, m, p, e, hv⟩ := least_num (hl c hc)
  rw [num_abs e]
  refine bet_of e hv ?_
  refine Rat.not_lt.1 fun hlt => ?_
  have hup : Up 1073741824 (absF .f32 c) := ⟨c, num_abs e, .inl ⟨s, m, p, e, by rw [rV_two]; exact Rat.le_of_lt hlt⟩⟩
  have := up_far (foldl_up_mem (absL cs) (some 0) (fun x hx => by
    obtain ⟨y, hy, rfl⟩ := List.mem_map.1 hx
    exact least_up (hl y hy)) zero_up (List.mem_map.2 ⟨c, hc, rfl⟩) hup)
  rw [show sumF (absL cs) = (absL cs).foldl (opF .add .f32) (some 0) from rfl, this] at hn
  cases hn

/-! The entropy. -/
def posG (c : Nat) : Bool := FloatKind.f32.format.order c 0 == some .gt
def entT (c : Nat) : Option Nat := opF .quo .f32 (opF .mul .f32 (absF .f32 c) (log32 c)) (some 1060205080)
def entStep (s : Option Nat) (c : Nat) : Option Nat := if posG c = true then opF .add .f32 s (entT c) else s
def entTo (cs : List Nat) (k : Nat) : Option Nat := (cs.take k).foldl entStep (some 0)
theorem entTo_succ {cs : List Nat} {k c : Nat} (h : cs[k]? = some c) : entTo cs (k + 1) = entStep (entTo cs k) c := by simp [entTo, take_snoc h]
theorem log32_bet {c : Nat} (h : posB c = true) : Bet .f32 (log32 c) (-p2 15) (p2 15) := by
  rw [log32_pos h]
  obtain ⟨h1, h2⟩ := pos_up h
  have hb := logB_bet (norm_in (upBits c)).1 (norm_in (upBits c)).2 (normE_in h1 h2).1 (normE_in h1 h2).2
  have hr := rep32 (E := 15) (by omega) (by omega)
  exact (bet_dn hb (rep_neg hr) hr).1
theorem bet_ln2f : Bet .f32 (some 1060205080) (p2 (-1)) (p2 0) := by
  have := bet_lit (k := .f32) (b := 1060205080) (m := 11629080) (s := false) (p := -24) (by decide)
  simp only [vD, sg_f] at this
  refine this.mono ?_ ?_
  · have h := (mg_le (p := -24)).2 (show 2 ^ 23 ≤ 11629080 by decide)
    rw [mg_pow] at h
    exact h
  · have h := (mg_le (p := -24)).2 (show 11629080 ≤ 2 ^ 24 by decide)
    rw [mg_pow] at h
    exact h
theorem entT_bet {c : Nat} (h : posB c = true) (hc : Bet .f32 (absF .f32 c) 0 (p2 1)) : Bet .f32 (entT c) (-p2 17) (p2 17) := by
  have h1 := p2_nn 1
  have hm := bet_mul2 (hc.mono (lo := -p2 1) (by grind) Rat.le_refl) (log32_bet h) (rep32 (by omega) (by omega))
  refine bet_quo hm bet_ln2f (p2_pos _) (rep32 (E := 17) (by omega) (by omega)) ?_ (.inr rfl) (.inr rfl)
  intro u v u1 u2 v1 v2
  have e : p2 (1 + 15) = p2 17 * p2 (-1) := by rw [← p2_add]; rfl
  have := Rat.mul_le_mul_of_nonneg_left v1 (p2_nn 17)
  rw [e] at u1 u2
  constructor <;> grind
theorem rep_cnt32 {n : Nat} (h0 : n ≠ 0) (h : n < 256) : RepK .f32 (mg n 17) := by
  have hl : n.log2 < 8 := (Nat.log2_lt h0).2 h
  refine rep_mg h0 ?_ ?_ ?_
  · show n.log2 ≤ 23; omega
  · show (-149 : Int) ≤ 17 - ((23 - n.log2 : Nat) : Int); omega
  · show (17 - ((23 - n.log2 : Nat) : Int) - (-149)).toNat + 2 < 255; omega
theorem entTo_bet {cs : List Nat} (h : cs.all leastB = true) (hn : nearA (sumF (absL cs)) = true) : ∀ k, k ≤ cs.length → k ≤ 200 → Bet .f32 (entTo cs k) (-mg (k + 1) 17) (mg (k + 1) 17)
  | 0, _, _ => by
    have h0 : Bet .f32 (some 0) 0 0 := by
      have := bet_lit (k := .f32) (b := 0) (m := 0) (s := false) (p := -149) (by decide)
      simp only [vD, mg_zero, sg_zero] at this
      exact this
    have := mg_nn (0 + 1) 17
    exact h0.mono (by grind) this
  | k + 1, hk, hk2 => by
    have ih := entTo_bet h hn k (by omega) (by omega)
    obtain ⟨c, hc⟩ := get_of_lt (xs := cs) (k := k) (by omega)
    have hm := List.mem_of_getElem? hc
    rw [entTo_succ hc]
    unfold entStep
    have hs := mg_succ (k + 1) 17
    have hp := p2_nn 17
    by_cases hg : posG c = true
    · rw [if_pos hg]
      have hb : posB c = true := by
        have := List.all_eq_true.1 h c hm
        unfold leastB at this
        rw [Bool.and_eq_true] at this
        unfold posB
        rw [this.1]
        exact hg
      have hr := rep_cnt32 (n := k + 1 + 1) (by omega) (by omega)
      refine bet_add ih (entT_bet hb (chance_bet h hn hm)) (rep_neg hr) hr ?_ ?_ <;> grind
    · rw [if_neg hg]
      exact ih.mono (by grind) (by grind)
theorem shareB_near {v c : List Nat} (h : shareB v c = true) : c.all leastB = true ∧ nearA (sumF (absL c)) = true := by
  unfold shareB at h
  simp only [Bool.and_eq_true] at h
  exact h.2
/-- The entropy of a share is a number. -/
theorem ent_num {v c : List Nat} (h : shareB v c = true) : ∃ b s m p, entTo c c.length = some b ∧ FloatKind.f32.format.read b = .number s m p := by
  obtain ⟨h1, h2⟩ := shareB_near h
  obtain ⟨⟨_, h3⟩, h4⟩ := shareB_len h
  obtain ⟨b, e, hb⟩ := entTo_bet h1 h2 c.length (Nat.le_refl _) (by omega)
  obtain ⟨s, m, p, er, _⟩ := hb.read
  exact ⟨b, s, m, p, e, er⟩
end Go.Proofs.Ytimpabceellihaa
