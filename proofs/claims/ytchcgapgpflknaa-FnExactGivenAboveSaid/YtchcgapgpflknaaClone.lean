/-
  slices.Clone of numbers; the end of a list; where a rising list passes a number.
-/
import Derived.Test.YtchcgapgpflknaaDense
import Derived.Test.YtchcgapgpflknaaGrow
namespace Go.Proofs.Ytchcgapgpflknaa
open Go.RowKit

theorem run_nil_slice (A : Option Addr) (n c : Nat) (w : World) : (binOp .eql 22 (.slice A n c) (.slice none 0 0)).run Try.prog w = .ok (.bool A.isNone) w := by cases A <;> kernel_rfl
set_option maxRecDepth 100000 in
theorem clone_any (v : Value) (xs : List Nat) (hn : xs.length ≤ 65536) (w : World) (hr : Rd fV w v xs) :
    Calls Try.prog 87 #[v] w fun e w' => ∃ v', e = .returned v' ∧ Own fV 23 w' w.heap.size v' xs ∧ Below w.heap.size w w' := by
  have HR := Lib.hid hr
  obtain ⟨A, cap, rfl, hcap, hA⟩ := hr
  cases A with
  | none =>
    have hx : xs = [] := by
      cases xs with
      | nil => rfl
      | cons x t => obtain ⟨ad, e, _⟩ := hA 0 x rfl; cases e
    subst hx
    clear hA
    have hnil := run_nil_slice none 0 cap
    go_enter Try.func87, Try.ntmps87
    go_wp2
    go_ret
    exact ⟨_, rfl, Own.nil, Below.refl _ _⟩
  | some ad =>
    clear hA
    go_enter Try.func87, Try.ntmps87
    have hrd : Rd fV (w.alloc (.cells #[] 23)) (.slice (some ad) xs.length cap) xs := HR.out.below (below_alloc _ _)
    have HRD := Lib.hid hrd
    clear hrd
    have hnil := run_nil_slice (some ad) xs.length cap
    go_wp2_with (at_builtin; go_loud (refine elF_.app (fun _ => rfl) _ rfl _ _ rfl w.heap.size _ [] rfl (own_nil_new fV w 23) _ xs rfl HRD.out (by omega) (by simp; omega) (by simp) ?_))
    intro v' w' ho hg hbb hp
    go_wp2
    go_ret
    exact ⟨_, rfl, ho, (below_alloc w _).trans hbb⟩
theorem Rd.drop {α : Type} {f : α → Value} {w : World} {ad : Addr} {n cap : Nat} {xs : List α} (h : Rd f w (.slice (some ad) n cap) xs) {k : Nat} (hk : k ≤ xs.length) : Rd f w (.slice (some (ad.add k)) (xs.length - k) (cap - k)) (xs.drop k) := by
  obtain ⟨A, c, e, hc, hA⟩ := h
  cases e
  refine ⟨some (ad.add k), cap - k, by rw [List.length_drop], by rw [List.length_drop]; omega, fun i x hx => ?_⟩
  rw [List.getElem?_drop] at hx
  obtain ⟨ad', e, h1, h2⟩ := hA (k + i) x hx
  cases e
  refine ⟨_, rfl, by rw [add_block]; exact h1, ?_⟩
  rw [show (ad.add k).add i = ad.add (k + i) from Addr.add_add _ _ _]
  exact h2

/-- What 's[k:]' reads. -/
theorem Rd.cut {α : Type} {f : α → Value} {w : World} {ad : Addr} {n cap : Nat} {xs : List α} (h : Rd f w (.slice (some ad) n cap) xs) {k : Nat} (hk : k ≤ xs.length) : Rd f w (.slice (if cap = k then some ad else some (ad.add k)) (n - k) (cap - k)) (xs.drop k) := by
  have h' := h
  obtain ⟨A, c, e, hc, hA⟩ := h'
  cases e
  by_cases hck : cap = k
  · rw [if_pos hck]
    exact ⟨some ad, cap - k, by rw [List.length_drop], by rw [List.length_drop]; omega, fun i y hy => by rw [List.drop_eq_nil_of_le (by omega)] at hy; cases hy⟩
  · rw [if_neg hck]
    exact h.drop hk

def leX (x v : Nat) : Bool := FloatKind.f32.format.order v x == some .lt || FloatKind.f32.format.order v x == some .eq
def gtX (x v : Nat) : Bool := FloatKind.f32.format.order v x == some .gt
/-- How many at the head are not above x. -/
def cutK (x : Nat) : List Nat → Nat
  | [] => 0
  | v :: t => if leX x v = true then cutK x t + 1 else 0
theorem cutK_le (x : Nat) : ∀ xs : List Nat, cutK x xs ≤ xs.length
  | [] => Nat.le_refl _
  | v :: t => by
    unfold cutK
    have := cutK_le x t
    split <;> simp <;> omega
theorem cutK_at (x : Nat) : ∀ (xs : List Nat) {k v : Nat}, k < cutK x xs → xs[k]? = some v → leX x v = true
  | [], _, _, h, _ => by simp [cutK] at h
  | u :: t, k, v, h, hv => by
    unfold cutK at h
    split at h
    · rename_i hu
      cases k with
      | zero => simp at hv; rw [← hv]; exact hu
      | succ k => exact cutK_at x t (k := k) (by omega) (by simpa using hv)
    · omega
theorem cutK_end (x : Nat) : ∀ (xs : List Nat) {v : Nat}, xs[cutK x xs]? = some v → leX x v = false
  | [], _, hv => by simp at hv
  | u :: t, v, hv => by
    by_cases hu : leX x u = true
    · unfold cutK at hv
      rw [if_pos hu] at hv
      exact cutK_end x t (by simpa using hv)
    · unfold cutK at hv
      rw [if_neg hu] at hv
      simp at hv
      rw [← hv]
      simpa using hu
theorem cutK_of {x k : Nat} {xs : List Nat} (h1 : ∀ i v, i < k → xs[i]? = some v → leX x v = true) (hk : k ≤ xs.length) (h2 : ∀ v, xs[k]? = some v → leX x v = false) : k = cutK x xs := by
  have hc := cutK_le x xs
  rcases Nat.lt_trichotomy k (cutK x xs) with h | h | h
  · exfalso
    obtain ⟨v, hv⟩ := get_of_lt (xs := xs) (k := k) (by omega)
    have e1 := cutK_at x xs h hv
    rw [h2 v hv] at e1
    cases e1
  · exact h
  · exfalso
    obtain ⟨v, hv⟩ := get_of_lt (xs := xs) (k := cutK x xs) (by omega)
    have e1 := h1 _ v h hv
    rw [cutK_end x xs hv] at e1
    cases e1
/-! A rising list. -/
def val (b : Nat) : Rat := vD (FloatKind.f32.format.read b)
theorem gt_val {a b : Nat} (ha : finB a = true) (hb : finB b = true) : FloatKind.f32.format.order a b = some .gt ↔ val b < val a := by
  obtain ⟨s, m, p, ea⟩ := fin_num ha
  obtain ⟨t, n, q, eb⟩ := fin_num hb
  unfold val Ieee.Format.order
  rw [ea, eb]
  exact (order_cmp _ _ _ _ _ _).2.1
theorem lt_val {a b : Nat} (ha : finB a = true) (hb : finB b = true) : FloatKind.f32.format.order a b = some .lt ↔ val a < val b := by
  obtain ⟨s, m, p, ea⟩ := fin_num ha
  obtain ⟨t, n, q, eb⟩ := fin_num hb
  unfold val Ieee.Format.order
  rw [ea, eb]
  exact (order_cmp _ _ _ _ _ _).1
theorem eq_val {a b : Nat} (ha : finB a = true) (hb : finB b = true) : FloatKind.f32.format.order a b = some .eq ↔ val a = val b := by
  obtain ⟨s, m, p, ea⟩ := fin_num ha
  obtain ⟨t, n, q, eb⟩ := fin_num hb
  unfold val Ieee.Format.order
  rw [ea, eb]
  exact (order_cmp _ _ _ _ _ _).2.2
theorem le_val {a b : Nat} (ha : finB a = true) (hb : finB b = true) : leX b a = true ↔ val a ≤ val b := by
  unfold leX
  rw [Bool.or_eq_true, beq_iff_eq, beq_iff_eq, lt_val ha hb, eq_val ha hb]
  constructor
  · rintro (h | h)
    · exact Rat.le_of_lt h
    · rw [h]; exact Rat.le_refl
  · intro h
    by_cases e : val a = val b
    · exact .inr e
    · left
      grind
theorem gtX_val {a b : Nat} (ha : finB a = true) (hb : finB b = true) : gtX b a = true ↔ val b < val a := by
  unfold gtX
  rw [beq_iff_eq, gt_val ha hb]
theorem rise_step {xs : List Nat} (hr : riseTo xs xs.length = true) (hf : xs.all finB = true) {i u v : Nat} (hu : xs[i]? = some u) (hv : xs[i + 1]? = some v) : val u < val v := by
  have hp := List.all_eq_true.1 hr (i + 1) (List.mem_range.2 (lt_of_get hv))
  unfold pairB at hp
  rw [getD_of hv, getD_of (xs := xs) (k := i + 1 - 1) (x := u) hu] at hp
  have h1 : leX u v = false := by simpa [leX, leB, ord32] using hp
  have fu := List.all_eq_true.1 hf u (List.mem_of_getElem? hu)
  have fv := List.all_eq_true.1 hf v (List.mem_of_getElem? hv)
  by_cases h : val u < val v
  · exact h
  · exfalso
    have := (le_val fv fu).2 (by grind)
    rw [h1] at this
    cases this
theorem rise_mono {xs : List Nat} (hr : riseTo xs xs.length = true) (hf : xs.all finB = true) {i u : Nat} (hu : xs[i]? = some u) : ∀ (d : Nat) {v : Nat}, xs[i + d]? = some v → val u ≤ val v
  | 0, v, hv => by
    rw [Nat.add_zero, hu] at hv
    cases hv
    exact Rat.le_refl
  | d + 1, v, hv => by
    obtain ⟨t, ht⟩ := get_of_lt (xs := xs) (k := i + d) (by have := lt_of_get hv; omega)
    exact Rat.le_trans (rise_mono hr hf hu d ht) (Rat.le_of_lt (rise_step hr hf ht hv))
/-- Above x is what stands behind the place. -/
theorem gt_cut {xs : List Nat} {x : Nat} (hr : riseTo xs xs.length = true) (hf : xs.all finB = true) (hx : finB x = true) {k v : Nat} (hv : xs[k]? = some v) : gtX x v = decide (cutK x xs ≤ k) := by
  have fv := List.all_eq_true.1 hf v (List.mem_of_getElem? hv)
  by_cases hc : cutK x xs ≤ k
  · rw [decide_eq_true hc]
    obtain ⟨u, hu⟩ := get_of_lt (xs := xs) (k := cutK x xs) (by have := lt_of_get hv; omega)
    have fu := List.all_eq_true.1 hf u (List.mem_of_getElem? hu)
    have h1 := cutK_end x xs hu
    have h2 : ¬ val u ≤ val x := fun h => by
      rw [(le_val fu hx).2 h] at h1
      cases h1
    have h3 := rise_mono hr hf hu (k - cutK x xs) (v := v) (by rw [show cutK x xs + (k - cutK x xs) = k by omega]; exact hv)
    exact (gtX_val fv hx).2 (by grind)
  · rw [decide_eq_false hc]
    have h1 := (le_val fv hx).1 (cutK_at x xs (by omega) hv)
    cases h : gtX x v with
    | false => rfl
    | true =>
      have := (gtX_val fv hx).1 h
      exfalso
      grind
theorem cut_keep {xs : List Nat} {c k v : Nat} (hv : xs[k]? = some v) : (xs.take (k + 1)).drop c = if c ≤ k then (xs.take k).drop c ++ [v] else (xs.take k).drop c := by
  have hk := lt_of_get hv
  by_cases hc : c ≤ k
  · rw [if_pos hc, take_snoc hv, List.drop_append_of_le_length (by simp; omega)]
  · rw [if_neg hc, List.drop_eq_nil_of_le (by simp; omega), List.drop_eq_nil_of_le (by simp; omega)]
/-- The first k of a row, by S; the rest as it is. -/
def qTo (S : Option Nat) (l : List (Option Nat)) (k : Nat) : List (Option Nat) := (l.take k).map (fun x => opF .quo .f32 x S) ++ l.drop k
theorem qTo_zero (S : Option Nat) (l : List (Option Nat)) : qTo S l 0 = l := by simp [qTo]
theorem qTo_at (S : Option Nat) {l : List (Option Nat)} {k : Nat} (h : k < l.length) : (qTo S l k)[k]? = l[k]? := by
  unfold qTo
  rw [List.getElem?_append_right (by simp; omega)]
  simp
  congr 1
  omega
theorem qTo_set (S : Option Nat) {l : List (Option Nat)} {k : Nat} {a : Option Nat} (h : l[k]? = some a) : (qTo S l k).set k (opF .quo .f32 a S) = qTo S l (k + 1) := by
  have hk := lt_of_get h
  unfold qTo
  rw [List.set_append_right _ _ (by simp; omega), take_snoc h]
  have hl : ((l.take k).map fun x => opF .quo .f32 x S).length = k := by simp; omega
  rw [hl, Nat.sub_self]
  have hd : l.drop k = a :: l.drop (k + 1) := by
    rw [List.drop_eq_getElem_cons hk]
    congr 1
    rw [List.getElem?_eq_getElem hk] at h
    exact Option.some.inj h
  rw [hd, List.set_cons_zero]
  simp
theorem absl_get {xs : List Nat} {i : Nat} {a : Option Nat} (h : (absL xs)[i]? = some a) : ∃ x, xs[i]? = some x ∧ absF .f32 x = a := by
  unfold absL at h
  rw [List.getElem?_map] at h
  cases hx : xs[i]? with
  | none => rw [hx] at h; cases h
  | some x => rw [hx] at h; exact ⟨x, rfl, by simpa using h⟩
theorem absl_set (xs : List Nat) (i x : Nat) : absL (xs.set i x) = (absL xs).set i (absF .f32 x) := by simp [absL, List.map_set]
theorem size_setc (w : World) (p : Addr) (u : Value) : (w.setCell p u).heap.size = w.heap.size := by simp
end Go.Proofs.Ytchcgapgpflknaa
