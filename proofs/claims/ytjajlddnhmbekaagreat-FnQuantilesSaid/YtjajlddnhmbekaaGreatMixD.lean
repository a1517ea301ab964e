/-
  Mixtures by value: laws.szMixture, toMixture, eqMixture, markMixture, heldMixture.
  A mixture is one: spec.l05Mixture, both ValidMixture.
  The walks of laws.toBoolS, eqBoolS, markBoolS, heldBoolS.
  Wealth by bets: both BetWealth.
  How dense a mixture is: impl.densities and spec.l05Dense, spec.l05At tell the same of every part.
  slices.Clone of numbers; the end of a list; where a rising list passes a number.
-/
import Derived.Test.YtjajlddnhmbekaaGreatSl
import Derived.Test.YtjajlddnhmbekaaGreatShareIs2
import Derived.Deep.QuietTactic
import Derived.BigQuiet
import Derived.Test.YtjajlddnhmbekaaGreatMean
import Derived.Test.YtjajlddnhmbekaaGreatLogE
import Derived.Test.YtjajlddnhmbekaaGreatKey
import Derived.Test.YtjajlddnhmbekaaGreatShRet
namespace Go.Proofs.YtjajlddnhmbekaaGreat
section
open Go.RowKit

/-- A Mixture as a value. -/
abbrev mxV (s0 s1 s2 : Value) : Value := .agg #[s0, s1, s2]


end

section
open Go.RowKit
attribute [local go_sem] run_fl_add run_fl_sub run_fl_mul run_fl_quo

def mixB (v m s : List Nat) : Bool := decide (1 ≤ v.length ∧ v.length ≤ 8) && decide (m.length = v.length) && decide (s.length = v.length) && m.all finB && (v.all leastB && nearA (sumF (absL v))) && s.all aboveB
theorem mixB_f1 {v m s : List Nat} (h : ¬ (1 ≤ v.length ∧ v.length ≤ 8)) : mixB v m s = false := by unfold mixB; rw [decide_eq_false h]; rfl
theorem mixB_f2 {v m s : List Nat} (h : ¬ m.length = v.length) : mixB v m s = false := by unfold mixB; rw [decide_eq_false h]; simp
theorem mixB_f3 {v m s : List Nat} (h : ¬ s.length = v.length) : mixB v m s = false := by unfold mixB; rw [decide_eq_false h]; simp
theorem mixB_f4 {v m s : List Nat} (h : m.all finB = false) : mixB v m s = false := by unfold mixB; rw [h]; simp
theorem mixB_f5 {v m s : List Nat} (h : v.all leastB = false) : mixB v m s = false := by unfold mixB; rw [h]; simp
theorem mixB_f6 {v m s : List Nat} (h : s.all aboveB = false) : mixB v m s = false := by unfold mixB; rw [h]; simp
theorem mixB_t {v m s : List Nat} (h1 : 1 ≤ v.length ∧ v.length ≤ 8) (h2 : m.length = v.length) (h3 : s.length = v.length) (h4 : m.all finB = true) : mixB v m s = ((v.all leastB && nearA (sumF (absL v))) && s.all aboveB) := by
  unfold mixB
  rw [decide_eq_true h1, decide_eq_true h2, decide_eq_true h3, h4]; rfl
theorem mixB_len {v m s : List Nat} (h : mixB v m s = true) : (1 ≤ v.length ∧ v.length ≤ 8) ∧ m.length = v.length ∧ s.length = v.length := by
  unfold mixB at h
  simp only [Bool.and_eq_true, decide_eq_true_eq] at h
  exact ⟨h.1.1.1.1.1, h.1.1.1.1.2, h.1.1.1.2⟩

end

section
open Go.RowKit
/-- A bool as a cell. -/
abbrev bV (b : Bool) : Value := .bool b
/-- What markBoolS lays from j on. -/
def mkBoolS (n : Int) : Bool := n % 3 == 0
def marksBoolS (j : Int) (n : Nat) : List Bool := (List.range n).map fun (t : Nat) => mkBoolS (j + (t : Int))
def markRowBoolS (j : Int) (xs : List Bool) (k : Nat) : List Value := (List.range k).map (fun (t : Nat) => bV (mkBoolS (j + (t : Int)))) ++ (xs.drop k).map bV
theorem markRowBoolS_at (j : Int) {xs : List Bool} {k : Nat} {x : Bool} (h : xs[k]? = some x) : (markRowBoolS j xs k)[k]? = some (bV x) := by
  unfold markRowBoolS
  rw [List.getElem?_append_right (by simp)]
  simp [h]
theorem markRowBoolS_set (j : Int) {xs : List Bool} {k : Nat} (h : k < xs.length) : (markRowBoolS j xs k).set k (bV (mkBoolS (j + k))) = markRowBoolS j xs (k + 1) := by
  unfold markRowBoolS
  have hd : (xs.drop k).map bV = bV (xs[k]'h) :: (xs.drop (k + 1)).map bV := by rw [List.drop_eq_getElem_cons h, List.map_cons]
  rw [List.set_append_right _ _ (by simp), List.range_succ, List.map_append, hd, List.length_map, List.length_range, Nat.sub_self, List.set_cons_zero]
  simp only [List.map_cons, List.map_nil, List.append_assoc, List.cons_append, List.nil_append]
theorem markRowBoolS_end (j : Int) (xs : List Bool) : markRowBoolS j xs xs.length = (marksBoolS j xs.length).map bV := by
  unfold markRowBoolS marksBoolS
  simp
theorem marksBoolS_at {j : Int} {n k : Nat} {x : Bool} (h : (marksBoolS j n)[k]? = some x) : x = mkBoolS (j + k) := by
  unfold marksBoolS at h
  rw [List.getElem?_map] at h
  have hk : k < n := by
    rcases Nat.lt_or_ge k n with h1 | h1
    · exact h1
    · rw [List.getElem?_eq_none (by simpa using h1)] at h; cases h
  rw [List.getElem?_range hk] at h
  simpa using h.symm
theorem marksBoolS_len (j : Int) (n : Nat) : (marksBoolS j n).length = n := by simp [marksBoolS]

end

section
open Go.RowKit
attribute [local go_sem] run_fl_add run_fl_sub run_fl_mul run_fl_quo run_up_

def oneN : Option Nat := some 1065353216
theorem abs_one : absF .f32 1065353216 = oneN := by decide
def betStep (sh st : Option Nat) (s : Option Nat) (b : Bool) : Option Nat :=
  if b then opF .mul .f32 s (opF .add .f32 oneN (opF .mul .f32 st (opF .sub .f32 oneN sh))) else opF .mul .f32 s (opF .sub .f32 oneN (opF .mul .f32 st sh))
def betTo (sh st : Option Nat) (xs : List Bool) (k : Nat) : Option Nat := (xs.take k).foldl (betStep sh st) oneN
def betL (sh st : Option Nat) (xs : List Bool) (k : Nat) : List (Option Nat) := (List.range k).map fun i => betTo sh st xs (i + 1)
theorem betTo_succ (sh st : Option Nat) {xs : List Bool} {k : Nat} {x : Bool} (h : xs[k]? = some x) : betTo sh st xs (k + 1) = betStep sh st (betTo sh st xs k) x := by simp [betTo, take_snoc h]
theorem betL_succ (sh st : Option Nat) (xs : List Bool) (k : Nat) : betL sh st xs (k + 1) = betL sh st xs k ++ [betTo sh st xs (k + 1)] := by simp [betL, List.range_succ]
theorem betL_len (sh st : Option Nat) (xs : List Bool) (k : Nat) : (betL sh st xs k).length = k := by simp [betL]
def betOk1 (xs : List Bool) (sh st : Nat) : Bool := decide (1 ≤ xs.length ∧ xs.length ≤ 256) && partB sh && partB st
def betR (xs : List Bool) (sh st : Nat) : List (Option Nat) := betL (absF .f32 sh) (absF .f32 st) xs xs.length
def betOk (xs : List Bool) (sh st : Nat) : Bool := betOk1 xs sh st && (betR xs sh st).all finA
def RetBetWealth (xs : List Bool) (sh st : Nat) (w : World) (e : Ending) (w' : World) : Prop :=
  ∃ v y, e = .returned (.tuple #[v, .bool (betOk xs sh st)]) ∧ Own fV 28 w' w.heap.size v y ∧ y.length ≤ 1099511627776 ∧ absL y = (if betOk xs sh st = true then betR xs sh st else []) ∧ Below w.heap.size w w'
theorem all_fin (y : List Nat) : y.all finB = (absL y).all finA := by
  unfold absL
  rw [List.all_map]
  congr 1
  funext b
  exact fin_abs b
theorem betOk_f1 {xs : List Bool} {sh st : Nat} (h : betOk1 xs sh st = false) : betOk xs sh st = false := by unfold betOk; rw [h]; rfl
theorem betOk_t {xs : List Bool} {sh st : Nat} (h : betOk1 xs sh st = true) : betOk xs sh st = (betR xs sh st).all finA := by unfold betOk; rw [h]; rfl
theorem absL_append' (a b : List Nat) : absL (a ++ b) = absL a ++ absL b := by simp [absL]

theorem below_alloc' (w : World) (o : Obj) : Below w.heap.size w (w.alloc o) := (Below.refl _ _).alloc (Nat.le_refl _) o
theorem rd_twoB (w : World) (x y : Nat) (E : TypeId) : Rd fV (w.alloc (.cells #[fV x, fV y] E)) (.slice (some ⟨w.heap.size, 0, none⟩) 2 2) [x, y] :=
  ⟨_, 2, rfl, Nat.le_refl _, fun k z hk => by
    match k, hk with
    | 0, hk => simp at hk; subst hk; exact ⟨_, rfl, by simp, by simp [Addr.add]⟩
    | 1, hk => simp at hk; subst hk; exact ⟨_, rfl, by simp, by simp [Addr.add]⟩⟩

end

section
open Go.RowKit
attribute [local go_sem] run_fl_add run_fl_sub run_fl_mul run_fl_quo run_up_

/-! What is no NaN. -/
def NumA (o : Option Nat) : Prop := ∃ b, o = some b ∧ ((∃ s m p, FloatKind.f32.format.read b = .number s m p) ∨ ∃ s, FloatKind.f32.format.read b = .infinity s)
theorem numA_near (s : Bool) (m : Nat) (p : Int) : NumA (some (FloatKind.f32.encode (.number s m p))) := by
  refine ⟨_, rfl, ?_⟩
  obtain ⟨r, -, -, h⟩ := near_sign .f32 s m p
  rcases h with ⟨_, h⟩ | h
  · exact .inl ⟨_, _, _, h⟩
  · exact .inr ⟨_, h⟩
theorem numA_inf (s : Bool) : NumA (some (FloatKind.f32.encode (.infinity s))) := ⟨_, rfl, .inr ⟨s, by cases s <;> decide⟩⟩
theorem numA_nan {b : Nat} (h : NumA (some b)) : (FloatKind.f32.decode b).isNaN = false := by
  obtain ⟨b', e, h⟩ := h
  cases e
  show (FloatKind.f32.format.read b).isNaN = false
  rcases h with ⟨s, m, p, h⟩ | ⟨s, h⟩ <;> rw [h] <;> rfl
theorem above_num {x : Nat} (h : aboveB x = true) : ∃ m p, FloatKind.f32.format.read x = .number false m p ∧ m ≠ 0 := by
  unfold aboveB at h
  rw [Bool.and_eq_true, beq_iff_eq] at h
  obtain ⟨h1, h2⟩ := h
  obtain ⟨s, m, p, e⟩ := fin_num h1
  have v0 : vD (.number false 0 (-149)) = 0 := by simp only [vD, mg_zero, sg_zero]
  have ho : ord32 x 0 = (Ieee.Datum.number s m p).order (.number false 0 (-149)) := by
    show (FloatKind.f32.format.read x).order (FloatKind.f32.format.read 0) = _
    rw [e]; rfl
  rw [ho] at h2
  have hv := (order_cmp _ _ _ _ _ _).2.1.1 h2
  rw [v0] at hv
  have hm := mg_nn m p
  cases s
  · refine ⟨m, p, e, ?_⟩
    rintro rfl
    simp only [vD, mg_zero, sg_zero] at hv
    exact absurd hv Rat.lt_irrefl
  · exfalso
    simp only [vD, sg_t] at hv
    grind
theorem numA_sub {x m : Nat} (hx : finB x = true) (hm : finB m = true) : NumA (opF .sub .f32 (absF .f32 x) (absF .f32 m)) := by
  obtain ⟨s, a, i, ex⟩ := fin_num hx
  obtain ⟨t, b, j, em⟩ := fin_num hm
  rw [num_abs ex, num_abs em]
  have eo : opF .sub .f32 (some x) (some m) = ((FloatKind.f32.format.read x).sum (FloatKind.f32.format.read m).opposite).map FloatKind.f32.format.write := rfl
  rw [eo, ex, em]
  show NumA (((Ieee.Datum.number s a i).sum (.number (!t) b j)).map FloatKind.f32.format.write)
  obtain ⟨r, l, p, es, -⟩ := sum_val s a i (!t) b j
  rw [es]
  exact numA_near r l p
theorem numA_quo {o : Option Nat} {y : Nat} (h : NumA o) (hy : aboveB y = true) : NumA (opF .quo .f32 o (absF .f32 y)) := by
  obtain ⟨n, j, ey, hn⟩ := above_num hy
  rw [num_abs ey]
  obtain ⟨u, rfl, hu⟩ := h
  have eo : opF .quo .f32 (some u) (some y) = ((FloatKind.f32.format.read u).quotient (FloatKind.f32.format.fractionBits + 2) (FloatKind.f32.format.read y)).map FloatKind.f32.format.write := rfl
  rw [eo, ey]
  rcases hu with ⟨s, m, i, eu⟩ | ⟨s, eu⟩ <;> rw [eu]
  · obtain ⟨l, p, es, -, -⟩ := quotient_val (FloatKind.f32.format.fractionBits + 2) (by decide) s m i false n j hn
    rw [es]
    exact numA_near _ l p
  · exact numA_inf _

/-! A part of a mixture. -/
def dU (x m s : Nat) : Option Nat := opF .quo .f32 (opF .sub .f32 (absF .f32 x) (absF .f32 m)) (absF .f32 s)
def dQ (u : Option Nat) : Option Nat := opF .mul .f32 (opF .mul .f32 (some 3204448256) u) u
def dPart (wt m s x : Nat) : Option Nat := opF .quo .f32 (opF .mul .f32 (absF .f32 wt) (exp32 (dQ (dU x m s)))) (opF .mul .f32 (some 1075866777) (absF .f32 s))
theorem mhalf32 : FloatKind.f32.format.read 3204448256 = .number true (2 ^ 23) (-24) := by decide
theorem mhalf32_le : mg (2 ^ 23) (-24) ≤ 1 := by
  rw [mg_pow, ← p2_zero]
  exact p2_mono (by omega)
theorem dQ_neg {x m s : Nat} (hx : finB x = true) (hm : finB m = true) (hs : aboveB s = true) : NegS .f32 (dQ (dU x m s)) := by
  have h := numA_quo (numA_sub hx hm) hs
  obtain ⟨u, e, h'⟩ := h
  unfold dU
  rw [e]
  exact negS_sq mhalf32 (by decide) mhalf32_le (numA_nan ⟨u, rfl, h'⟩)
def dAt (x0 x1 x2 : List Nat) (x k : Nat) : Option Nat := dPart (x0.getD k 0) (x1.getD k 0) (x2.getD k 0) x
def dList (x0 x1 x2 : List Nat) (x k : Nat) : List (Option Nat) := (List.range k).map (dAt x0 x1 x2 x)
theorem dList_succ (x0 x1 x2 : List Nat) (x k : Nat) : dList x0 x1 x2 x (k + 1) = dList x0 x1 x2 x k ++ [dAt x0 x1 x2 x k] := by simp [dList, List.range_succ]
theorem dList_len (x0 x1 x2 : List Nat) (x k : Nat) : (dList x0 x1 x2 x k).length = k := by simp [dList]
/-- The numbers of a mixture's parts. -/
def DenseOk (x0 x1 x2 : List Nat) (x : Nat) : Prop := x1.length = x0.length ∧ x2.length = x0.length ∧ ∀ (k m s : Nat), x1[k]? = some m → x2[k]? = some s → NegS .f32 (dQ (dU x m s))
theorem denseOk_of {x0 x1 x2 : List Nat} {x : Nat} (h : mixB x0 x1 x2 = true) (hx : finB x = true) : DenseOk x0 x1 x2 x := by
  have hl := mixB_len h
  unfold mixB at h
  simp only [Bool.and_eq_true] at h
  refine ⟨hl.2.1, hl.2.2, fun k m s hm hs => dQ_neg hx ?_ ?_⟩
  · exact List.all_eq_true.1 h.1.1.2 m (List.mem_of_getElem? hm)
  · exact List.all_eq_true.1 h.2 s (List.mem_of_getElem? hs)
theorem dAt_of {x0 x1 x2 : List Nat} {x k a m s : Nat} (h0 : x0[k]? = some a) (h1 : x1[k]? = some m) (h2 : x2[k]? = some s) : dAt x0 x1 x2 x k = dPart a m s x := by
  unfold dAt
  rw [getD_of h0, getD_of h1, getD_of h2]
theorem lit_mhalf : absF .f32 3204448256 = some 3204448256 := absF_of (by decide)
theorem lit_root : absF .f32 1075866777 = some 1075866777 := absF_of (by decide)
theorem dQ_abs {u : Nat} {U : Option Nat} {W1 W2 : World} (h : absF .f32 u = U) : absF .f32 (flR .mul .f32 (flR .mul .f32 3204448256 u W1) u W2) = dQ U := by
  rw [abs_flR .mul rfl, abs_flR .mul rfl, h, lit_mhalf]
  rfl

end

section
open Go.RowKit

theorem run_nil_slice (A : Option Addr) (n c : Nat) (w : World) : (binOp .eql 24 (.slice A n c) (.slice none 0 0)).run Tryz.prog w = .ok (.bool A.isNone) w := by cases A <;> kernel_rfl
set_option maxRecDepth 100000 in
theorem clone_any (v : Value) (xs : List Nat) (hn : xs.length ≤ 65536) (w : World) (hr : Rd fV w v xs) :
    Calls Tryz.prog 33 #[v] w fun e w' => ∃ v', e = .returned v' ∧ Own fV 28 w' w.heap.size v' xs ∧ Below w.heap.size w w' := by
  have HR := Lib.hid hr
  obtain ⟨A, cap, rfl, hcap, hA⟩ := hr
  cases A with
  | none =>
    have hx : xs = [] := by
      cases xs with
      | nil => rfl
      | cons x t => obtain ⟨ad, e, _⟩ := hA 0 x rfl; cases e
    subst hx
    clear hA
    have hnil := run_nil_slice none 0 cap
    go_enter Tryz.func33, Tryz.ntmps33
    go_wp2
    go_ret
    exact ⟨_, rfl, Own.nil, Below.refl _ _⟩
  | some ad =>
    clear hA
    go_enter Tryz.func33, Tryz.ntmps33
    have hrd : Rd fV (w.alloc (.cells #[] 28)) (.slice (some ad) xs.length cap) xs := HR.out.below (below_alloc _ _)
    have HRD := Lib.hid hrd
    clear hrd
    have hnil := run_nil_slice (some ad) xs.length cap
    go_wp2_with (at_builtin; go_loud (refine elF_.app (fun _ => rfl) _ rfl _ _ rfl w.heap.size _ [] rfl (own_nil_new fV w 28) _ xs rfl HRD.out (by omega) (by simp; omega) (by simp) ?_))
    intro v' w' ho hg hbb hp
    go_wp2
    go_ret
    exact ⟨_, rfl, ho, (below_alloc w _).trans hbb⟩
theorem Rd.drop {α : Type} {f : α → Value} {w : World} {ad : Addr} {n cap : Nat} {xs : List α} (h : Rd f w (.slice (some ad) n cap) xs) {k : Nat} (hk : k ≤ xs.length) : Rd f w (.slice (some (ad.add k)) (xs.length - k) (cap - k)) (xs.drop k) := by
  obtain ⟨A, c, e, hc, hA⟩ := h
  cases e
  refine ⟨some (ad.add k), cap - k, by rw [List.length_drop], by rw [List.length_drop]; omega, fun i x hx => ?_⟩
  rw [List.getElem?_drop] at hx
  obtain ⟨ad', e, h1, h2⟩ := hA (k + i) x hx
  cases e
  refine ⟨_, rfl, by rw [add_block]; exact h1, ?_⟩
  rw [show (ad.add k).add i = ad.add (k + i) from Addr.add_add _ _ _]
  exact h2

/-- What 's[k:]' reads. -/
theorem Rd.cut {α : Type} {f : α → Value} {w : World} {ad : Addr} {n cap : Nat} {xs : List α} (h : Rd f w (.slice (some ad) n cap) xs) {k : Nat} (hk : k ≤ xs.length) : Rd f w (.slice (if cap = k then some ad else some (ad.add k)) (n - k) (cap - k)) (xs.drop k) := by
  have h' := h
  obtain ⟨A, c, e, hc, hA⟩ := h'
  cases e
  by_cases hck : cap = k
  · rw [if_pos hck]
    exact ⟨some ad, cap - k, by rw [List.length_drop], by rw [List.length_drop]; omega, fun i y hy => by rw [List.drop_eq_nil_of_le (by omega)] at hy; cases hy⟩
  · rw [if_neg hck]
    exact h.drop hk

/-- How many at the head are not above x. -/
def cutK (x : Nat) : List Nat → Nat
  | [] => 0
  | v :: t => if leX x v = true then cutK x t + 1 else 0
theorem cutK_le (x : Nat) : ∀ xs : List Nat, cutK x xs ≤ xs.length
  | [] => Nat.le_refl _
  | v :: t => by
    unfold cutK
    have := cutK_le x t
    split <;> simp <;> omega
theorem cutK_at (x : Nat) : ∀ (xs : List Nat) {k v : Nat}, k < cutK x xs → xs[k]? = some v → leX x v = true
  | [], _, _, h, _ => by simp [cutK] at h
  | u :: t, k, v, h, hv => by
    unfold cutK at h
    split at h
    · rename_i hu
      cases k with
      | zero => simp at hv; rw [← hv]; exact hu
      | succ k => exact cutK_at x t (k := k) (by omega) (by simpa using hv)
    · omega
theorem cutK_end (x : Nat) : ∀ (xs : List Nat) {v : Nat}, xs[cutK x xs]? = some v → leX x v = false
  | [], _, hv => by simp at hv
  | u :: t, v, hv => by
    by_cases hu : leX x u = true
    · unfold cutK at hv
      rw [if_pos hu] at hv
      exact cutK_end x t (by simpa using hv)
    · unfold cutK at hv
      rw [if_neg hu] at hv
      simp at hv
      rw [← hv]
      simpa using hu
theorem cutK_of {x k : Nat} {xs : List Nat} (h1 : ∀ i v, i < k → xs[i]? = some v → leX x v = true) (hk : k ≤ xs.length) (h2 : ∀ v, xs[k]? = some v → leX x v = false) : k = cutK x xs := by
  have hc := cutK_le x xs
  rcases Nat.lt_trichotomy k (cutK x xs) with h | h | h
  · exfalso
    obtain ⟨v, hv⟩ := get_of_lt (xs := xs) (k := k) (by omega)
    have e1 := cutK_at x xs h hv
    rw [h2 v hv] at e1
    cases e1
  · exact h
  · exfalso
    obtain ⟨v, hv⟩ := get_of_lt (xs := xs) (k := cutK x xs) (by omega)
    have e1 := h1 _ v h hv
    rw [cutK_end x xs hv] at e1
    cases e1
theorem rise_step {xs : List Nat} (hr : riseTo xs xs.length = true) (hf : xs.all finB = true) {i u v : Nat} (hu : xs[i]? = some u) (hv : xs[i + 1]? = some v) : val u < val v := by
  have hp := List.all_eq_true.1 hr (i + 1) (List.mem_range.2 (lt_of_get hv))
  unfold pairB at hp
  rw [getD_of hv, getD_of (xs := xs) (k := i + 1 - 1) (x := u) hu] at hp
  have h1 : leX u v = false := by simpa [leX, leB, ord32] using hp
  have fu := List.all_eq_true.1 hf u (List.mem_of_getElem? hu)
  have fv := List.all_eq_true.1 hf v (List.mem_of_getElem? hv)
  by_cases h : val u < val v
  · exact h
  · exfalso
    have := (le_val fv fu).2 (by grind)
    rw [h1] at this
    cases this
theorem rise_mono {xs : List Nat} (hr : riseTo xs xs.length = true) (hf : xs.all finB = true) {i u : Nat} (hu : xs[i]? = some u) : ∀ (d : Nat) {v : Nat}, xs[i + d]? = some v → val u ≤ val v
  | 0, v, hv => by
    rw [Nat.add_zero, hu] at hv
    cases hv
    exact Rat.le_refl
  | d + 1, v, hv => by
    obtain ⟨t, ht⟩ := get_of_lt (xs := xs) (k := i + d) (by have := lt_of_get hv; omega)
    exact Rat.le_trans (rise_mono hr hf hu d ht) (Rat.le_of_lt (rise_step hr hf ht hv))
/-- Above x is what stands behind the place. -/
theorem gt_cut {xs : List Nat} {x : Nat} (hr : riseTo xs xs.length = true) (hf : xs.all finB = true) (hx : finB x = true) {k v : Nat} (hv : xs[k]? = some v) : gtX x v = decide (cutK x xs ≤ k) := by
  have fv := List.all_eq_true.1 hf v (List.mem_of_getElem? hv)
  by_cases hc : cutK x xs ≤ k
  · rw [decide_eq_true hc]
    obtain ⟨u, hu⟩ := get_of_lt (xs := xs) (k := cutK x xs) (by have := lt_of_get hv; omega)
    have fu := List.all_eq_true.1 hf u (List.mem_of_getElem? hu)
    have h1 := cutK_end x xs hu
    have h2 : ¬ val u ≤ val x := fun h => by
      rw [(le_val fu hx).2 h] at h1
      cases h1
    have h3 := rise_mono hr hf hu (k - cutK x xs) (v := v) (by rw [show cutK x xs + (k - cutK x xs) = k by omega]; exact hv)
    exact (gtX_val fv hx).2 (by grind)
  · rw [decide_eq_false hc]
    have h1 := (le_val fv hx).1 (cutK_at x xs (by omega) hv)
    cases h : gtX x v with
    | false => rfl
    | true =>
      have := (gtX_val fv hx).1 h
      exfalso
      grind
theorem cut_keep {xs : List Nat} {c k v : Nat} (hv : xs[k]? = some v) : (xs.take (k + 1)).drop c = if c ≤ k then (xs.take k).drop c ++ [v] else (xs.take k).drop c := by
  have hk := lt_of_get hv
  by_cases hc : c ≤ k
  · rw [if_pos hc, take_snoc hv, List.drop_append_of_le_length (by simp; omega)]
  · rw [if_neg hc, List.drop_eq_nil_of_le (by simp; omega), List.drop_eq_nil_of_le (by simp; omega)]
/-- The first k of a row, by S; the rest as it is. -/
def qTo (S : Option Nat) (l : List (Option Nat)) (k : Nat) : List (Option Nat) := (l.take k).map (fun x => opF .quo .f32 x S) ++ l.drop k
theorem qTo_zero (S : Option Nat) (l : List (Option Nat)) : qTo S l 0 = l := by simp [qTo]
theorem qTo_at (S : Option Nat) {l : List (Option Nat)} {k : Nat} (h : k < l.length) : (qTo S l k)[k]? = l[k]? := by
  unfold qTo
  rw [List.getElem?_append_right (by simp; omega)]
  simp
  congr 1
  omega
theorem qTo_set (S : Option Nat) {l : List (Option Nat)} {k : Nat} {a : Option Nat} (h : l[k]? = some a) : (qTo S l k).set k (opF .quo .f32 a S) = qTo S l (k + 1) := by
  have hk := lt_of_get h
  unfold qTo
  rw [List.set_append_right _ _ (by simp; omega), take_snoc h]
  have hl : ((l.take k).map fun x => opF .quo .f32 x S).length = k := by simp; omega
  rw [hl, Nat.sub_self]
  have hd : l.drop k = a :: l.drop (k + 1) := by
    rw [List.drop_eq_getElem_cons hk]
    congr 1
    rw [List.getElem?_eq_getElem hk] at h
    exact Option.some.inj h
  rw [hd, List.set_cons_zero]
  simp
theorem absl_get {xs : List Nat} {i : Nat} {a : Option Nat} (h : (absL xs)[i]? = some a) : ∃ x, xs[i]? = some x ∧ absF .f32 x = a := by
  unfold absL at h
  rw [List.getElem?_map] at h
  cases hx : xs[i]? with
  | none => rw [hx] at h; cases h
  | some x => rw [hx] at h; exact ⟨x, rfl, by simpa using h⟩
theorem absl_set (xs : List Nat) (i x : Nat) : absL (xs.set i x) = (absL xs).set i (absF .f32 x) := by simp [absL, List.map_set]
theorem size_setc (w : World) (p : Addr) (u : Value) : (w.setCell p u).heap.size = w.heap.size := by simp
end
end Go.Proofs.YtjajlddnhmbekaaGreat
