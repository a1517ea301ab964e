/-
  Rows of hits and of what is rare, means and moments: checked against numbers that are written out.
-/
import Derived.Test.YthafpbhjpmnddaaFastL
import Derived.Test.YthafpbhjpmnddaaB10
namespace Go.Proofs.Ythafpbhjpmnddaa
open Go.RowKit

/-- The row holds the chances of hits in k trials. -/
def RowIs (C : Option Nat) (k : Nat) (row : List Nat) : Prop := row.length = k + 1 ∧ ∀ (i x : Nat), row[i]? = some x → hitA C k i = some x
def chkH (c q : Nat) : Nat → List Nat → List Nat → Bool
  | p, [], [a] => opL .add .f32 (opL .mul .f32 (some 0) (some q)) (opL .mul .f32 (some p) (some c)) == some a
  | p, r :: rs, a :: zs => opL .add .f32 (opL .mul .f32 (some r) (some q)) (opL .mul .f32 (some p) (some c)) == some a && chkH c q r rs zs
  | _, _, _ => false
def chkRow (c q : Nat) : List Nat → List Nat → Bool
  | r :: rs, a :: zs => opL .mul .f32 (some r) (some q) == some a && chkH c q r rs zs
  | _, _ => false
theorem chkH_ok {c q k : Nat} (hq : opF .sub .f32 oneN (some c) = some q) : ∀ (rs zs : List Nat) (p j : Nat), chkH c q p rs zs = true → j + 1 + rs.length = k + 1 → hitA (some c) k j = some p → (∀ (i x : Nat), rs[i]? = some x → hitA (some c) k (j + 1 + i) = some x) →
    zs.length = rs.length + 1 ∧ ∀ (i a : Nat), zs[i]? = some a → hitA (some c) (k + 1) (j + 1 + i) = some a
  | [], zs, p, j, h, hl, hp, hr => by
    cases zs with
    | nil => cases h
    | cons a zs =>
      cases zs with
      | cons b bs => cases h
      | nil =>
        unfold chkH at h
        rw [opL_eq, opL_eq, opL_eq, beq_iff_eq] at h
        refine ⟨rfl, fun i x hx => ?_⟩
        cases i with
        | succ i => cases hx
        | zero =>
          cases hx
          have hjk : j = k := by simpa using hl
          subst hjk
          rw [Nat.add_zero, hitA_step _ (by omega) (by omega), hitA_over (some c) (show j < j + 1 by omega), Nat.add_sub_cancel, hp, hq]
          exact h
  | r :: rs, zs, p, j, h, hl, hp, hr => by
    cases zs with
    | nil => cases h
    | cons a zs =>
      unfold chkH at h
      rw [Bool.and_eq_true, opL_eq, opL_eq, opL_eq, beq_iff_eq] at h
      have hr0 := hr 0 r rfl
      have ih := chkH_ok (k := k) hq rs zs r (j + 1) h.2 (by simp at hl; omega) (by simpa using hr0) (fun i x hx => by
        have := hr (i + 1) x (by simpa using hx)
        rw [show j + 1 + 1 + i = j + 1 + (i + 1) by omega]
        exact this)
      refine ⟨by rw [List.length_cons, List.length_cons, ih.1], fun i x hx => ?_⟩
      cases i with
      | zero =>
        cases hx
        rw [show j + 1 + 0 = j + 1 from rfl, hitA_step _ (by omega) (by simp at hl; omega), Nat.add_sub_cancel, hp, show hitA (some c) k (j + 1) = some r from hr0, hq]
        exact h.1
      | succ i =>
        have := ih.2 i x (by simpa using hx)
        rw [show j + 1 + (i + 1) = j + 1 + 1 + i by omega]
        exact this
theorem chkRow_ok {c q k : Nat} (hq : opF .sub .f32 oneN (some c) = some q) {row out : List Nat} (h : chkRow c q row out = true) (hr : RowIs (some c) k row) : RowIs (some c) (k + 1) out := by
  cases row with
  | nil => cases h
  | cons r rs =>
    cases out with
    | nil => cases h
    | cons a zs =>
      unfold chkRow at h
      rw [Bool.and_eq_true, opL_eq, beq_iff_eq] at h
      obtain ⟨hl, hx⟩ := hr
      have hr0 := hx 0 r rfl
      have ih := chkH_ok (k := k) hq rs zs r 0 h.2 (by simp at hl; omega) hr0 (fun i x hi => by
        have := hx (i + 1) x (by simpa using hi)
        rw [show 0 + 1 + i = i + 1 by omega]
        exact this)
      refine ⟨by simp at hl; simp [ih.1]; omega, fun i x hi => ?_⟩
      cases i with
      | zero =>
        cases hi
        show opF .mul .f32 (hitA (some c) k 0) (opF .sub .f32 oneN (some c)) = _
        rw [hr0, hq]
        exact h.1
      | succ i =>
        have := ih.2 i x (by simpa using hi)
        rw [show i + 1 = 0 + 1 + i by omega]
        exact this
/-- The rows follow upon one another. -/
def chkRows (c q : Nat) : List Nat → List (List Nat) → Bool
  | _, [] => true
  | r, s :: ss => chkRow c q r s && chkRows c q s ss
theorem chkRows_ok {c q : Nat} (hq : opF .sub .f32 oneN (some c) = some q) : ∀ (rows : List (List Nat)) (r : List Nat) (k : Nat), chkRows c q r rows = true → RowIs (some c) k r → ∀ (i : Nat) (s : List Nat), (r :: rows)[i]? = some s → RowIs (some c) (k + i) s
  | [], r, k, _, hr, i, s, hs => by
    cases i with
    | zero => cases hs; exact hr
    | succ i => simp at hs
  | t :: ts, r, k, h, hr, i, s, hs => by
    unfold chkRows at h
    rw [Bool.and_eq_true] at h
    cases i with
    | zero => cases hs; exact hr
    | succ i =>
      have := chkRows_ok hq ts t (k + 1) h.2 (chkRow_ok hq h.1 hr) i s (by simpa using hs)
      rw [show k + (i + 1) = k + 1 + i by omega]
      exact this
theorem row_start (c : Nat) : RowIs (some c) 0 [1065353216] := ⟨rfl, fun i x hx => by
  cases i with
  | zero => cases hx; rfl
  | succ i => simp at hx⟩
theorem hitC_row {n ch : Nat} {row : List Nat} (ha : absF .f32 ch = some ch) (h : RowIs (some ch) n row) : hitC n ch = row.map some := by
  unfold hitC
  rw [Int.toNat_natCast, ha]
  unfold hitRow
  apply List.ext_getElem?
  intro i
  rw [List.getElem?_map, List.getElem?_map]
  by_cases hi : i < n + 1
  · rw [List.getElem?_range hi]
    have hil : i < row.length := by rw [h.1]; exact hi
    rw [List.getElem?_eq_getElem hil]
    exact congrArg some (h.2 i _ (List.getElem?_eq_getElem hil))
  · rw [List.getElem?_eq_none (by simp; omega), List.getElem?_eq_none (by rw [h.1]; omega)]
    rfl

/-! ### Means, moments -/
def dotL : List Nat → List Nat → Option Nat → Option Nat
  | x :: xs, y :: ys, s => outO (opL .mul .f32 (some x) (some y)) fun p => outO (opL .add .f32 s p) fun t => dotL xs ys t
  | _, _, s => s
theorem dotL_ok (xs ys : List Nat) (hl : ys.length = xs.length) (hx : ∀ x ∈ xs, absF .f32 x = some x) (hy : ∀ x ∈ ys, absF .f32 x = some x) : ∀ d k, k + d = xs.length → dotL (xs.drop k) (ys.drop k) (dotTo xs ys k) = dotTo xs ys xs.length
  | 0, k, h => by
    rw [List.drop_eq_nil_of_le (by omega), List.drop_eq_nil_of_le (by omega), ← h]
    rfl
  | d + 1, k, h => by
    have h1 : k < xs.length := by omega
    have h2 : k < ys.length := by omega
    rw [List.drop_eq_getElem_cons h1, List.drop_eq_getElem_cons h2]
    unfold dotL
    rw [out_eq, out_eq, opL_eq, opL_eq]
    have := dotTo_succ (List.getElem?_eq_getElem h1) (List.getElem?_eq_getElem h2)
    rw [hx _ (List.getElem_mem h1), hy _ (List.getElem_mem h2)] at this
    rw [← this]
    exact dotL_ok xs ys hl hx hy d (k + 1) (by omega)
theorem dotL_eq {xs ys : List Nat} (hl : ys.length = xs.length) (hx : ∀ x ∈ xs, absF .f32 x = some x) (hy : ∀ x ∈ ys, absF .f32 x = some x) : dotTo xs ys xs.length = dotL xs ys (some 0) := by
  have := dotL_ok xs ys hl hx hy xs.length 0 (by omega)
  rw [← this]
  rfl
def momL (m : Nat) : List Nat → List Nat → Option Nat → Option Nat
  | x :: xs, y :: ys, s => outO (opL .sub .f32 (some x) (some m)) fun d => outO (opL .mul .f32 (some y) d) fun p => outO (opL .mul .f32 p d) fun q => outO (opL .add .f32 s q) fun t => momL m xs ys t
  | _, _, s => s
theorem momL_ok (m : Nat) (xs ys : List Nat) (hl : ys.length = xs.length) (hx : ∀ x ∈ xs, absF .f32 x = some x) (hy : ∀ x ∈ ys, absF .f32 x = some x) : ∀ d k, k + d = xs.length → momL m (xs.drop k) (ys.drop k) (momTo xs ys (some m) 2 k) = momTo xs ys (some m) 2 xs.length
  | 0, k, h => by
    rw [List.drop_eq_nil_of_le (by omega), List.drop_eq_nil_of_le (by omega), ← h]
    rfl
  | d + 1, k, h => by
    have h1 : k < xs.length := by omega
    have h2 : k < ys.length := by omega
    rw [List.drop_eq_getElem_cons h1, List.drop_eq_getElem_cons h2]
    unfold momL
    rw [out_eq, out_eq, out_eq, out_eq, opL_eq, opL_eq, opL_eq, opL_eq]
    have := momTo_succ (some m) 2 (List.getElem?_eq_getElem h1) (List.getElem?_eq_getElem h2)
    rw [hx _ (List.getElem_mem h1), hy _ (List.getElem_mem h2)] at this
    have e : powTo (some ys[k]) (opF .sub .f32 (some xs[k]) (some m)) 2 = opF .mul .f32 (opF .mul .f32 (some ys[k]) (opF .sub .f32 (some xs[k]) (some m))) (opF .sub .f32 (some xs[k]) (some m)) := rfl
    rw [e] at this
    rw [← this]
    exact momL_ok m xs ys hl hx hy d (k + 1) (by omega)
theorem momL_eq {m : Nat} {xs ys : List Nat} (hl : ys.length = xs.length) (hx : ∀ x ∈ xs, absF .f32 x = some x) (hy : ∀ x ∈ ys, absF .f32 x = some x) : momTo xs ys (some m) 2 xs.length = momL m xs ys (some 0) := by
  have := momL_ok m xs ys hl hx hy xs.length 0 (by omega)
  rw [← this]
  rfl
theorem shareB_abs2 {v c : List Nat} (h : shareB v c = true) : c.length = v.length ∧ (∀ x ∈ v, absF .f32 x = some x) ∧ ∀ x ∈ c, absF .f32 x = some x := by
  have hl := (shareB_len h).2
  unfold shareB at h
  simp only [Bool.and_eq_true] at h
  have fin : ∀ x, finB x = true → absF .f32 x = some x := fun x hx => by
    unfold finB at hx
    refine absF_of ?_
    cases e : FloatKind.f32.decode x with
    | nan s t => rw [e] at hx; cases hx
    | infinity s => rfl
    | number s m p => rfl
  refine ⟨hl, fun x hx => fin x (List.all_eq_true.1 h.1.1.2 x hx), fun x hx => fin x ?_⟩
  have := List.all_eq_true.1 h.2.1 x hx
  unfold leastB at this
  rw [Bool.and_eq_true] at this
  exact this.1
theorem mean_lit {v c : List Nat} {M : Nat} (h : shareB v c = true) (hd : dotL v c (some 0) = some M) (hM : finB M = true) : meanOk v c = true ∧ meanV v c = some M := by
  obtain ⟨hl, hx, hy⟩ := shareB_abs2 h
  have e := dotL_eq hl hx hy
  rw [hd] at e
  have h1 : meanOk v c = true := by unfold meanOk; rw [h, e]; exact hM
  exact ⟨h1, by unfold meanV; rw [if_pos h1, e]⟩
theorem mom_lit {v c : List Nat} {M V : Nat} (h : shareB v c = true) (hd : dotL v c (some 0) = some M) (hM : finB M = true) (hm : momL M v c (some 0) = some V) (hV : finB V = true) : momOk v c 2 = true ∧ momV v c 2 = some V := by
  obtain ⟨hl, hx, hy⟩ := shareB_abs2 h
  obtain ⟨a, b⟩ := mean_lit h hd hM
  have e := momL_eq (m := M) hl hx hy
  rw [hm] at e
  have r : momR v c 2 = some V := by
    unfold momR
    rw [b]
    exact e
  have h1 : momOk v c 2 = true := by
    unfold momOk momOk1
    rw [a, r]
    exact hV
  exact ⟨h1, by unfold momV; rw [if_pos h1, r]⟩
end Go.Proofs.Ythafpbhjpmnddaa
