/-
  What gathering values with chances returns, by what the words stand for.
-/
import Derived.Test.YtimpabceellihaaKey
import Derived.Test.YtimpabceellihaaStab
import Derived.Test.YtimpabceellihaaShRet
namespace Go.Proofs.Ytimpabceellihaa
open Go.RowKit

abbrev addA : Option Nat → Option Nat → Option Nat := opF .add .f32
/-- One more value with its chance. -/
def gIn (x : Nat) (c : Option Nat) (s : List (Nat × Option Nat)) : List (Nat × Option Nat) := insG val addA (some 0) x c s
/-- The values at some places, with their chances, gathered one after the other. -/
def gAt (xs : List Nat) (C : List (Option Nat)) (l : List Nat) : List (Nat × Option Nat) := insL val addA (some 0) [] (l.map fun i => (xs[i]?.getD 0, C[i]?.getD none))
def gatS (xs : List Nat) (C : List (Option Nat)) : List (Nat × Option Nat) := gAt xs C (List.range xs.length)
def gatOk (xs : List Nat) (C : List (Option Nat)) : Bool := xs.all finB && shareAB ((gatS xs C).map Prod.fst) ((gatS xs C).map Prod.snd)
def RetGather (xs : List Nat) (C : List (Option Nat)) (w : World) (e : Ending) (w' : World) : Prop := RetSh (gatOk xs C) (absL ((gatS xs C).map Prod.fst)) ((gatS xs C).map Prod.snd) w e w'
section
variable {xs : List Nat} {C : List (Option Nat)}
theorem gatOk_f (h : xs.all finB = false) : gatOk xs C = false := by unfold gatOk; rw [h]; rfl
theorem gatOk_t (h : xs.all finB = true) : gatOk xs C = shareAB ((gatS xs C).map Prod.fst) ((gatS xs C).map Prod.snd) := by unfold gatOk; rw [h]; rfl
theorem gAt_nil : gAt xs C [] = [] := rfl
theorem gAt_snoc {l : List Nat} {i x : Nat} {c : Option Nat} (hx : xs[i]? = some x) (hc : C[i]? = some c) : gAt xs C (l ++ [i]) = gIn x c (gAt xs C l) := by
  unfold gAt gIn
  rw [List.map_append, List.map_cons, List.map_nil, insL_snoc, hx, hc]
  rfl
theorem gAt_up (l : List Nat) : KUp val (gAt xs C l) := insL_up _ List.Pairwise.nil
theorem insL_mem {β γ : Type} {key : β → Rat} {add : γ → γ → γ} {z : γ} {p : β × γ} : ∀ (l s : List (β × γ)), p ∈ insL key add z s l → (∃ q ∈ l, q.1 = p.1) ∨ ∃ q ∈ s, q.1 = p.1
  | [], s, h => .inr ⟨p, h, rfl⟩
  | q :: l, s, h => by
    rcases insL_mem l (insG key add z q.1 q.2 s) h with ⟨r, hr, e⟩ | ⟨r, hr, e⟩
    · exact .inl ⟨r, by simp [hr], e⟩
    · rcases insG_mem hr with e' | ⟨t, ht, e'⟩
      · exact .inl ⟨q, by simp, e'.symm.trans e⟩
      · exact .inr ⟨t, ht, e'.trans e⟩
theorem gAt_mem {l : List Nat} {p : Nat × Option Nat} (h : p ∈ gAt xs C l) : ∃ i ∈ l, xs[i]?.getD 0 = p.1 := by
  unfold gAt at h
  rcases insL_mem _ _ h with ⟨q, hq, e⟩ | ⟨q, hq, _⟩
  · obtain ⟨i, hi, rfl⟩ := List.mem_map.1 hq
    exact ⟨i, hi, e⟩
  · cases hq
theorem gAt_len (l : List Nat) : (gAt xs C l).length ≤ l.length := by
  have := (insL_len (key := val) (add := addA) (z := some 0) (l.map fun i => (xs[i]?.getD 0, C[i]?.getD none)) []).2
  unfold gAt
  simpa using this
/-- Sorted first. -/
theorem gAt_sorted {l : List Nat} (hp : l.Perm (List.range xs.length)) (hs : l.Pairwise (fun i j => val (xs[i]?.getD 0) < val (xs[j]?.getD 0) ∨ val (xs[i]?.getD 0) = val (xs[j]?.getD 0) ∧ i < j)) : gAt xs C l = gatS xs C :=
  insL_sorted (key := val) (add := addA) (z := some 0) (fun i => (xs[i]?.getD 0, C[i]?.getD none)) xs.length l hp hs
/-- The next one in a row that goes up: a new value. -/
theorem gIn_new {s : List (Nat × Option Nat)} {x : Nat} {c : Option Nat} (h : ∀ p ∈ s, val p.1 < val x) : gIn x c s = s ++ [(x, addA (some 0) c)] := insG_all_lt h
theorem gIn_old {t : List (Nat × Option Nat)} {v x : Nat} {d c : Option Nat} (hu : KUp val (t ++ [(v, d)])) (hv : val v = val x) : gIn x c (t ++ [(v, d)]) = t ++ [(v, addA d c)] := by
  refine insG_last_eq (fun p hp => ?_) hv
  rw [← hv]
  exact (List.pairwise_append.1 hu).2.2 p hp (v, d) (by simp)
theorem all_lt_last {t : List (Nat × Option Nat)} {v x : Nat} {d : Option Nat} (hu : KUp val (t ++ [(v, d)])) (hv : val v < val x) : ∀ p ∈ t ++ [(v, d)], val p.1 < val x := by
  intro p hp
  rcases List.mem_append.1 hp with h | h
  · have h2 : val p.1 < val v := (List.pairwise_append.1 hu).2.2 p h (v, d) (by simp)
    grind
  · simp at h; rw [h]; exact hv
/-- It hangs on what the words stand for alone. -/
theorem absL_fin {xs ys : List Nat} (h : absL xs = absL ys) (hf : xs.all finB = true) : xs = ys := by
  induction xs generalizing ys with
  | nil => cases ys with | nil => rfl | cons y t => simp [absL] at h
  | cons x t ih =>
    cases ys with
    | nil => simp [absL] at h
    | cons y u =>
      simp only [absL, List.map_cons, List.cons.injEq] at h
      simp only [List.all_cons, Bool.and_eq_true] at hf
      have hx : (FloatKind.f32.decode x).isNaN = false := by
        cases hn : (FloatKind.f32.decode x).isNaN with
        | false => rfl
        | true =>
          obtain ⟨s, t, e⟩ := nan_cases hn
          have := hf.1
          simp [finB, e] at this
      rw [absF_of hx] at h
      rw [ih h.2 hf.2, (absF_some h.1.symm).1]
theorem all_fin_abs {xs ys : List Nat} (h : absL xs = absL ys) : xs.all finB = ys.all finB := by
  have e : ∀ l : List Nat, l.all finB = (absL l).all finA := fun l => by
    unfold absL
    rw [List.all_map]
    congr 1
    funext b
    exact fin_abs b
  rw [e, e, h]
theorem retGather_abs {xs ys : List Nat} (h : absL xs = absL ys) (C : List (Option Nat)) : RetGather xs C = RetGather ys C := by
  cases hf : xs.all finB with
  | true => rw [absL_fin h hf]
  | false =>
    have hf' : ys.all finB = false := by rw [← all_fin_abs h]; exact hf
    unfold RetGather
    rw [gatOk_f hf, gatOk_f hf']
    rfl
end
end Go.Proofs.Ytimpabceellihaa
