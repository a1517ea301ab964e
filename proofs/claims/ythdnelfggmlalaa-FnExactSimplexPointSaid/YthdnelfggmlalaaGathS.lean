/-
  The walk of spec.l05Gather.
-/
import Derived.Test.YthdnelfggmlalaaGathP
import Derived.Test.YthdnelfggmlalaaGrow2
import Derived.Test.YthdnelfggmlalaaFl
import Derived.Deep.DeepCutAuto
import Derived.Deep.CutBlock
namespace Go.Proofs.Ythdnelfggmlalaa
open Go.RowKit
attribute [local go_sem] run_fl_add run_fl_sub run_fl_mul run_fl_quo run_up_ run_store_float

/-- What the reference has gathered of the first i values. -/
def sTo (xs : List Nat) (C : List (Option Nat)) (i : Nat) : List (Nat × Option Nat) := gAt xs C (List.range i)
theorem sTo_zero (xs : List Nat) (C : List (Option Nat)) : sTo xs C 0 = [] := rfl
theorem sTo_succ {xs : List Nat} {C : List (Option Nat)} {i x : Nat} {c : Option Nat} (hx : xs[i]? = some x) (hc : C[i]? = some c) : sTo xs C (i + 1) = gIn x c (sTo xs C i) := by
  unfold sTo
  rw [List.range_succ, gAt_snoc hx hc]
theorem sTo_end (xs : List Nat) (C : List (Option Nat)) : sTo xs C xs.length = gatS xs C := rfl
theorem sTo_len (xs : List Nat) (C : List (Option Nat)) (i : Nat) : (sTo xs C i).length ≤ i := by
  have := gAt_len (xs := xs) (C := C) (List.range i)
  rwa [List.length_range] at this
theorem sTo_mono (xs : List Nat) (C : List (Option Nat)) {i j : Nat} (h : i ≤ j) : (sTo xs C i).length ≤ (sTo xs C j).length := by
  obtain ⟨d, rfl⟩ : ∃ d, j = i + d := ⟨j - i, by omega⟩
  unfold sTo gAt
  rw [List.range_add, List.map_append, insL_app]
  exact (insL_len _ _).1
theorem sTo_fin {xs : List Nat} {C : List (Option Nat)} {i : Nat} (hi : i ≤ xs.length) (hf : (xs.take i).all finB = true) : ∀ p ∈ sTo xs C i, finB p.1 = true := by
  intro p hp
  obtain ⟨j, hj, e⟩ := gAt_mem hp
  have hjn := List.mem_range.1 hj
  obtain ⟨y, hy⟩ := get_of_lt (xs := xs) (k := j) (by omega)
  rw [hy] at e
  simp at e
  rw [← e]
  refine List.all_eq_true.1 hf y ?_
  refine List.mem_of_getElem? (i := j) ?_
  rw [List.getElem?_take, if_pos hjn]
  exact hy
theorem gatOk_many {xs : List Nat} {C : List (Option Nat)} {i : Nat} (hi : i ≤ xs.length) (h : 65 ≤ (sTo xs C i).length) : gatOk xs C = false := by
  have h2 := sTo_mono xs C hi
  rw [sTo_end] at h2
  unfold gatOk shareAB
  rw [decide_eq_false (by rw [List.length_map]; omega)]
  simp
theorem lt_ord {a b : Nat} (ha : finB a = true) (hb : finB b = true) : (FloatKind.f32.format.order a b == some .lt) = decide (val a < val b) := by
  rw [Bool.eq_iff_iff, beq_iff_eq, decide_eq_true_eq]
  exact lt_val ha hb
theorem eq_ord {a b : Nat} (ha : finB a = true) (hb : finB b = true) : (FloatKind.f32.format.order a b == some .eq) = decide (val a = val b) := by
  rw [Bool.eq_iff_iff, beq_iff_eq, decide_eq_true_eq]
  exact eq_val ha hb
/-- The place at which x stands or would stand. -/
def Place (V : List Nat) (x at_ : Nat) : Prop := ∀ p v, p < at_ → V[p]? = some v → val v < val x
theorem absg' {xs : List Nat} {i : Nat} {a : Option Nat} (h : (absL xs)[i]? = some a) : ∃ x, xs[i]? = some x ∧ absF .f32 x = a := by
  unfold absL at h
  rw [List.getElem?_map] at h
  cases hx : xs[i]? with
  | none => rw [hx] at h; cases h
  | some x => rw [hx] at h; exact ⟨x, rfl, by simpa using h⟩
theorem set_same {α : Type} {l : List α} {k : Nat} {v : α} (h : l[k]? = some v) : l.set k v = l := by
  apply List.ext_getElem?
  intro i
  rw [List.getElem?_set]
  by_cases e : k = i
  · subst e
    rw [if_pos rfl, if_pos (lt_of_get h), h]
  · rw [if_neg e]
section
variable {s : List (Nat × Option Nat)} {V Y : List Nat} {x k : Nat} {c : Option Nat}
theorem place_old (hV : V = s.map Prod.fst) (hY : absL Y = s.map Prod.snd) (hp : Place V x k) {v y0 : Nat} (hv : V[k]? = some v) (hy : Y[k]? = some y0) (he : val v = val x) : V = (gIn x c s).map Prod.fst ∧ (absL Y).set k (addA (absF .f32 y0) c) = (gIn x c s).map Prod.snd := by
  have hkl : k < s.length := by have := lt_of_get hv; rw [hV, List.length_map] at this; exact this
  obtain ⟨p, hpk⟩ := get_of_lt hkl
  have hp1 : p.1 = v := by rw [hV, List.getElem?_map, hpk] at hv; simpa using hv
  have hp2 : absF .f32 y0 = p.2 := by
    have h : (absL Y)[k]? = some (absF .f32 y0) := by simp [absL, hy]
    rw [hY, List.getElem?_map, hpk] at h
    simpa using h.symm
  obtain ⟨g1, _⟩ := insG_at (key := val) (add := addA) (z := some 0) (x := x) (c := c) (s := s) (k := k) (fun i q hi hq => hp i q.1 hi (by rw [hV, List.getElem?_map, hq]; rfl)) (fun q hq => by rw [hpk] at hq; cases hq; rw [hp1, he]; exact Rat.lt_irrefl) (by omega)
  have h := g1 p hpk (by rw [hp1]; exact he)
  unfold gIn
  rw [h]
  constructor
  · rw [List.map_set, ← hV, hp1]
    exact (set_same hv).symm
  · rw [List.map_set, ← hY, hp2]
theorem place_new (hV : V = s.map Prod.fst) (hY : absL Y = s.map Prod.snd) (hp : Place V x k) (hk : k ≤ V.length) (hn : ∀ v, V[k]? = some v → ¬ val v < val x ∧ val v ≠ val x) {b : Nat} (hb : absF .f32 b = addA (some 0) c) : V.take k ++ x :: V.drop k = (gIn x c s).map Prod.fst ∧ absL (Y.take k ++ b :: Y.drop k) = (gIn x c s).map Prod.snd := by
  obtain ⟨_, g2⟩ := insG_at (key := val) (add := addA) (z := some 0) (x := x) (c := c) (s := s) (k := k) (fun i q hi hq => hp i q.1 hi (by rw [hV, List.getElem?_map, hq]; rfl)) (fun q hq => (hn q.1 (by rw [hV, List.getElem?_map, hq]; rfl)).1) (by rw [hV, List.length_map] at hk; exact hk)
  have h := g2 (fun q hq => (hn q.1 (by rw [hV, List.getElem?_map, hq]; rfl)).2)
  unfold gIn
  rw [h]
  constructor
  · rw [hV]; simp [List.map_take, List.map_drop]
  · have e : absL (Y.take k ++ b :: Y.drop k) = (absL Y).take k ++ absF .f32 b :: (absL Y).drop k := by simp [absL, List.map_take, List.map_drop]
    rw [e, hY, hb]
    simp [List.map_take, List.map_drop]
/-- A row into which a place is being made. -/
theorem shift_set (l : List Nat) (e : Nat) {k z : Nat} (hk : k + 1 ≤ l.length) (hz : l[k]? = some z) : (l.take (k + 1) ++ e :: l.drop (k + 1)).set (k + 1) z = l.take k ++ z :: l.drop k := by
  have hl : (l.take (k + 1)).length = k + 1 := by simp; omega
  have e1 : (l.take (k + 1) ++ e :: l.drop (k + 1)).set (k + 1) z = l.take (k + 1) ++ z :: l.drop (k + 1) := by
    rw [List.set_append_right _ _ (by omega), hl, Nat.sub_self, List.set_cons_zero]
  rw [e1, take_snoc hz]
  have hd : l.drop k = z :: l.drop (k + 1) := by
    rw [List.drop_eq_getElem_cons (by omega)]
    congr 1
    rw [List.getElem?_eq_getElem (by omega)] at hz
    exact Option.some.inj hz
  rw [hd]; simp
theorem shift_at (l : List Nat) (e : Nat) {k z : Nat} (hz : l[k]? = some z) : (l.take (k + 1) ++ e :: l.drop (k + 1))[k]? = some z := by
  have := lt_of_get hz
  rw [List.getElem?_append_left (by simp; omega), List.getElem?_take, if_pos (by omega)]
  exact hz
theorem shift_here (l : List Nat) (e : Nat) {k : Nat} (hk : k ≤ l.length) : (l.take k ++ e :: l.drop k)[k]? = some e := by
  have hl : (l.take k).length = k := by simp; omega
  rw [List.getElem?_append_right (by omega), hl, Nat.sub_self]
  rfl
theorem shift_len (l : List Nat) (e : Nat) {k : Nat} (hk : k ≤ l.length) : (l.take k ++ e :: l.drop k).length = l.length + 1 := by simp; omega
theorem shift_put (l : List Nat) (e z : Nat) {k : Nat} (hk : k ≤ l.length) : (l.take k ++ e :: l.drop k).set k z = l.take k ++ z :: l.drop k := by
  have hl : (l.take k).length = k := by simp; omega
  rw [List.set_append_right _ _ (by omega), hl, Nat.sub_self, List.set_cons_zero]
end

end Go.Proofs.Ythdnelfggmlalaa
