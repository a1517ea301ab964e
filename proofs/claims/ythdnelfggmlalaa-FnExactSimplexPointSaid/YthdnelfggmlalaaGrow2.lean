/-
  A share that is built in a box, on: the row of values read and stored into; both rows grown by one statement.
-/
import Derived.Test.YthdnelfggmlalaaGrow
namespace Go.Proofs.Ythdnelfggmlalaa
open Go.RowKit
section
variable {w w' : World} {base S : Nat} {v0 v1 : Value} {x0 x1 ys zs : List Nat}
theorem Grow.len0 {g c m : Nat} (h : Grow w base S (.slice (some ⟨g, 0, none⟩) m c) v1 x0 x1) : m = x0.length := by
  rcases h.o0.2 with ⟨e, _⟩ | ⟨g', cap, cur, e, _⟩
  · cases e
  · cases e; rfl
theorem Grow.at0 {g c m : Nat} (h : Grow w base S (.slice (some ⟨g, 0, none⟩) m c) v1 x0 x1) {j x : Nat} (hx : x0[j]? = some x) : w.cell? ⟨g, j, none⟩ = some (fV x) := by
  have hm := h.len0
  subst hm
  have ho : w.ownsRow base 56 1 (.slice (some ⟨g, 0, none⟩) x0.length c) x0.length (x0.map fV) := h.o0
  have := ho.cellAt j (by have := lt_of_get hx; omega)
  rw [List.getElem?_map, hx, Option.map_some] at this
  exact this
theorem Grow.free0 {g c m : Nat} (h : Grow w base S (.slice (some ⟨g, 0, none⟩) m c) v1 x0 x1) (j : Nat) : w.frozen? ⟨g, j, none⟩ = false := by
  have hm := h.len0
  subst hm
  have ho : w.ownsRow base 56 1 (.slice (some ⟨g, 0, none⟩) x0.length c) x0.length (x0.map fV) := h.o0
  exact ho.frozenAt j
theorem Grow.put0 {g c m : Nat} (h : Grow w base S (.slice (some ⟨g, 0, none⟩) m c) v1 x0 x1) (i x : Nat) : Grow (w.setCell ⟨g, i, none⟩ (fV x)) base S (.slice (some ⟨g, 0, none⟩) m c) v1 (x0.set i x) x1 := by
  have hm := h.len0
  subst hm
  refine ⟨h.box.other (p := ⟨g, i, none⟩) (fun e => h.n0 (by rw [← e]; rfl)) _, ?_, Own.other h.o1 (fun e => ?_) _, h.n0, h.n1, h.ap⟩
  · unfold Own
    rw [List.map_set, List.length_set]
    exact (World.ownsRow.stored (w := w) h.o0 i (fV x)).1
  · rcases h.ap with e' | e'
    · cases e'
    · exact e' e.symm
theorem Grow.drewN (h : Grow w base S v0 v1 x0 x1) (n : Nat) : Grow (w.drewN n) base S v0 v1 x0 x1 := h.below (below_drewN_ (Below.refl _ _))
theorem Grow.drew (h : Grow w base S v0 v1 x0 x1) : Grow w.drew base S v0 v1 x0 x1 := h.below (Below.refl _ _).drew
variable {w1 w2 w3 : World} {u0 u1 : Value}
/-- Both rows have grown, the first one first; then both are stored. -/
theorem Grow.two01 (h : Grow w base S v0 v1 x0 x1) (hS : S < base) (ho : Own fV 56 w1 base u0 (x0 ++ ys)) (hg : w.grownBy w1 v0.ownBlock) (hp : u0.ownBlock = v0.ownBlock ∨ u0.ownBlock = some w.heap.size) (hb : Below w1.heap.size w1 w2)
    (ho' : Own fV 56 w3 base u1 (x1 ++ zs)) (hg' : w2.grownBy w3 v1.ownBlock) (hp' : u1.ownBlock = v1.ownBlock ∨ u1.ownBlock = some w2.heap.size) :
    Grow ((w3.setCell ⟨S, 0, none⟩ u0).setCell ⟨S, 1, none⟩ u1) base S u0 u1 (x0 ++ ys) (x1 ++ zs) := by
  have hSl := h.box.lt
  have hz1 := hg.size
  have hz2 := hb.size
  have a0 : ∀ a, u0.ownBlock = some a → base ≤ a ∧ a < w1.heap.size := fun a e => ho.lt a e
  have a1 : ∀ a, u1.ownBlock = some a → base ≤ a ∧ a < w3.heap.size := fun a e => ho'.lt a e
  have n0 : u0.ownBlock ≠ some S := fun e => by have := (a0 S e).1; omega
  have n1 : u1.ownBlock ≠ some S := fun e => by have := (a1 S e).1; omega
  have ap1 : u0.ownBlock = none ∨ u0.ownBlock ≠ v1.ownBlock := by
    cases hu : u0.ownBlock with
    | none => exact .inl rfl
    | some a =>
      refine .inr fun e => ?_
      have hl := (h.o1.lt a e.symm).2
      rcases hp with e' | e'
      · rcases h.ap with k | k
        · rw [hu, k] at e'; cases e'
        · exact k (e'.symm.trans (hu.trans e))
      · rw [hu] at e'; injection e' with e'; omega
  have o0 : Own fV 56 w3 base u0 (x0 ++ ys) := (ho.below hb).kept hg' ap1
  refine ⟨((((h.box.kept hg h.n0).below hb).kept hg' h.n1).set (i := 0) rfl u0).set (i := 1) rfl u1, Own.other (Own.other o0 n0 _) n0 _, Own.other (Own.other ho' n1 _) n1 _, n0, n1, ?_⟩
  cases hu : u0.ownBlock with
  | none => exact .inl rfl
  | some a =>
    refine .inr fun e => ?_
    rcases hp' with e' | e'
    · rcases ap1 with k | k
      · rw [hu] at k; cases k
      · exact k (hu.trans (e.trans e'))
    · rw [← e] at e'
      injection e' with e'
      have := (a0 a hu).2
      omega
/-- .. the second one first. -/
theorem Grow.two10 (h : Grow w base S v0 v1 x0 x1) (hS : S < base) (ho : Own fV 56 w1 base u1 (x1 ++ zs)) (hg : w.grownBy w1 v1.ownBlock) (hp : u1.ownBlock = v1.ownBlock ∨ u1.ownBlock = some w.heap.size) (hb : Below w1.heap.size w1 w2)
    (ho' : Own fV 56 w3 base u0 (x0 ++ ys)) (hg' : w2.grownBy w3 v0.ownBlock) (hp' : u0.ownBlock = v0.ownBlock ∨ u0.ownBlock = some w2.heap.size) :
    Grow ((w3.setCell ⟨S, 0, none⟩ u0).setCell ⟨S, 1, none⟩ u1) base S u0 u1 (x0 ++ ys) (x1 ++ zs) := by
  have hSl := h.box.lt
  have hz1 := hg.size
  have hz2 := hb.size
  have a1 : ∀ a, u1.ownBlock = some a → base ≤ a ∧ a < w1.heap.size := fun a e => ho.lt a e
  have a0 : ∀ a, u0.ownBlock = some a → base ≤ a ∧ a < w3.heap.size := fun a e => ho'.lt a e
  have n0 : u0.ownBlock ≠ some S := fun e => by have := (a0 S e).1; omega
  have n1 : u1.ownBlock ≠ some S := fun e => by have := (a1 S e).1; omega
  have ap1 : u1.ownBlock = none ∨ u1.ownBlock ≠ v0.ownBlock := by
    cases hu : u1.ownBlock with
    | none => exact .inl rfl
    | some a =>
      refine .inr fun e => ?_
      have hl := (h.o0.lt a e.symm).2
      rcases hp with e' | e'
      · rcases h.ap with k | k
        · rw [k] at e; cases e
        · exact k (e.symm.trans (hu.symm.trans e'))
      · rw [hu] at e'; injection e' with e'; omega
  have o1 : Own fV 56 w3 base u1 (x1 ++ zs) := (ho.below hb).kept hg' ap1
  refine ⟨((((h.box.kept hg h.n1).below hb).kept hg' h.n0).set (i := 0) rfl u0).set (i := 1) rfl u1, Own.other (Own.other ho' n0 _) n0 _, Own.other (Own.other o1 n1 _) n1 _, n0, n1, ?_⟩
  cases hu : u0.ownBlock with
  | none => exact .inl rfl
  | some a =>
    refine .inr fun e => ?_
    rcases hp' with e' | e'
    · rcases ap1 with k | k
      · rw [k] at e; cases e
      · exact k (e.symm.trans (hu.symm.trans e'))
    · rw [hu] at e'
      injection e' with e'
      have := (a1 a e.symm).2
      omega
end
theorem size_st (w : World) (p : Addr) (u : Value) : (w.setCell p u).heap.size = w.heap.size := by simp
theorem own_oneA (w : World) (base x : Nat) (o : Obj) (h : base ≤ w.heap.size) : Own fV 56 ((w.alloc o).alloc (.cells #[fV x] 56)) base (.slice (some ⟨w.heap.size + 1, 0, none⟩) 1 1) [x] := by
  have := own_one (w.alloc o) base x (by simp; omega)
  rwa [size_alloc] at this
end Go.Proofs.Ythdnelfggmlalaa
