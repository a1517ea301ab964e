/-
  Two rows of the call's own that grow in one statement; four cells that a region loads.
-/
import Derived.Test.YtjajlddnhmbekaaShBack
namespace Go.Proofs.Ytjajlddnhmbekaa
open Go.RowKit

/-- Four cells. -/
structure S4 (a0 a1 a2 a3 : Addr) (v0 v1 v2 v3 : Value) (w : World) : Prop where
  c0 : w.cell? a0 = some v0
  c1 : w.cell? a1 = some v1
  c2 : w.cell? a2 = some v2
  c3 : w.cell? a3 = some v3
theorem S4.below' {a0 a1 a2 a3 : Addr} {v0 v1 v2 v3 : Value} {B : Nat} {w w' : World} (h : S4 a0 a1 a2 a3 v0 v1 v2 v3 w) (hb : Below B w w') (h0 : a0.block < B) (h1 : a1.block < B) (h2 : a2.block < B) (h3 : a3.block < B) : S4 a0 a1 a2 a3 v0 v1 v2 v3 w' :=
  ⟨(hb.cell h0).trans h.c0, (hb.cell h1).trans h.c1, (hb.cell h2).trans h.c2, (hb.cell h3).trans h.c3⟩
section
variable {w w1 w2 w3 : World} {base : Nat} {v0 v1 u0 u1 : Value} {x0 x1 ys zs : List Nat}
/-- Both rows have grown, the first one first. -/
theorem rows_two (_o0 : Own fV 28 w base v0 x0) (o1 : Own fV 28 w base v1 x1) (ap : v0.ownBlock = none ∨ v0.ownBlock ≠ v1.ownBlock) (ho : Own fV 28 w1 base u0 (x0 ++ ys)) (hg : w.grownBy w1 v0.ownBlock) (hp : u0.ownBlock = v0.ownBlock ∨ u0.ownBlock = some w.heap.size) (hb : Below w1.heap.size w1 w2)
    (_ho' : Own fV 28 w3 base u1 (x1 ++ zs)) (hg' : w2.grownBy w3 v1.ownBlock) (hp' : u1.ownBlock = v1.ownBlock ∨ u1.ownBlock = some w2.heap.size) :
    Own fV 28 w3 base u0 (x0 ++ ys) ∧ (u0.ownBlock = none ∨ u0.ownBlock ≠ u1.ownBlock) := by
  have hz1 := hg.size
  have hz2 := hb.size
  have a0 : ∀ a, u0.ownBlock = some a → base ≤ a ∧ a < w1.heap.size := fun a e => ho.lt a e
  have ap1 : u0.ownBlock = none ∨ u0.ownBlock ≠ v1.ownBlock := by
    cases hu : u0.ownBlock with
    | none => exact .inl rfl
    | some a =>
      refine .inr fun e => ?_
      have hl := (o1.lt a e.symm).2
      rcases hp with e' | e'
      · rcases ap with k | k
        · rw [hu, k] at e'; cases e'
        · exact k (e'.symm.trans (hu.trans e))
      · rw [hu] at e'; injection e' with e'; omega
  refine ⟨(ho.below hb).kept hg' ap1, ?_⟩
  cases hu : u0.ownBlock with
  | none => exact .inl rfl
  | some a =>
    refine .inr fun e => ?_
    rcases hp' with e' | e'
    · rcases ap1 with k | k
      · rw [hu] at k; cases k
      · exact k (hu.trans (e.trans e'))
    · rw [← e] at e'
      injection e' with e'
      have := (a0 a hu).2
      omega
end
/-- An operation that makes no NaN draws nothing. -/
theorem flR_some {op : BinOp} {k : FloatKind} {x y r : Nat} (h : floatBits op k x y = some r) (W : World) : flR op k x y W = r := by unfold flR; rw [h]; rfl
theorem flN_some {op : BinOp} {k : FloatKind} {x y r : Nat} (h : floatBits op k x y = some r) : flN op k x y = 0 := by unfold flN; rw [h]; rfl
end Go.Proofs.Ytjajlddnhmbekaa
