/-
  A function that hands back what gathering gives: its last steps; ShiftShare, walked in the program and in the reference.
  Two rows of the call's own that grow in one statement; four cells that a region loads.
-/
import Derived.Test.YtjajlddnhmbekaaGreatGathI
import Derived.Test.YtjajlddnhmbekaaGreatGathS
namespace Go.Proofs.YtjajlddnhmbekaaGreat
section
open Go.RowKit


/-- A word that stands for a number, or for a NaN. -/
def wordOf : Option Nat → Nat | none => 2143289344 | some b => b
theorem abs_wordOf (z : Nat) : absF .f32 (wordOf (absF .f32 z)) = absF .f32 z := by
  cases h : (FloatKind.f32.decode z).isNaN
  · rw [absF_of h]
    exact absF_of h
  · rw [absF_nan h]
    exact absF_nan (by decide)
theorem absL_words (zs : List Nat) : absL ((absL zs).map wordOf) = absL zs := by
  unfold absL
  rw [List.map_map, List.map_map]
  exact List.map_congr_left fun z _ => abs_wordOf z
/-- What gathering returns, by what the words of the values stand for. -/
def gatW (A : List (Option Nat)) : List Nat := A.map wordOf
theorem gat_words {zs : List Nat} {A : List (Option Nat)} (h : absL zs = A) (C : List (Option Nat)) : RetGather zs C = RetGather (gatW A) C := by
  refine retGather_abs ?_ C
  unfold gatW
  rw [← h, absL_words]
theorem gat_okw {zs : List Nat} {A : List (Option Nat)} (h : absL zs = A) (C : List (Option Nat)) : gatOk zs C = gatOk (gatW A) C := by
  have e : absL zs = absL (gatW A) := by unfold gatW; rw [← h, absL_words]
  cases hf : zs.all finB with
  | true => rw [absL_fin e hf]
  | false =>
    have hf' : (gatW A).all finB = false := by rw [← all_fin_abs e]; exact hf
    rw [gatOk_f hf, gatOk_f hf']
theorem rd_two (w : World) (a b : Nat) : Rd fV (w.alloc (.cells #[fV a, fV b] 28)) (.slice (some ⟨w.heap.size, 0, none⟩) 2 2) [a, b] := by
  have h : Own fV 28 (w.alloc (.cells #[fV a, fV b] 28)) w.heap.size (.slice (some ⟨w.heap.size, 0, none⟩) 2 2) [a, b] :=
    World.ownsRow_lit (w := w) (base := w.heap.size) (e := 28) (size := 1) #[fV a, fV b] 2 (Nat.le_refl _) (by decide) rfl
  exact h.rd
/-- The result of gathering, once it is stored in the result's cells. -/
theorem retSh_stored {ok : Bool} {V C : List (Option Nat)} {w w5 w6 : World} {b : Nat} {E0 E1 : Option Addr} {n0 n1 c0 c1 : Nat} {z0 z1 : List Nat} (o0 : Own fV 28 w6 w5.heap.size (.slice E0 n0 c0) z0) (o1 : Own fV 28 w6 w5.heap.size (.slice E1 n1 c1) z1)
    (ap : (Value.slice E0 n0 c0).ownBlock = none ∨ (Value.slice E0 n0 c0).ownBlock ≠ (Value.slice E1 n1 c1).ownBlock) (l0 : z0.length ≤ 1099511627) (l1 : z1.length ≤ 1099511627) (a0 : absL z0 = if ok then V else []) (a1 : absL z1 = if ok then C else [])
    (hT : Below w.heap.size w w6) (hb1 : w.heap.size ≤ b) (hb2 : b < w5.heap.size) (h5 : w.heap.size ≤ w5.heap.size) (u0 u1 : Value) :
    RetSh ok V C w (.returned (.tuple #[shV (.slice E0 n0 c0) (.slice E1 n1 c1), .bool ok])) ((w6.setCell ⟨b, 0, none⟩ u0).setCell ⟨b, 1, none⟩ u1) := by
  have k0 := Own.other (Own.other o0 (p := ⟨b, 0, none⟩) (fun e => by have h9 := (o0.lt _ e).1; simp at h9; omega) u0) (p := ⟨b, 1, none⟩) (fun e => by have h9 := (o0.lt _ e).1; simp at h9; omega) u1
  have k1 := Own.other (Own.other o1 (p := ⟨b, 0, none⟩) (fun e => by have h9 := (o1.lt _ e).1; simp at h9; omega) u0) (p := ⟨b, 1, none⟩) (fun e => by have h9 := (o1.lt _ e).1; simp at h9; omega) u1
  exact ⟨_, z0, _, z1, rfl, k0.base_ h5, k1.base_ h5, ap, l0, l1, a0, a1, (hT.setCell (p := ⟨b, 0, none⟩) hb1 _).setCell (p := ⟨b, 1, none⟩) hb1 _⟩
end

section
open Go.RowKit

/-- Four cells. -/
structure S4 (a0 a1 a2 a3 : Addr) (v0 v1 v2 v3 : Value) (w : World) : Prop where
  c0 : w.cell? a0 = some v0
  c1 : w.cell? a1 = some v1
  c2 : w.cell? a2 = some v2
  c3 : w.cell? a3 = some v3
theorem S4.below' {a0 a1 a2 a3 : Addr} {v0 v1 v2 v3 : Value} {B : Nat} {w w' : World} (h : S4 a0 a1 a2 a3 v0 v1 v2 v3 w) (hb : Below B w w') (h0 : a0.block < B) (h1 : a1.block < B) (h2 : a2.block < B) (h3 : a3.block < B) : S4 a0 a1 a2 a3 v0 v1 v2 v3 w' :=
  ⟨(hb.cell h0).trans h.c0, (hb.cell h1).trans h.c1, (hb.cell h2).trans h.c2, (hb.cell h3).trans h.c3⟩
section
variable {w w1 w2 w3 : World} {base : Nat} {v0 v1 u0 u1 : Value} {x0 x1 ys zs : List Nat}
/-- Both rows have grown, the first one first. -/
theorem rows_two (_o0 : Own fV 28 w base v0 x0) (o1 : Own fV 28 w base v1 x1) (ap : v0.ownBlock = none ∨ v0.ownBlock ≠ v1.ownBlock) (ho : Own fV 28 w1 base u0 (x0 ++ ys)) (hg : w.grownBy w1 v0.ownBlock) (hp : u0.ownBlock = v0.ownBlock ∨ u0.ownBlock = some w.heap.size) (hb : Below w1.heap.size w1 w2)
    (_ho' : Own fV 28 w3 base u1 (x1 ++ zs)) (hg' : w2.grownBy w3 v1.ownBlock) (hp' : u1.ownBlock = v1.ownBlock ∨ u1.ownBlock = some w2.heap.size) :
    Own fV 28 w3 base u0 (x0 ++ ys) ∧ (u0.ownBlock = none ∨ u0.ownBlock ≠ u1.ownBlock) := by
  have hz1 := hg.size
  have hz2 := hb.size
  have a0 : ∀ a, u0.ownBlock = some a → base ≤ a ∧ a < w1.heap.size := fun a e => ho.lt a e
  have ap1 : u0.ownBlock = none ∨ u0.ownBlock ≠ v1.ownBlock := by
    cases hu : u0.ownBlock with
    | none => exact .inl rfl
    | some a =>
      refine .inr fun e => ?_
      have hl := (o1.lt a e.symm).2
      rcases hp with e' | e'
      · rcases ap with k | k
        · rw [hu, k] at e'; cases e'
        · exact k (e'.symm.trans (hu.trans e))
      · rw [hu] at e'; injection e' with e'; omega
  refine ⟨(ho.below hb).kept hg' ap1, ?_⟩
  cases hu : u0.ownBlock with
  | none => exact .inl rfl
  | some a =>
    refine .inr fun e => ?_
    rcases hp' with e' | e'
    · rcases ap1 with k | k
      · rw [hu] at k; cases k
      · exact k (hu.trans (e.trans e'))
    · rw [← e] at e'
      injection e' with e'
      have := (a0 a hu).2
      omega
end
/-- An operation that makes no NaN draws nothing. -/
theorem flR_someT {op : BinOp} {k : FloatKind} {x y r : Nat} (h : floatBits op k x y = some r) (W : World) : flR op k x y W = r := by unfold flR; rw [h]; rfl
theorem flN_some {op : BinOp} {k : FloatKind} {x y r : Nat} (h : floatBits op k x y = some r) : flN op k x y = 0 := by unfold flN; rw [h]; rfl
end
end Go.Proofs.YtjajlddnhmbekaaGreat
