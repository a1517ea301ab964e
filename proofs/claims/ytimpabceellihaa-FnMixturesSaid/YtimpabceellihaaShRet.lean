/-
  Functions that give a share back: what they return, by name; impl.checkedShare, impl.countsFrom0; shares by what their words stand for.
  A share that is built in a box: two rows of the call's own, that grow by appending.
  A share that is built in a box, on: the row of values read and stored into; both rows grown by one statement.
-/
import Derived.Test.YtimpabceellihaaMean
import Derived.Test.YtimpabceellihaaSl
namespace Go.Proofs.Ytimpabceellihaa
section
open Go.RowKit
attribute [local go_sem] run_fl_add run_fl_sub run_fl_mul run_fl_quo run_up_

def leastA : Option Nat → Bool | none => false | some b => leastB b
theorem least_abs (b : Nat) : leastB b = leastA (absF .f32 b) := by
  cases h : (FloatKind.f32.decode b).isNaN
  · rw [absF_of h]; rfl
  · rw [absF_nan h]
    have : finB b = false := by rw [fin_abs, absF_nan h]; rfl
    unfold leastB
    rw [this]; rfl
/-- A share by its values and by what its chances stand for. -/
def shareAB (v : List Nat) (C : List (Option Nat)) : Bool := decide (1 ≤ v.length ∧ v.length ≤ 64) && decide (C.length = v.length) && v.all finB && riseTo v v.length && (C.all leastA && nearA (sumF C))
theorem shareB_abs (v c : List Nat) : shareB v c = shareAB v (absL c) := by
  have h : c.all leastB = (absL c).all leastA := by
    unfold absL
    rw [List.all_map]
    congr 1
    funext b
    exact least_abs b
  unfold shareB shareAB
  rw [h, show (absL c).length = c.length by simp [absL]]
/-- What a function that gives a share back returns: rows of its own, apart; none where there is no share. -/
def RetSh (ok : Bool) (V C : List (Option Nat)) (w : World) (e : Ending) (w' : World) : Prop :=
  ∃ v0 y0 v1 y1, e = .returned (.tuple #[shV v0 v1, .bool ok]) ∧ Own fV 39 w' w.heap.size v0 y0 ∧ Own fV 39 w' w.heap.size v1 y1 ∧ (v0.ownBlock = none ∨ v0.ownBlock ≠ v1.ownBlock) ∧ y0.length ≤ 1099511627 ∧ y1.length ≤ 1099511627 ∧
    absL y0 = (if ok then V else []) ∧ absL y1 = (if ok then C else []) ∧ Below w.heap.size w w'
theorem RetSh.none {V C : List (Option Nat)} {w w' : World} (hb : Below w.heap.size w w') : RetSh false V C w (.returned (.tuple #[shV (.slice none 0 0) (.slice none 0 0), .bool false])) w' :=
  ⟨_, [], _, [], rfl, Own.nil, Own.nil, .inl rfl, by simp, by simp, rfl, rfl, hb⟩
theorem Touch.drewN {lo hi : Nat} {a w : World} (h : Touch lo hi a w) (n : Nat) : Touch lo hi a (w.drewN n) := ⟨h.os, h.tape, h.output, h.size, h.block⟩
theorem Touch.refl (lo hi : Nat) (w : World) : Touch lo hi w w := ⟨rfl, rfl, rfl, Nat.le_refl _, fun _ _ _ => rfl⟩

/-- One of two values. -/
def chkV (b : Bool) (x y : Value) : Value := if b then x else y

/-- The numbers from 0 to n - 1 as words. -/
def cntL (n : Nat) : List Nat := (List.range n).map fun (i : Nat) => floatOfInt .f32 (i : Int)
theorem cntL_succ (n : Nat) : cntL (n + 1) = cntL n ++ [floatOfInt .f32 (n : Int)] := by simp [cntL, List.range_succ]
theorem cntL_len (n : Nat) : (cntL n).length = n := by simp [cntL]
end

section
open Go.RowKit

/-- Box S holds a share whose rows are the call's own, apart from each other and from the box. -/
structure Grow (w : World) (base S : Nat) (v0 v1 : Value) (x0 x1 : List Nat) : Prop where
  box : BoxAt w S [v0, v1]
  o0 : Own fV 39 w base v0 x0
  o1 : Own fV 39 w base v1 x1
  n0 : v0.ownBlock ≠ some S
  n1 : v1.ownBlock ≠ some S
  ap : v0.ownBlock = none ∨ v0.ownBlock ≠ v1.ownBlock
section
variable {w w' : World} {base S : Nat} {v0 v1 v' : Value} {x0 x1 ys : List Nat}
theorem BoxAt.kept {b : Nat} {vs : List Value} {row : Option Nat} (h : BoxAt w b vs) (hg : w.grownBy w' row) (hne : row ≠ some b) : BoxAt w' b vs :=
  have hbk : w'.heap[b]? = w.heap[b]? := hg.block b h.lt (fun e => hne e.symm)
  ⟨Nat.lt_of_lt_of_le h.lt hg.size, fun i v hv => (World.cell?_of_block (w := w) hbk).trans (h.cell i v hv), fun i => (World.frozen?_of_block (w := w) hbk).trans (h.free i)⟩
theorem BoxAt.below' {b B : Nat} {vs : List Value} (h : BoxAt w b vs) (hb : Below B w w') (hB : B ≤ w.heap.size) (hbB : b < B) : BoxAt w' b vs :=
  have hbk : w'.heap[b]? = w.heap[b]? := hb.block b hbB
  ⟨Nat.lt_of_lt_of_le (Nat.lt_of_lt_of_le hbB hB) hb.size, fun i v hv => (World.cell?_of_block (w := w) hbk).trans (h.cell i v hv), fun i => (World.frozen?_of_block (w := w) hbk).trans (h.free i)⟩
theorem Own.other {v : Value} {xs : List Nat} {b : Nat} (h : Own fV 39 w b v xs) {p : Addr} (hp : v.ownBlock ≠ some p.block) (u : Value) : Own fV 39 (w.setCell p u) b v xs :=
  h.kept (row := some p.block) ⟨rfl, rfl, rfl, by simp, fun k _ hk => Below.heap_setCell _ _ _ _ (fun e => hk (by rw [e]))⟩ (.inr hp)
theorem Grow.below (h : Grow w base S v0 v1 x0 x1) (hb : Below w.heap.size w w') : Grow w' base S v0 v1 x0 x1 :=
  ⟨h.box.below hb, h.o0.below hb, h.o1.below hb, h.n0, h.n1, h.ap⟩
theorem Grow.alloc (h : Grow w base S v0 v1 x0 x1) (o : Obj) : Grow (w.alloc o) base S v0 v1 x0 x1 := h.below (below_alloc w o)
/-- The row of values has grown, and is stored. -/
theorem Grow.app0 (h : Grow w base S v0 v1 x0 x1) (ho : Own fV 39 w' base v' (x0 ++ ys)) (hg : w.grownBy w' v0.ownBlock) (hp : v'.ownBlock = v0.ownBlock ∨ v'.ownBlock = some w.heap.size) :
    Grow (w'.setCell ⟨S, 0, none⟩ v') base S v' v1 (x0 ++ ys) x1 := by
  have hSl := h.box.lt
  have n' : v'.ownBlock ≠ some S := by
    rcases hp with e | e <;> rw [e]
    · exact h.n0
    · intro e; injection e; omega
  have hne : v1.ownBlock = none ∨ v1.ownBlock ≠ v0.ownBlock := apart_symm h.ap
  refine ⟨(h.box.kept hg h.n0).set (i := 0) rfl v', Own.other ho n' _, Own.other (h.o1.kept hg hne) h.n1 _, n', h.n1, ?_⟩
  cases hv' : v'.ownBlock with
  | none => exact .inl rfl
  | some a =>
    refine .inr fun e => ?_
    rcases hp with e' | e'
    · rcases h.ap with e0 | e0
      · rw [hv', e0] at e'; cases e'
      · exact e0 (e'.symm.trans (hv'.trans e))
    · rw [hv'] at e'
      injection e' with e'
      have := (h.o1.lt a e.symm).2
      omega
theorem Grow.app1 (h : Grow w base S v0 v1 x0 x1) (ho : Own fV 39 w' base v' (x1 ++ ys)) (hg : w.grownBy w' v1.ownBlock) (hp : v'.ownBlock = v1.ownBlock ∨ v'.ownBlock = some w.heap.size) :
    Grow (w'.setCell ⟨S, 1, none⟩ v') base S v0 v' x0 (x1 ++ ys) := by
  have hSl := h.box.lt
  have n' : v'.ownBlock ≠ some S := by
    rcases hp with e | e <;> rw [e]
    · exact h.n1
    · intro e; injection e; omega
  refine ⟨(h.box.kept hg h.n1).set (i := 1) rfl v', Own.other (h.o0.kept hg h.ap) h.n0 _, Own.other ho n' _, h.n0, n', ?_⟩
  cases hv : v0.ownBlock with
  | none => exact .inl rfl
  | some a =>
    refine .inr fun e => ?_
    rcases hp with e' | e'
    · rcases h.ap with e0 | e0
      · rw [hv] at e0; cases e0
      · exact e0 (hv.trans (e.trans e'))
    · have := (h.o0.lt a hv).2
      rw [← e] at e'
      injection e' with e'
      omega
/-- A cell of the row of chances is stored. -/
theorem Grow.put1 {g c m : Nat} (h : Grow w base S v0 (.slice (some ⟨g, 0, none⟩) m c) x0 x1) (i x : Nat) : Grow (w.setCell ⟨g, i, none⟩ (fV x)) base S v0 (.slice (some ⟨g, 0, none⟩) m c) x0 (x1.set i x) := by
  have hm : m = x1.length := by
    rcases h.o1.2 with ⟨e, _⟩ | ⟨g', cap, cur, e, _⟩
    · cases e
    · cases e; rfl
  subst hm
  refine ⟨h.box.other (p := ⟨g, i, none⟩) (fun e => h.n1 (by rw [← e]; rfl)) _, Own.other h.o0 (fun e => ?_) _, ?_, h.n0, h.n1, h.ap⟩
  · rcases h.ap with e' | e'
    · rw [e] at e'; cases e'
    · exact e' e
  · unfold Own
    rw [List.map_set, List.length_set]
    exact (World.ownsRow.stored (w := w) h.o1 i (fV x)).1
theorem Grow.len1 {g c m : Nat} (h : Grow w base S v0 (.slice (some ⟨g, 0, none⟩) m c) x0 x1) : m = x1.length := by
  rcases h.o1.2 with ⟨e, _⟩ | ⟨g', cap, cur, e, _⟩
  · cases e
  · cases e; rfl
theorem Grow.at1 {g c m : Nat} (h : Grow w base S v0 (.slice (some ⟨g, 0, none⟩) m c) x0 x1) {j x : Nat} (hx : x1[j]? = some x) : w.cell? ⟨g, j, none⟩ = some (fV x) := by
  have hm := h.len1
  subst hm
  have ho : w.ownsRow base 39 1 (.slice (some ⟨g, 0, none⟩) x1.length c) x1.length (x1.map fV) := h.o1
  have := ho.cellAt j (by have := lt_of_get hx; omega)
  rw [List.getElem?_map, hx, Option.map_some] at this
  exact this
theorem Grow.free1 {g c m : Nat} (h : Grow w base S v0 (.slice (some ⟨g, 0, none⟩) m c) x0 x1) (j : Nat) : w.frozen? ⟨g, j, none⟩ = false := by
  have hm := h.len1
  subst hm
  have ho : w.ownsRow base 39 1 (.slice (some ⟨g, 0, none⟩) x1.length c) x1.length (x1.map fV) := h.o1
  exact ho.frozenAt j
/-- What is written outside of the box and the rows. -/
theorem Grow.other (h : Grow w base S v0 v1 x0 x1) {p : Addr} (h0 : p.block < base) (hS : base ≤ S) (u : Value) : Grow (w.setCell p u) base S v0 v1 x0 x1 :=
  ⟨h.box.other (by omega) _, Own.other h.o0 (fun e => by have := (h.o0.lt _ e).1; omega) _, Own.other h.o1 (fun e => by have := (h.o1.lt _ e).1; omega) _, h.n0, h.n1, h.ap⟩
end
theorem Rd.drew1 {α : Type} {f : α → Value} {w : World} {v : Value} {xs : List α} (h : Rd f w v xs) : Rd f w.drew v xs := h
theorem Own.drew1 {α : Type} {f : α → Value} {E : TypeId} {w : World} {b : Nat} {v : Value} {xs : List α} (h : Own f E w b v xs) : Own f E w.drew b v xs := h
theorem own_one (w : World) (base x : Nat) (h : base ≤ w.heap.size) : Own fV 39 (w.alloc (.cells #[fV x] 39)) base (.slice (some ⟨w.heap.size, 0, none⟩) 1 1) [x] :=
  World.ownsRow_lit (w := w) (base := base) (e := 39) (size := 1) #[fV x] 1 h (by decide) rfl
/-- A box whose two rows are just made, of one element each. -/
theorem Grow.new (w : World) (a b : Nat) (T : TypeId) :
    Grow (((w.alloc (.cells #[fV a] 39)).alloc (.cells #[fV b] 39)).alloc (.cells #[.slice (some ⟨w.heap.size, 0, none⟩) 1 1, .slice (some ⟨w.heap.size + 1, 0, none⟩) 1 1] T)) w.heap.size (w.heap.size + 2)
      (.slice (some ⟨w.heap.size, 0, none⟩) 1 1) (.slice (some ⟨w.heap.size + 1, 0, none⟩) 1 1) [a] [b] := by
  have hb := BoxAt.new ((w.alloc (.cells #[fV a] 39)).alloc (.cells #[fV b] 39)) [.slice (some ⟨w.heap.size, 0, none⟩) 1 1, .slice (some ⟨w.heap.size + 1, 0, none⟩) 1 1] T
  simp only [size_alloc] at hb
  refine ⟨hb, ?_, ?_, by simp [Value.ownBlock], by simp [Value.ownBlock], .inr (by simp [Value.ownBlock])⟩
  · exact Own.alloc (Own.alloc (own_one w _ a (Nat.le_refl _)) _) _
  · have := Own.alloc (own_one (w.alloc (.cells #[fV a] 39)) w.heap.size b (by simp)) (.cells #[.slice (some ⟨w.heap.size, 0, none⟩) 1 1, .slice (some ⟨w.heap.size + 1, 0, none⟩) 1 1] T)
    rwa [size_alloc] at this
end

section
open Go.RowKit
section
variable {w w' : World} {base S : Nat} {v0 v1 : Value} {x0 x1 ys zs : List Nat}
theorem Grow.len0 {g c m : Nat} (h : Grow w base S (.slice (some ⟨g, 0, none⟩) m c) v1 x0 x1) : m = x0.length := by
  rcases h.o0.2 with ⟨e, _⟩ | ⟨g', cap, cur, e, _⟩
  · cases e
  · cases e; rfl
theorem Grow.at0 {g c m : Nat} (h : Grow w base S (.slice (some ⟨g, 0, none⟩) m c) v1 x0 x1) {j x : Nat} (hx : x0[j]? = some x) : w.cell? ⟨g, j, none⟩ = some (fV x) := by
  have hm := h.len0
  subst hm
  have ho : w.ownsRow base 39 1 (.slice (some ⟨g, 0, none⟩) x0.length c) x0.length (x0.map fV) := h.o0
  have := ho.cellAt j (by have := lt_of_get hx; omega)
  rw [List.getElem?_map, hx, Option.map_some] at this
  exact this
theorem Grow.free0 {g c m : Nat} (h : Grow w base S (.slice (some ⟨g, 0, none⟩) m c) v1 x0 x1) (j : Nat) : w.frozen? ⟨g, j, none⟩ = false := by
  have hm := h.len0
  subst hm
  have ho : w.ownsRow base 39 1 (.slice (some ⟨g, 0, none⟩) x0.length c) x0.length (x0.map fV) := h.o0
  exact ho.frozenAt j
theorem Grow.put0 {g c m : Nat} (h : Grow w base S (.slice (some ⟨g, 0, none⟩) m c) v1 x0 x1) (i x : Nat) : Grow (w.setCell ⟨g, i, none⟩ (fV x)) base S (.slice (some ⟨g, 0, none⟩) m c) v1 (x0.set i x) x1 := by
  have hm := h.len0
  subst hm
  refine ⟨h.box.other (p := ⟨g, i, none⟩) (fun e => h.n0 (by rw [← e]; rfl)) _, ?_, Own.other h.o1 (fun e => ?_) _, h.n0, h.n1, h.ap⟩
  · unfold Own
    rw [List.map_set, List.length_set]
    exact (World.ownsRow.stored (w := w) h.o0 i (fV x)).1
  · rcases h.ap with e' | e'
    · cases e'
    · exact e' e.symm
theorem Grow.drewN (h : Grow w base S v0 v1 x0 x1) (n : Nat) : Grow (w.drewN n) base S v0 v1 x0 x1 := h.below (below_drewN_ (Below.refl _ _))
theorem Grow.drew (h : Grow w base S v0 v1 x0 x1) : Grow w.drew base S v0 v1 x0 x1 := h.below (Below.refl _ _).drew
variable {w1 w2 w3 : World} {u0 u1 : Value}
/-- Both rows have grown, the first one first; then both are stored. -/
theorem Grow.two01 (h : Grow w base S v0 v1 x0 x1) (hS : S < base) (ho : Own fV 39 w1 base u0 (x0 ++ ys)) (hg : w.grownBy w1 v0.ownBlock) (hp : u0.ownBlock = v0.ownBlock ∨ u0.ownBlock = some w.heap.size) (hb : Below w1.heap.size w1 w2)
    (ho' : Own fV 39 w3 base u1 (x1 ++ zs)) (hg' : w2.grownBy w3 v1.ownBlock) (hp' : u1.ownBlock = v1.ownBlock ∨ u1.ownBlock = some w2.heap.size) :
    Grow ((w3.setCell ⟨S, 0, none⟩ u0).setCell ⟨S, 1, none⟩ u1) base S u0 u1 (x0 ++ ys) (x1 ++ zs) := by
  have hSl := h.box.lt
  have hz1 := hg.size
  have hz2 := hb.size
  have a0 : ∀ a, u0.ownBlock = some a → base ≤ a ∧ a < w1.heap.size := fun a e => ho.lt a e
  have a1 : ∀ a, u1.ownBlock = some a → base ≤ a ∧ a < w3.heap.size := fun a e => ho'.lt a e
  have n0 : u0.ownBlock ≠ some S := fun e => by have := (a0 S e).1; omega
  have n1 : u1.ownBlock ≠ some S := fun e => by have := (a1 S e).1; omega
  have ap1 : u0.ownBlock = none ∨ u0.ownBlock ≠ v1.ownBlock := by
    cases hu : u0.ownBlock with
    | none => exact .inl rfl
    | some a =>
      refine .inr fun e => ?_
      have hl := (h.o1.lt a e.symm).2
      rcases hp with e' | e'
      · rcases h.ap with k | k
        · rw [hu, k] at e'; cases e'
        · exact k (e'.symm.trans (hu.trans e))
      · rw [hu] at e'; injection e' with e'; omega
  have o0 : Own fV 39 w3 base u0 (x0 ++ ys) := (ho.below hb).kept hg' ap1
  refine ⟨((((h.box.kept hg h.n0).below hb).kept hg' h.n1).set (i := 0) rfl u0).set (i := 1) rfl u1, Own.other (Own.other o0 n0 _) n0 _, Own.other (Own.other ho' n1 _) n1 _, n0, n1, ?_⟩
  cases hu : u0.ownBlock with
  | none => exact .inl rfl
  | some a =>
    refine .inr fun e => ?_
    rcases hp' with e' | e'
    · rcases ap1 with k | k
      · rw [hu] at k; cases k
      · exact k (hu.trans (e.trans e'))
    · rw [← e] at e'
      injection e' with e'
      have := (a0 a hu).2
      omega
/-- .. the second one first. -/
theorem Grow.two10 (h : Grow w base S v0 v1 x0 x1) (hS : S < base) (ho : Own fV 39 w1 base u1 (x1 ++ zs)) (hg : w.grownBy w1 v1.ownBlock) (hp : u1.ownBlock = v1.ownBlock ∨ u1.ownBlock = some w.heap.size) (hb : Below w1.heap.size w1 w2)
    (ho' : Own fV 39 w3 base u0 (x0 ++ ys)) (hg' : w2.grownBy w3 v0.ownBlock) (hp' : u0.ownBlock = v0.ownBlock ∨ u0.ownBlock = some w2.heap.size) :
    Grow ((w3.setCell ⟨S, 0, none⟩ u0).setCell ⟨S, 1, none⟩ u1) base S u0 u1 (x0 ++ ys) (x1 ++ zs) := by
  have hSl := h.box.lt
  have hz1 := hg.size
  have hz2 := hb.size
  have a1 : ∀ a, u1.ownBlock = some a → base ≤ a ∧ a < w1.heap.size := fun a e => ho.lt a e
  have a0 : ∀ a, u0.ownBlock = some a → base ≤ a ∧ a < w3.heap.size := fun a e => ho'.lt a e
  have n0 : u0.ownBlock ≠ some S := fun e => by have := (a0 S e).1; omega
  have n1 : u1.ownBlock ≠ some S := fun e => by have := (a1 S e).1; omega
  have ap1 : u1.ownBlock = none ∨ u1.ownBlock ≠ v0.ownBlock := by
    cases hu : u1.ownBlock with
    | none => exact .inl rfl
    | some a =>
      refine .inr fun e => ?_
      have hl := (h.o0.lt a e.symm).2
      rcases hp with e' | e'
      · rcases h.ap with k | k
        · rw [k] at e; cases e
        · exact k (e.symm.trans (hu.symm.trans e'))
      · rw [hu] at e'; injection e' with e'; omega
  have o1 : Own fV 39 w3 base u1 (x1 ++ zs) := (ho.below hb).kept hg' ap1
  refine ⟨((((h.box.kept hg h.n1).below hb).kept hg' h.n0).set (i := 0) rfl u0).set (i := 1) rfl u1, Own.other (Own.other ho' n0 _) n0 _, Own.other (Own.other o1 n1 _) n1 _, n0, n1, ?_⟩
  cases hu : u0.ownBlock with
  | none => exact .inl rfl
  | some a =>
    refine .inr fun e => ?_
    rcases hp' with e' | e'
    · rcases ap1 with k | k
      · rw [k] at e; cases e
      · exact k (e.symm.trans (hu.symm.trans e'))
    · rw [hu] at e'
      injection e' with e'
      have := (a1 a e.symm).2
      omega
end
theorem size_st (w : World) (p : Addr) (u : Value) : (w.setCell p u).heap.size = w.heap.size := by simp
theorem own_oneA (w : World) (base x : Nat) (o : Obj) (h : base ≤ w.heap.size) : Own fV 39 ((w.alloc o).alloc (.cells #[fV x] 39)) base (.slice (some ⟨w.heap.size + 1, 0, none⟩) 1 1) [x] := by
  have := own_one (w.alloc o) base x (by simp; omega)
  rwa [size_alloc] at this
end
end Go.Proofs.Ytimpabceellihaa
