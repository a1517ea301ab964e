/-
  Words for the walk of a law: rows that lie in a range of blocks, and worlds that differ in a range of blocks alone.
-/
import Derived.Test.YtimpabceellihaaSl
namespace Go.Proofs.Ytimpabceellihaa
open Go.RowKit

/-- Outside of the blocks from lo to hi, and of new ones, w' is as w was. -/
structure Touch (lo hi : Nat) (w w' : World) : Prop where
  os : w'.os = w.os
  tape : w'.tape = w.tape
  output : w'.output = w.output
  size : w.heap.size ≤ w'.heap.size
  block : ∀ k, k < w.heap.size → (k < lo ∨ hi ≤ k) → w'.heap[k]? = w.heap[k]?
theorem Touch.of_below {lo hi : Nat} {w w' : World} (h : Below w.heap.size w w') : Touch lo hi w w' := ⟨h.os, h.tape, h.output, h.size, fun k hk _ => h.block k hk⟩
theorem Touch.trans {lo hi : Nat} {a b c : World} (h : Touch lo hi a b) (k : Touch lo hi b c) : Touch lo hi a c :=
  ⟨k.os.trans h.os, k.tape.trans h.tape, k.output.trans h.output, Nat.le_trans h.size k.size, fun i hi hr => (k.block i (Nat.lt_of_lt_of_le hi h.size) hr).trans (h.block i hi hr)⟩
theorem Touch.mono {lo hi lo' hi' : Nat} {a b : World} (h : Touch lo hi a b) (h1 : lo' ≤ lo) (h2 : hi ≤ hi') : Touch lo' hi' a b :=
  ⟨h.os, h.tape, h.output, h.size, fun i hi hr => h.block i hi (by omega)⟩
theorem Touch.of_grown {lo hi : Nat} {w w' : World} {v : Value} (hg : w.grownBy w' v.ownBlock) (hv : ∀ k, v.ownBlock = some k → lo ≤ k ∧ k < hi) : Touch lo hi w w' :=
  ⟨hg.os, hg.tape, hg.output, hg.size, fun k hk hr => hg.block k hk (fun e => by have := hv k e.symm; omega)⟩
theorem Touch.below {lo hi B : Nat} {w w' : World} (h : Touch lo hi w w') (h1 : B ≤ lo) (h2 : B ≤ w.heap.size) : Below B w w' :=
  ⟨h.os, h.tape, h.output, h.size, fun k hk => h.block k (by omega) (.inl (by omega))⟩
theorem Touch.cell {lo hi : Nat} {w w' : World} (h : Touch lo hi w w') {p : Addr} (h1 : p.block < w.heap.size) (h2 : p.block < lo ∨ hi ≤ p.block) : w'.cell? p = w.cell? p := World.cell?_of_block (w := w) (h.block p.block h1 h2)

/-- A row of the call's own that lies in a block from lo on, below hi. -/
structure OwnR {α : Type} (f : α → Value) (E : TypeId) (w : World) (lo hi : Nat) (v : Value) (xs : List α) : Prop where
  own : Own f E w lo v xs
  top : ∀ k, v.ownBlock = some k → k < hi
section
variable {α : Type} {f : α → Value} {E : TypeId} {w w' : World} {lo hi lo2 hi2 : Nat} {v : Value} {xs : List α}
theorem Own.ranged (h : Own f E w lo v xs) : OwnR f E w lo w.heap.size v xs := ⟨h, fun k hk => (h.lt k hk).2⟩
theorem OwnR.below (h : OwnR f E w lo hi v xs) (hb : Below w.heap.size w w') : OwnR f E w' lo hi v xs := ⟨h.own.below hb, h.top⟩
theorem OwnR.rd (h : OwnR f E w lo hi v xs) : Rd f w v xs := h.own.rd
theorem OwnR.lt (h : OwnR f E w lo hi v xs) : ∀ k, v.ownBlock = some k → lo ≤ k ∧ k < hi := fun k hk => ⟨(h.own.lt k hk).1, h.top k hk⟩
theorem OwnR.touch (h : OwnR f E w lo hi v xs) (t : Touch lo2 hi2 w w') (hd : hi ≤ lo2 ∨ hi2 ≤ lo) : OwnR f E w' lo hi v xs := by
  refine ⟨⟨h.own.1, ?_⟩, h.top⟩
  rcases h.own.2 with hn | ⟨g, cap, cur, rfl, hg, hgg, rest⟩
  · exact .inl hn
  · have hgh := h.top g rfl
    refine .inr ⟨g, cap, cur, rfl, hg, ?_, rest⟩
    rw [t.block g (Array.getElem?_eq_some_iff.1 hgg).1 (by omega)]
    exact hgg
theorem OwnR.mono (h : OwnR f E w lo hi v xs) (h1 : lo2 ≤ lo) (h2 : hi ≤ hi2) : OwnR f E w lo2 hi2 v xs := ⟨own_base h.own h1, fun k hk => Nat.lt_of_lt_of_le (h.top k hk) h2⟩
/-- A row that a call has turned in place. -/
theorem OwnR.again {ys : List α} (h : OwnR f E w lo hi v xs) (k : Own f E w' lo v ys) : OwnR f E w' lo hi v ys := ⟨k, h.top⟩
end
section
variable {α β : Type} {f : α → Value} {f' : β → Value} {E E' : TypeId} {w : World} {base : Nat} {v u : Value} {xs : List α} {ys : List β}
/-- A row lies in one block. -/
theorem Own.pt (h : Own f E w base v xs) (hb : base ≤ w.heap.size) : ∃ lo hi, OwnR f E w lo hi v xs ∧ base ≤ lo ∧ lo ≤ w.heap.size ∧ hi ≤ w.heap.size ∧ (v.ownBlock = none → lo = hi ∧ hi = w.heap.size) ∧ (∀ g, v.ownBlock = some g → lo = g ∧ hi = g + 1) := by
  cases hv : v.ownBlock with
  | none =>
    refine ⟨w.heap.size, w.heap.size, ⟨⟨h.1, ?_⟩, (fun k hk => by rw [hv] at hk; cases hk)⟩, hb, Nat.le_refl _, Nat.le_refl _, (fun _ => ⟨rfl, rfl⟩), (fun g hg => by cases hg)⟩
    rcases h.2 with hn | ⟨g, cap, cur, rfl, rest⟩
    · exact .inl hn
    · cases hv
  | some g =>
    have hg := h.lt g hv
    refine ⟨g, g + 1, ⟨⟨h.1, ?_⟩, (fun k hk => by rw [hv] at hk; cases hk; omega)⟩, hg.1, by omega, by omega, (fun h => by cases h), (fun k hk => by cases hk; exact ⟨rfl, rfl⟩)⟩
    rcases h.2 with hn | ⟨g', cap, cur, rfl, hg', rest⟩
    · exact .inl hn
    · cases hv
      exact .inr ⟨_, cap, cur, rfl, Nat.le_refl _, rest⟩
theorem own_pt2 (h : Own f E w base v xs) (k : Own f' E' w base u ys) (ap : v.ownBlock = none ∨ v.ownBlock ≠ u.ownBlock) (hb : base ≤ w.heap.size) :
    ∃ lo hi lo' hi', OwnR f E w lo hi v xs ∧ OwnR f' E' w lo' hi' u ys ∧ base ≤ lo ∧ lo ≤ w.heap.size ∧ hi ≤ w.heap.size ∧ base ≤ lo' ∧ lo' ≤ w.heap.size ∧ hi' ≤ w.heap.size ∧ (hi ≤ lo' ∨ hi' ≤ lo) := by
  obtain ⟨lo, hi, h1, h2, h3, h4, h5, h6⟩ := h.pt hb
  obtain ⟨lo', hi', k1, k2, k3, k4, k5, k6⟩ := k.pt hb
  refine ⟨lo, hi, lo', hi', h1, k1, h2, h3, h4, k2, k3, k4, ?_⟩
  cases hv : v.ownBlock with
  | none => have := h5 hv; omega
  | some a =>
    cases hu : u.ownBlock with
    | none => have := k5 hu; omega
    | some b =>
      have e1 := h6 a hv
      have e2 := k6 b hu
      have : a ≠ b := by
        rintro rfl
        rcases ap with ap | ap
        · rw [hv] at ap; cases ap
        · exact ap (hv.trans hu.symm)
      omega
end
end Go.Proofs.Ytimpabceellihaa
