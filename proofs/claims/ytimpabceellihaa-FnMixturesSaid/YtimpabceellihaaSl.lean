/-
  Slices that read as lists ('Rd'), rows of the call's own ('Own'), elements of one cell each.
  Words for the walk of a law: rows that lie in a range of blocks, and worlds that differ in a range of blocks alone.
  Structs in a block of their own.
  'append' onto a row of the call's own, by what is appended: a slice that reads as a list, or one element.
  The index of the first element that a predicate holds of; small laws on contracts of functions that only read.
-/
import Derived.Test.YtimpabceellihaaBase
import Derived.Maps.AppendAt
import Derived.Lib.AppendZeros
namespace Go.Proofs.Ytimpabceellihaa
section
open Go.RowKit

/-- The slice value v reads as the list xs in the world w (nil let in). -/
def Rd {α : Type} (f : α → Value) (w : World) (v : Value) (xs : List α) : Prop :=
  ∃ A cap, v = .slice A xs.length cap ∧ xs.length ≤ cap ∧ ∀ k x, xs[k]? = some x → ∃ ad, A = some ad ∧ ad.block < w.heap.size ∧ w.cell? (ad.add k) = some (f x)
/-- .. and it is a row of the call's own, in a block from 'base' on. -/
def Own {α : Type} (f : α → Value) (E : TypeId) (w : World) (base : Nat) (v : Value) (xs : List α) : Prop := w.ownsRow base E 1 v xs.length (xs.map f)

section
variable {α : Type} {f : α → Value} {E : TypeId} {w w' : World} {base : Nat} {v : Value} {xs : List α}
theorem add_block (a : Addr) (n : Nat) : (a.add n).block = a.block := by unfold Addr.add; split <;> rfl
theorem Rd.below (h : Rd f w v xs) (hb : Below w.heap.size w w') : Rd f w' v xs := by
  obtain ⟨A, cap, rfl, hc, hA⟩ := h
  refine ⟨A, cap, rfl, hc, fun k x hx => ?_⟩
  obtain ⟨ad, e, hl, hcell⟩ := hA k x hx
  exact ⟨ad, e, Nat.lt_of_lt_of_le hl hb.size, (hb.cell (by rw [add_block]; exact hl)).trans hcell⟩
theorem Rd.below' {B : Nat} (h : Rd f w v xs) (hB : w.heap.size ≤ B) (hb : Below B w w') : Rd f w' v xs := h.below (hb.mono hB)
theorem Rd.drewN (h : Rd f w v xs) (n : Nat) : Rd f (w.drewN n) v xs := h
theorem Rd.nil : Rd f w (.slice none 0 0) [] := ⟨none, 0, rfl, Nat.le_refl _, fun k x h => by simp at h⟩
theorem Rd.take {A : Option Addr} {n cap : Nat} (h : Rd f w (.slice A n cap) xs) {k : Nat} (hk : k ≤ xs.length) : Rd f w (.slice A k cap) (xs.take k) := by
  obtain ⟨A', cap', e, hc, hA⟩ := h
  cases e
  refine ⟨A, cap, by rw [List.length_take, Nat.min_eq_left hk], by rw [List.length_take]; omega, fun j x hx => ?_⟩
  rw [List.getElem?_take] at hx
  split at hx
  · exact hA j x hx
  · cases hx
theorem Own.nil : Own f E w base (.slice none 0 0) [] := World.ownsRow_nil _ _ _ _
theorem Own.below (h : Own f E w base v xs) (hb : Below w.heap.size w w') : Own f E w' base v xs := own_below h hb
theorem Own.kept {row : Option Nat} (h : Own f E w base v xs) (hg : w.grownBy w' row) (hne : v.ownBlock = none ∨ v.ownBlock ≠ row) : Own f E w' base v xs := World.ownsRow.kept h hg hne
theorem Own.drewN (h : Own f E w base v xs) (n : Nat) : Own f E (w.drewN n) base v xs := h
theorem Own.base_ {base' : Nat} (h : Own f E w base v xs) (hb : base' ≤ base) : Own f E w base' v xs := own_base h hb
theorem Own.rd (h : Own f E w base v xs) : Rd f w v xs := by
  rcases h.2 with ⟨rfl, h0⟩ | ⟨g, cap, cur, rfl, hg, hgg, hc, _, _, ht⟩
  · have : xs = [] := List.eq_nil_of_length_eq_zero h0
    subst this
    exact Rd.nil
  · refine ⟨_, cap, rfl, hc, fun k x hx => ⟨_, rfl, (Array.getElem?_eq_some_iff.1 hgg).1, ?_⟩⟩
    have hk : k < xs.length := (List.getElem?_eq_some_iff.1 hx).1
    have := h.cellAt k (by omega)
    rw [List.getElem?_map, hx] at this
    rw [Addr.add_lit, Nat.zero_add]
    exact this
theorem Own.lt (h : Own f E w base v xs) : ∀ k, v.ownBlock = some k → base ≤ k ∧ k < w.heap.size := World.ownsRow.lt h
theorem Own.form (h : Own f E w base v xs) (hn : 0 < xs.length) : ∃ g cap, v = .slice (some ⟨g, 0, none⟩) xs.length cap ∧ xs.length ≤ cap ∧ base ≤ g ∧ g < w.heap.size := own_some h hn
/-- A row that is owned from the world's end on differs from one that was there. -/
theorem Own.apart {β : Type} {f' : β → Value} {E' : TypeId} {base' : Nat} {u : Value} {ys : List β} (h : Own f E w base v xs) (hw : w.heap.size ≤ base') (h' : Own f' E' w' base' u ys) : v.ownBlock = none ∨ v.ownBlock ≠ u.ownBlock := by
  cases hv : v.ownBlock with
  | none => exact .inl rfl
  | some a =>
    refine .inr fun e => ?_
    have h1 := (h.lt a hv).2
    have h2 := (h'.lt a e.symm).1
    omega
end

theorem apart_symm {a b : Option Nat} (h : a = none ∨ a ≠ b) : b = none ∨ b ≠ a := by
  rcases h with rfl | h
  · cases b with
    | none => exact .inl rfl
    | some x => exact .inr (by simp)
  · exact .inr (Ne.symm h)
theorem below_of_drew {w w' : World} (h : ∃ n, w.drewN n = w') : Below w.heap.size w w' := by
  obtain ⟨n, rfl⟩ := h
  exact ⟨rfl, rfl, rfl, Nat.le_refl _, fun _ _ => rfl⟩
/-- All that a law keeps in sight: how the world has grown since the call began. -/
theorem below_mark {w a b : World} {v : Value} {base : Nat} (h : Below w.heap.size w a) (hg : a.grownBy b v.ownBlock) (hb : ∀ k, v.ownBlock = some k → base ≤ k ∧ k < a.heap.size) (hw : w.heap.size ≤ base) : Below w.heap.size w b :=
  h.grown hg h.size (fun k hk => Nat.le_trans hw (hb k hk).1)

theorem grown_trans1 {a b c : World} {row : Option Nat} (h : a.grownBy b row) (k : b.grownBy c row) : a.grownBy c row :=
  ⟨k.os.trans h.os, k.tape.trans h.tape, k.output.trans h.output, Nat.le_trans h.size k.size, fun i hi hne => (k.block i (Nat.lt_of_lt_of_le hi h.size) hne).trans (h.block i hi hne)⟩

theorem World.ownsRow.drewN' {w : World} {base : Nat} {e : TypeId} {size : Nat} {v : Value} {n : Nat} {xs : List Value} (h : w.ownsRow base e size v n xs) (k : Nat) : (w.drewN k).ownsRow base e size v n xs := h
theorem below_drewN' {w : World} (n : Nat) {B : Nat} {a : World} (h : Below B a w) : Below B a (w.drewN n) := ⟨h.os, h.tape, h.output, h.size, h.block⟩

theorem below_drewN_ {w : World} {n : Nat} {B : Nat} {a : World} (h : Below B a w) : Below B a (w.drewN n) := ⟨h.os, h.tape, h.output, h.size, h.block⟩
theorem take_snoc {α : Type} {xs : List α} {k : Nat} {x : α} (h : xs[k]? = some x) : xs.take (k + 1) = xs.take k ++ [x] := by
  rw [List.take_add_one, h]; rfl
theorem get_of_lt {α : Type} {xs : List α} {k : Nat} (h : k < xs.length) : ∃ x, xs[k]? = some x := ⟨xs[k], List.getElem?_eq_getElem h⟩
theorem lt_of_get {α : Type} {xs : List α} {k : Nat} {x : α} (h : xs[k]? = some x) : k < xs.length := (List.getElem?_eq_some_iff.1 h).1

/-- A row of z's whose first k cells are made. -/
def fillRow {α : Type} (f : α → Value) (z : Value) (xs : List α) (k : Nat) : List Value := (xs.take k).map f ++ List.replicate (xs.length - k) z
theorem fillRow_zero {α : Type} (f : α → Value) (z : Value) (xs : List α) : fillRow f z xs 0 = List.replicate xs.length z := by simp [fillRow]
theorem fillRow_end {α : Type} (f : α → Value) (z : Value) (xs : List α) : fillRow f z xs xs.length = xs.map f := by simp [fillRow]
theorem fillRow_len {α : Type} (f : α → Value) (z : Value) (xs : List α) {k : Nat} (h : k ≤ xs.length) : (fillRow f z xs k).length = xs.length := by simp [fillRow]; omega
theorem fillRow_at {α : Type} (f : α → Value) (z : Value) (xs : List α) {k : Nat} (h : k < xs.length) : (fillRow f z xs k)[k]? = some z := by
  unfold fillRow
  rw [List.getElem?_append_right (by simp; omega)]
  simp [List.getElem?_replicate]
  omega
theorem fillRow_set {α : Type} (f : α → Value) (z : Value) (xs : List α) {k : Nat} {x : α} (h : xs[k]? = some x) : (fillRow f z xs k).set k (f x) = fillRow f z xs (k + 1) := by
  have hk := lt_of_get h
  unfold fillRow
  rw [List.set_append_right _ _ (by simp; omega), take_snoc h]
  have hl : ((xs.take k).map f).length = k := by simp; omega
  rw [hl, Nat.sub_self]
  obtain ⟨m, hm⟩ : ∃ m, xs.length - k = m + 1 := ⟨xs.length - k - 1, by omega⟩
  rw [hm, show xs.length - (k + 1) = m by omega, List.replicate_succ, List.set_cons_zero]
  simp
end

section
open Go.RowKit

/-- Outside of the blocks from lo to hi, and of new ones, w' is as w was. -/
structure Touch (lo hi : Nat) (w w' : World) : Prop where
  os : w'.os = w.os
  tape : w'.tape = w.tape
  output : w'.output = w.output
  size : w.heap.size ≤ w'.heap.size
  block : ∀ k, k < w.heap.size → (k < lo ∨ hi ≤ k) → w'.heap[k]? = w.heap[k]?
theorem Touch.of_below {lo hi : Nat} {w w' : World} (h : Below w.heap.size w w') : Touch lo hi w w' := ⟨h.os, h.tape, h.output, h.size, fun k hk _ => h.block k hk⟩
theorem Touch.trans {lo hi : Nat} {a b c : World} (h : Touch lo hi a b) (k : Touch lo hi b c) : Touch lo hi a c :=
  ⟨k.os.trans h.os, k.tape.trans h.tape, k.output.trans h.output, Nat.le_trans h.size k.size, fun i hi hr => (k.block i (Nat.lt_of_lt_of_le hi h.size) hr).trans (h.block i hi hr)⟩
theorem Touch.mono {lo hi lo' hi' : Nat} {a b : World} (h : Touch lo hi a b) (h1 : lo' ≤ lo) (h2 : hi ≤ hi') : Touch lo' hi' a b :=
  ⟨h.os, h.tape, h.output, h.size, fun i hi hr => h.block i hi (by omega)⟩
theorem Touch.of_grown {lo hi : Nat} {w w' : World} {v : Value} (hg : w.grownBy w' v.ownBlock) (hv : ∀ k, v.ownBlock = some k → lo ≤ k ∧ k < hi) : Touch lo hi w w' :=
  ⟨hg.os, hg.tape, hg.output, hg.size, fun k hk hr => hg.block k hk (fun e => by have := hv k e.symm; omega)⟩
theorem Touch.below {lo hi B : Nat} {w w' : World} (h : Touch lo hi w w') (h1 : B ≤ lo) (h2 : B ≤ w.heap.size) : Below B w w' :=
  ⟨h.os, h.tape, h.output, h.size, fun k hk => h.block k (by omega) (.inl (by omega))⟩
theorem Touch.cell {lo hi : Nat} {w w' : World} (h : Touch lo hi w w') {p : Addr} (h1 : p.block < w.heap.size) (h2 : p.block < lo ∨ hi ≤ p.block) : w'.cell? p = w.cell? p := World.cell?_of_block (w := w) (h.block p.block h1 h2)

/-- A row of the call's own that lies in a block from lo on, below hi. -/
structure OwnR {α : Type} (f : α → Value) (E : TypeId) (w : World) (lo hi : Nat) (v : Value) (xs : List α) : Prop where
  own : Own f E w lo v xs
  top : ∀ k, v.ownBlock = some k → k < hi
section
variable {α : Type} {f : α → Value} {E : TypeId} {w w' : World} {lo hi lo2 hi2 : Nat} {v : Value} {xs : List α}
theorem Own.ranged (h : Own f E w lo v xs) : OwnR f E w lo w.heap.size v xs := ⟨h, fun k hk => (h.lt k hk).2⟩
theorem OwnR.below (h : OwnR f E w lo hi v xs) (hb : Below w.heap.size w w') : OwnR f E w' lo hi v xs := ⟨h.own.below hb, h.top⟩
theorem OwnR.rd (h : OwnR f E w lo hi v xs) : Rd f w v xs := h.own.rd
theorem OwnR.lt (h : OwnR f E w lo hi v xs) : ∀ k, v.ownBlock = some k → lo ≤ k ∧ k < hi := fun k hk => ⟨(h.own.lt k hk).1, h.top k hk⟩
theorem OwnR.touch (h : OwnR f E w lo hi v xs) (t : Touch lo2 hi2 w w') (hd : hi ≤ lo2 ∨ hi2 ≤ lo) : OwnR f E w' lo hi v xs := by
  refine ⟨⟨h.own.1, ?_⟩, h.top⟩
  rcases h.own.2 with hn | ⟨g, cap, cur, rfl, hg, hgg, rest⟩
  · exact .inl hn
  · have hgh := h.top g rfl
    refine .inr ⟨g, cap, cur, rfl, hg, ?_, rest⟩
    rw [t.block g (Array.getElem?_eq_some_iff.1 hgg).1 (by omega)]
    exact hgg
theorem OwnR.mono (h : OwnR f E w lo hi v xs) (h1 : lo2 ≤ lo) (h2 : hi ≤ hi2) : OwnR f E w lo2 hi2 v xs := ⟨own_base h.own h1, fun k hk => Nat.lt_of_lt_of_le (h.top k hk) h2⟩
/-- A row that a call has turned in place. -/
theorem OwnR.again {ys : List α} (h : OwnR f E w lo hi v xs) (k : Own f E w' lo v ys) : OwnR f E w' lo hi v ys := ⟨k, h.top⟩
end
section
variable {α β : Type} {f : α → Value} {f' : β → Value} {E E' : TypeId} {w : World} {base : Nat} {v u : Value} {xs : List α} {ys : List β}
/-- A row lies in one block. -/
theorem Own.pt (h : Own f E w base v xs) (hb : base ≤ w.heap.size) : ∃ lo hi, OwnR f E w lo hi v xs ∧ base ≤ lo ∧ lo ≤ w.heap.size ∧ hi ≤ w.heap.size ∧ (v.ownBlock = none → lo = hi ∧ hi = w.heap.size) ∧ (∀ g, v.ownBlock = some g → lo = g ∧ hi = g + 1) := by
  cases hv : v.ownBlock with
  | none =>
    refine ⟨w.heap.size, w.heap.size, ⟨⟨h.1, ?_⟩, (fun k hk => by rw [hv] at hk; cases hk)⟩, hb, Nat.le_refl _, Nat.le_refl _, (fun _ => ⟨rfl, rfl⟩), (fun g hg => by cases hg)⟩
    rcases h.2 with hn | ⟨g, cap, cur, rfl, rest⟩
    · exact .inl hn
    · cases hv
  | some g =>
    have hg := h.lt g hv
    refine ⟨g, g + 1, ⟨⟨h.1, ?_⟩, (fun k hk => by rw [hv] at hk; cases hk; omega)⟩, hg.1, by omega, by omega, (fun h => by cases h), (fun k hk => by cases hk; exact ⟨rfl, rfl⟩)⟩
    rcases h.2 with hn | ⟨g', cap, cur, rfl, hg', rest⟩
    · exact .inl hn
    · cases hv
      exact .inr ⟨_, cap, cur, rfl, Nat.le_refl _, rest⟩
theorem own_pt2 (h : Own f E w base v xs) (k : Own f' E' w base u ys) (ap : v.ownBlock = none ∨ v.ownBlock ≠ u.ownBlock) (hb : base ≤ w.heap.size) :
    ∃ lo hi lo' hi', OwnR f E w lo hi v xs ∧ OwnR f' E' w lo' hi' u ys ∧ base ≤ lo ∧ lo ≤ w.heap.size ∧ hi ≤ w.heap.size ∧ base ≤ lo' ∧ lo' ≤ w.heap.size ∧ hi' ≤ w.heap.size ∧ (hi ≤ lo' ∨ hi' ≤ lo) := by
  obtain ⟨lo, hi, h1, h2, h3, h4, h5, h6⟩ := h.pt hb
  obtain ⟨lo', hi', k1, k2, k3, k4, k5, k6⟩ := k.pt hb
  refine ⟨lo, hi, lo', hi', h1, k1, h2, h3, h4, k2, k3, k4, ?_⟩
  cases hv : v.ownBlock with
  | none => have := h5 hv; omega
  | some a =>
    cases hu : u.ownBlock with
    | none => have := k5 hu; omega
    | some b =>
      have e1 := h6 a hv
      have e2 := k6 b hu
      have : a ≠ b := by
        rintro rfl
        rcases ap with ap | ap
        · rw [hv] at ap; cases ap
        · exact ap (hv.trans hu.symm)
      omega
end
end

section
open Go.RowKit

/-- Block b holds these cells, and may be written. -/
structure BoxAt (w : World) (b : Nat) (vs : List Value) : Prop where
  lt : b < w.heap.size
  cell : ∀ i v, vs[i]? = some v → w.cell? ⟨b, i, none⟩ = some v
  free : ∀ i, w.frozen? ⟨b, i, none⟩ = false
section
variable {w w' : World} {b lo hi : Nat} {vs : List Value}
theorem BoxAt.new (w : World) (l : List Value) (t : TypeId) : BoxAt (w.alloc (.cells l.toArray t)) w.heap.size l :=
  ⟨by simp, fun i v h => by rw [World.cell?_alloc_new]; simpa using h, fun i => World.frozen?_alloc_new _ _ _ _⟩
theorem BoxAt.below (h : BoxAt w b vs) (hb : Below w.heap.size w w') : BoxAt w' b vs :=
  ⟨Nat.lt_of_lt_of_le h.lt hb.size, fun i v hv => (hb.cell (p := ⟨b, i, none⟩) h.lt).trans (h.cell i v hv), fun i => (hb.frozen (p := ⟨b, i, none⟩) h.lt).trans (h.free i)⟩
theorem BoxAt.touch (h : BoxAt w b vs) (t : Touch lo hi w w') (hd : b < lo ∨ hi ≤ b) : BoxAt w' b vs :=
  ⟨Nat.lt_of_lt_of_le h.lt t.size, fun i v hv => (World.cell?_of_block (w := w) (t.block b h.lt hd)).trans (h.cell i v hv), fun i => (World.frozen?_of_block (w := w) (t.block b h.lt hd)).trans (h.free i)⟩
theorem BoxAt.alloc (h : BoxAt w b vs) (o : Obj) : BoxAt (w.alloc o) b vs := h.below ((Below.refl _ _).alloc (Nat.le_refl _) o)
theorem Touch.setCell (w : World) (p : Addr) (u : Value) : Touch p.block (p.block + 1) w (w.setCell p u) :=
  ⟨rfl, rfl, rfl, by simp, fun k _ hk => Below.heap_setCell _ _ _ _ (by omega)⟩
theorem BoxAt.set (h : BoxAt w b vs) {i : Nat} {x : Value} (hx : vs[i]? = some x) (u : Value) : BoxAt (w.setCell ⟨b, i, none⟩ u) b (vs.set i u) := by
  refine ⟨by simpa using h.lt, fun j v hv => ?_, fun j => by rw [World.frozen?_setCell]; exact h.free j⟩
  rw [List.getElem?_set] at hv
  by_cases e : i = j
  · subst e
    rw [if_pos rfl] at hv
    have hi : i < vs.length := (List.getElem?_eq_some_iff.1 hx).1
    rw [if_pos hi] at hv
    cases hv
    exact World.cell?_setCell_same _ _ _ (h.cell i x hx)
  · rw [if_neg e] at hv
    rw [World.cell?_setCell_other _ _ _ _ (by intro h; apply e; injection h)]
    exact h.cell j v hv
theorem BoxAt.other (h : BoxAt w b vs) {p : Addr} (hp : p.block ≠ b) (u : Value) : BoxAt (w.setCell p u) b vs := h.touch (Touch.setCell w p u) (by omega)
theorem OwnR.other {α : Type} {f : α → Value} {E : TypeId} {v : Value} {xs : List α} (h : OwnR f E w lo hi v xs) {p : Addr} (hp : p.block < lo ∨ hi ≤ p.block) (u : Value) : OwnR f E (w.setCell p u) lo hi v xs := h.touch (Touch.setCell w p u) (by omega)
end
theorem below_alloc (w : World) (o : Obj) : Below w.heap.size w (w.alloc o) := (Below.refl _ _).alloc (Nat.le_refl _) o
theorem size_alloc (w : World) (o : Obj) : (w.alloc o).heap.size = w.heap.size + 1 := by simp
theorem below_same {w w' : World} (h : w' = w) : Below w.heap.size w w' := by subst h; exact Below.refl _ _
end

section
open Go.RowKit

section
variable {P : Program} {T E : TypeId} {z : Value} {bytes : Nat} {α : Type} {f : α → Value}

theorem Elem.app_run (el : Elem P T E z bytes) (hf : ∀ x, (f x).oneCell' = true) (w : World) (ty : TypeId) (base : Nat) (v : Value) (xs : List α) (ho : Own f E w base v xs) (u : Value) (ys : List α) (hr : Rd f w u ys)
    (hb : bytes ≤ 64) (hn : xs.length + ys.length ≤ 1099511627776) (hbase : base ≤ w.heap.size) :
    ∃ v' w', (Builtin.append_ #[T, T] ty #[v, u]).run P w = .ok v' w' ∧ Own f E w' base v' (xs ++ ys) ∧ w.grownBy w' v.ownBlock ∧ (v'.ownBlock = v.ownBlock ∨ v'.ownBlock = some w.heap.size) := by
  obtain ⟨i0, hi, hz0, hz1, hz2⟩ := info_parts el.info
  obtain ⟨A, cap, rfl, hcap, hA⟩ := hr
  have hbn : (xs.length + ys.length) * bytes ≤ 140737488355328 := Nat.le_trans (Nat.mul_le_mul hn hb) (by decide)
  cases A with
  | some ad =>
    obtain ⟨v', w', h1, h2, h3, _, h5⟩ := run_append_own_at (P := P) w base T ty E i0 z 1 bytes el.slice hi hz0 hz1 hz2 (by rw [el.cells]; rfl) (by decide) v xs.length (xs.map f) ho ad ys.length cap (ys.map f) (by simp)
      (by
        intro j u hu
        rw [List.getElem?_map] at hu
        cases hy : ys[j]? with
        | none => rw [hy] at hu; simp at hu
        | some y =>
          rw [hy] at hu
          simp at hu
          subst hu
          obtain ⟨ad', e, _, hc⟩ := hA j y hy
          cases e
          exact hc)
      (by
        intro u hu
        obtain ⟨y, _, rfl⟩ := List.mem_map.1 hu
        exact hf y)
      (by unfold maxLen; omega) hbn hbase
    refine ⟨v', w', h1, ?_, h3, h5⟩
    unfold Own
    rw [List.length_append, List.map_append]
    exact h2
  | none =>
    have h0 : ys = [] := by
      cases ys with
      | nil => rfl
      | cons y ys =>
        obtain ⟨ad, e, _⟩ := hA 0 y rfl
        cases e
    subst h0
    refine ⟨v, w, ?_, by simpa using ho, World.grownBy.refl _ _, .inl rfl⟩
    rcases ho.2 with ⟨rfl, h0⟩ | ⟨g, cp, cur, rfl, _, _, hnc, _⟩
    · simp [Builtin.append_, run_underlying el.slice, sizeOf, typeInfo, hi, Builtin.lenOf, Builtin.firstCells]
    · simp [Builtin.append_, run_underlying el.slice, sizeOf, typeInfo, hi, Builtin.lenOf, Builtin.firstCells, hnc, storeCells]

theorem Elem.app_wp (el : Elem P T E z bytes) (hf : ∀ x, (f x).oneCell' = true) (w : World) {o : Oper} {a : Act} {K : Act → World → Prop} {Q : Exit → Act → World → Prop} (s x : Operand)
    (hop : o.op = Op.call { callee := Callee.builtin Builtin.append, args := #[s, x], argTypes := #[T, T] })
    (base : Nat) (v : Value) (xs : List α) (hs : a.eval s = v) (ho : Own f E w base v xs) (u : Value) (ys : List α) (hx : a.eval x = u) (hr : Rd f w u ys)
    (hb : bytes ≤ 64) (hn : xs.length + ys.length ≤ 1099511627776) (hbase : base ≤ w.heap.size)
    (hK : ∀ v' w', Own f E w' base v' (xs ++ ys) → w.grownBy w' v.ownBlock → Below base w w' → (v'.ownBlock = v.ownBlock ∨ v'.ownBlock = some w.heap.size) → K (a.put o.dst v') w') : o.wp P a w K Q := by
  obtain ⟨v', w', h1, h2, h3, h4⟩ := el.app_run hf w o.type base v xs ho u ys hr hb hn hbase
  unfold Oper.wp execOp
  simp only [hop, resolve, invoke, builtin, Sem.run_bind, Sem.run_pure, Result.andThen_ok, List.map_toArray, List.map_cons, List.map_nil, hs, hx, h1]
  exact hK v' w' h2 h3 ((Below.refl _ _).grown h3 hbase (fun k hk => (ho.lt k hk).1)) h4

/-- In a plain region. -/
theorem Elem.app (el : Elem P T E z bytes) (hf : ∀ x, (f x).oneCell' = true) (w : World) {ops : Array Oper} {rest : List Oper} {o : Oper} {a : Act} {Q : Exit → Act → World → Prop} (hg : o.guard = none) (s x : Operand)
    (hop : o.op = Op.call { callee := Callee.builtin Builtin.append, args := #[s, x], argTypes := #[T, T] })
    (base : Nat) (v : Value) (xs : List α) (hs : a.eval s = v) (ho : Own f E w base v xs) (u : Value) (ys : List α) (hx : a.eval x = u) (hr : Rd f w u ys)
    (hb : bytes ≤ 64) (hn : xs.length + ys.length ≤ 1099511627776) (hbase : base ≤ w.heap.size)
    (hK : ∀ v' w', Own f E w' base v' (xs ++ ys) → w.grownBy w' v.ownBlock → Below base w w' → (v'.ownBlock = v.ownBlock ∨ v'.ownBlock = some w.heap.size) → wpList P ops Q rest (a.put o.dst v') w') :
    wpList P ops Q (o :: rest) a w :=
  wpList_plain hg fun _ hK' => el.app_wp hf w s x hop base v xs hs ho u ys hx hr hb hn hbase fun v' w' h1 h2 h3 h4 => hK' _ _ (hK v' w' h1 h2 h3 h4)

/-- As one step of a region that draws its order. -/
theorem Elem.app_step (el : Elem P T E z bytes) (hf : ∀ x, (f x).oneCell' = true) (w : World) {ops : Array Oper} {o : Oper} {a : Act} {K : Act → World → Prop} {Q : Exit → Act → World → Prop} {E' : Prop} (hg : o.guard = none) (s x : Operand)
    (hop : o.op = Op.call { callee := Callee.builtin Builtin.append, args := #[s, x], argTypes := #[T, T] })
    (base : Nat) (v : Value) (xs : List α) (hs : a.eval s = v) (ho : Own f E w base v xs) (u : Value) (ys : List α) (hx : a.eval x = u) (hr : Rd f w u ys)
    (hb : bytes ≤ 64) (hn : xs.length + ys.length ≤ 1099511627776) (hbase : base ≤ w.heap.size)
    (hK : ∀ v' w', Own f E w' base v' (xs ++ ys) → w.grownBy w' v.ownBlock → Below base w w' → (v'.ownBlock = v.ownBlock ∨ v'.ownBlock = some w.heap.size) → K (a.put o.dst v') w') :
    if Region.wanted o (yielded ops a.tmps) = true then Oper.wp P o a w K Q else E' := by
  have hw : Region.wanted o (yielded ops a.tmps) = true := by simp [Region.wanted, hg]
  rw [if_pos hw]
  exact el.app_wp hf w s x hop base v xs hs ho u ys hx hr hb hn hbase hK

/-- The one new element of 'append(s, x)' as a slice that reads. -/
theorem rd_one (f : α → Value) (w : World) (x : α) (E : TypeId) : Rd f (w.alloc (.cells #[f x] E)) (.slice (some ⟨w.heap.size, 0, none⟩) 1 1) [x] :=
  ⟨_, 1, rfl, Nat.le_refl _, fun k y hk => by
    match k, hk with
    | 0, hk =>
      simp at hk
      subst hk
      refine ⟨_, rfl, by simp, ?_⟩
      simp [Addr.add]⟩
theorem own_nil_new (f : α → Value) (w : World) (E : TypeId) : Own f E (w.alloc (.cells #[] E)) w.heap.size (.slice (some ⟨w.heap.size, 0, none⟩) 0 0) [] := by
  exact World.ownsRow_lit (w := w) (base := w.heap.size) (e := E) (size := 1) #[] 0 (Nat.le_refl _) (by decide) rfl
theorem Own.alloc {w : World} {base : Nat} {v : Value} {xs : List α} (h : Own f E w base v xs) (o : Obj) : Own f E (w.alloc o) base v xs := World.ownsRow.alloc h o
theorem Rd.alloc {w : World} {v : Value} {xs : List α} (h : Rd f w v xs) (o : Obj) : Rd f (w.alloc o) v xs := h.below ((Below.refl _ _).alloc (Nat.le_refl _) o)
end
end

section
open Go.RowKit

/-- The index of the first element that a predicate holds of, or -1. -/
def idxP {α : Type} (p : α → Bool) (xs : List α) : Int := match xs.findIdx? p with | some i => i | none => -1
theorem idxP_hit {α : Type} {p : α → Bool} {xs : List α} {k : Nat} {x : α} (h : ∀ y ∈ xs.take k, p y = false) (hx : xs[k]? = some x) (hp : p x = true) : idxP p xs = k := by
  have hk := lt_of_get hx
  have : xs.findIdx? p = some k := by
    rw [List.findIdx?_eq_some_iff_getElem]
    refine ⟨hk, ?_, fun j hj => ?_⟩
    · have : xs[k] = x := by rw [List.getElem?_eq_getElem hk] at hx; exact Option.some.inj hx
      rw [this]; exact hp
    · have := h xs[j] (by rw [List.mem_take_iff_getElem]; exact ⟨j, by omega, rfl⟩)
      rw [this]; simp
  unfold idxP
  rw [this]
theorem idxP_none {α : Type} {p : α → Bool} {xs : List α} (h : ∀ y ∈ xs, p y = false) : idxP p xs = -1 := by
  have : xs.findIdx? p = none := by rw [List.findIdx?_eq_none_iff]; exact h
  unfold idxP
  rw [this]
theorem idxP_any {α : Type} (p : α → Bool) (xs : List α) : decide (0 ≤ idxP p xs) = xs.any p := by
  unfold idxP
  cases h : xs.findIdx? p with
  | none =>
    rw [List.findIdx?_eq_none_iff] at h
    have : xs.any p = false := List.any_eq_false.2 (fun x hx => by rw [h x hx]; simp)
    rw [this]; simp
  | some i =>
    rw [List.findIdx?_eq_some_iff_getElem] at h
    obtain ⟨hi, hp, _⟩ := h
    have : xs.any p = true := List.any_eq_true.2 ⟨_, List.getElem_mem hi, hp⟩
    rw [this]; simp

theorem quietly {P : Program} {f : FuncId} {args : Array Value} {w : World} {n : Nat} {v : Value}
    (h : Calls P f args (w.drewN n) fun e w' => e = .returned v ∧ ∃ m, (w.drewN n).drewN m = w') : Calls P f args (w.drewN n) fun e w' => e = .returned v ∧ ∃ m, w.drewN m = w' :=
  h.mono fun e w' ⟨he, m, hm⟩ => ⟨he, n + m, by rw [← hm, World.drewN_drewN]⟩
theorem quiet_mine {P : Program} {f : FuncId} {args : Array Value} {w : World} {n : Nat} {v : Value}
    (h : Calls P f args (w.drewN n) fun e w' => e = .returned v ∧ w.drewN n = w') : Calls P f args (w.drewN n) fun e w'' => e = .returned v ∧ ∃ m, w'' = w.drewN m :=
  h.mono fun _e _w' ⟨he, hm⟩ => ⟨he, n, hm.symm⟩
theorem quiet_mine_add {P : Program} {f : FuncId} {args : Array Value} {w : World} {a n : Nat} {v : Value}
    (h : Calls P f args (w.drewN (a + n)) fun e w' => e = .returned v ∧ w.drewN (a + n) = w') : Calls P f args (w.drewN (a + n)) fun e w'' => e = .returned v ∧ ∃ m, w'' = w.drewN (a + m) :=
  h.mono fun _e _w' ⟨he, hm⟩ => ⟨he, n, hm.symm⟩
theorem quietly_same {P : Program} {f : FuncId} {args : Array Value} {w : World} {n : Nat} {v : Value}
    (h : Calls P f args (w.drewN n) fun e w' => e = .returned v ∧ w.drewN n = w') : Calls P f args (w.drewN n) fun e w' => e = .returned v ∧ ∃ m, w.drewN m = w' :=
  h.mono fun _e _w' ⟨he, hm⟩ => ⟨he, n, hm⟩
end
end Go.Proofs.Ytimpabceellihaa
