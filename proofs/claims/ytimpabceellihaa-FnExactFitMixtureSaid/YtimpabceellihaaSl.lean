/-
  Slices that read as lists ('Rd'), rows of the call's own ('Own'), elements of one cell each.
-/
import Derived.Test.YtimpabceellihaaBase
namespace Go.Proofs.Ytimpabceellihaa
open Go.RowKit

/-- The slice value v reads as the list xs in the world w (nil let in). -/
def Rd {α : Type} (f : α → Value) (w : World) (v : Value) (xs : List α) : Prop :=
  ∃ A cap, v = .slice A xs.length cap ∧ xs.length ≤ cap ∧ ∀ k x, xs[k]? = some x → ∃ ad, A = some ad ∧ ad.block < w.heap.size ∧ w.cell? (ad.add k) = some (f x)
/-- .. and it is a row of the call's own, in a block from 'base' on. -/
def Own {α : Type} (f : α → Value) (E : TypeId) (w : World) (base : Nat) (v : Value) (xs : List α) : Prop := w.ownsRow base E 1 v xs.length (xs.map f)

section
variable {α : Type} {f : α → Value} {E : TypeId} {w w' : World} {base : Nat} {v : Value} {xs : List α}
theorem add_block (a : Addr) (n : Nat) : (a.add n).block = a.block := by unfold Addr.add; split <;> rfl
theorem Rd.below (h : Rd f w v xs) (hb : Below w.heap.size w w') : Rd f w' v xs := by
  obtain ⟨A, cap, rfl, hc, hA⟩ := h
  refine ⟨A, cap, rfl, hc, fun k x hx => ?_⟩
  obtain ⟨ad, e, hl, hcell⟩ := hA k x hx
  exact ⟨ad, e, Nat.lt_of_lt_of_le hl hb.size, (hb.cell (by rw [add_block]; exact hl)).trans hcell⟩
theorem Rd.below' {B : Nat} (h : Rd f w v xs) (hB : w.heap.size ≤ B) (hb : Below B w w') : Rd f w' v xs := h.below (hb.mono hB)
theorem Rd.drewN (h : Rd f w v xs) (n : Nat) : Rd f (w.drewN n) v xs := h
theorem Rd.nil : Rd f w (.slice none 0 0) [] := ⟨none, 0, rfl, Nat.le_refl _, fun k x h => by simp at h⟩
theorem Rd.take {A : Option Addr} {n cap : Nat} (h : Rd f w (.slice A n cap) xs) {k : Nat} (hk : k ≤ xs.length) : Rd f w (.slice A k cap) (xs.take k) := by
  obtain ⟨A', cap', e, hc, hA⟩ := h
  cases e
  refine ⟨A, cap, by rw [List.length_take, Nat.min_eq_left hk], by rw [List.length_take]; omega, fun j x hx => ?_⟩
  rw [List.getElem?_take] at hx
  split at hx
  · exact hA j x hx
  · cases hx
theorem Own.nil : Own f E w base (.slice none 0 0) [] := World.ownsRow_nil _ _ _ _
theorem Own.below (h : Own f E w base v xs) (hb : Below w.heap.size w w') : Own f E w' base v xs := own_below h hb
theorem Own.kept {row : Option Nat} (h : Own f E w base v xs) (hg : w.grownBy w' row) (hne : v.ownBlock = none ∨ v.ownBlock ≠ row) : Own f E w' base v xs := World.ownsRow.kept h hg hne
theorem Own.drewN (h : Own f E w base v xs) (n : Nat) : Own f E (w.drewN n) base v xs := h
theorem Own.base_ {base' : Nat} (h : Own f E w base v xs) (hb : base' ≤ base) : Own f E w base' v xs := own_base h hb
theorem Own.rd (h : Own f E w base v xs) : Rd f w v xs := by
  rcases h.2 with ⟨rfl, h0⟩ | ⟨g, cap, cur, rfl, hg, hgg, hc, _, _, ht⟩
  · have : xs = [] := List.eq_nil_of_length_eq_zero h0
    subst this
    exact Rd.nil
  · refine ⟨_, cap, rfl, hc, fun k x hx => ⟨_, rfl, (Array.getElem?_eq_some_iff.1 hgg).1, ?_⟩⟩
    have hk : k < xs.length := (List.getElem?_eq_some_iff.1 hx).1
    have := h.cellAt k (by omega)
    rw [List.getElem?_map, hx] at this
    rw [Addr.add_lit, Nat.zero_add]
    exact this
theorem Own.lt (h : Own f E w base v xs) : ∀ k, v.ownBlock = some k → base ≤ k ∧ k < w.heap.size := World.ownsRow.lt h
theorem Own.form (h : Own f E w base v xs) (hn : 0 < xs.length) : ∃ g cap, v = .slice (some ⟨g, 0, none⟩) xs.length cap ∧ xs.length ≤ cap ∧ base ≤ g ∧ g < w.heap.size := own_some h hn
/-- A row that is owned from the world's end on differs from one that was there. -/
theorem Own.apart {β : Type} {f' : β → Value} {E' : TypeId} {base' : Nat} {u : Value} {ys : List β} (h : Own f E w base v xs) (hw : w.heap.size ≤ base') (h' : Own f' E' w' base' u ys) : v.ownBlock = none ∨ v.ownBlock ≠ u.ownBlock := by
  cases hv : v.ownBlock with
  | none => exact .inl rfl
  | some a =>
    refine .inr fun e => ?_
    have h1 := (h.lt a hv).2
    have h2 := (h'.lt a e.symm).1
    omega
end

theorem apart_symm {a b : Option Nat} (h : a = none ∨ a ≠ b) : b = none ∨ b ≠ a := by
  rcases h with rfl | h
  · cases b with
    | none => exact .inl rfl
    | some x => exact .inr (by simp)
  · exact .inr (Ne.symm h)
theorem below_of_drew {w w' : World} (h : ∃ n, w.drewN n = w') : Below w.heap.size w w' := by
  obtain ⟨n, rfl⟩ := h
  exact ⟨rfl, rfl, rfl, Nat.le_refl _, fun _ _ => rfl⟩
/-- All that a law keeps in sight: how the world has grown since the call began. -/
theorem below_mark {w a b : World} {v : Value} {base : Nat} (h : Below w.heap.size w a) (hg : a.grownBy b v.ownBlock) (hb : ∀ k, v.ownBlock = some k → base ≤ k ∧ k < a.heap.size) (hw : w.heap.size ≤ base) : Below w.heap.size w b :=
  h.grown hg h.size (fun k hk => Nat.le_trans hw (hb k hk).1)

theorem grown_trans1 {a b c : World} {row : Option Nat} (h : a.grownBy b row) (k : b.grownBy c row) : a.grownBy c row :=
  ⟨k.os.trans h.os, k.tape.trans h.tape, k.output.trans h.output, Nat.le_trans h.size k.size, fun i hi hne => (k.block i (Nat.lt_of_lt_of_le hi h.size) hne).trans (h.block i hi hne)⟩

theorem World.ownsRow.drewN' {w : World} {base : Nat} {e : TypeId} {size : Nat} {v : Value} {n : Nat} {xs : List Value} (h : w.ownsRow base e size v n xs) (k : Nat) : (w.drewN k).ownsRow base e size v n xs := h
theorem below_drewN' {w : World} (n : Nat) {B : Nat} {a : World} (h : Below B a w) : Below B a (w.drewN n) := ⟨h.os, h.tape, h.output, h.size, h.block⟩

theorem below_drewN_ {w : World} {n : Nat} {B : Nat} {a : World} (h : Below B a w) : Below B a (w.drewN n) := ⟨h.os, h.tape, h.output, h.size, h.block⟩
theorem take_snoc {α : Type} {xs : List α} {k : Nat} {x : α} (h : xs[k]? = some x) : xs.take (k + 1) = xs.take k ++ [x] := by
  rw [List.take_add_one, h]; rfl
theorem get_of_lt {α : Type} {xs : List α} {k : Nat} (h : k < xs.length) : ∃ x, xs[k]? = some x := ⟨xs[k], List.getElem?_eq_getElem h⟩
theorem lt_of_get {α : Type} {xs : List α} {k : Nat} {x : α} (h : xs[k]? = some x) : k < xs.length := (List.getElem?_eq_some_iff.1 h).1

/-- A row of z's whose first k cells are made. -/
def fillRow {α : Type} (f : α → Value) (z : Value) (xs : List α) (k : Nat) : List Value := (xs.take k).map f ++ List.replicate (xs.length - k) z
theorem fillRow_zero {α : Type} (f : α → Value) (z : Value) (xs : List α) : fillRow f z xs 0 = List.replicate xs.length z := by simp [fillRow]
theorem fillRow_end {α : Type} (f : α → Value) (z : Value) (xs : List α) : fillRow f z xs xs.length = xs.map f := by simp [fillRow]
theorem fillRow_len {α : Type} (f : α → Value) (z : Value) (xs : List α) {k : Nat} (h : k ≤ xs.length) : (fillRow f z xs k).length = xs.length := by simp [fillRow]; omega
theorem fillRow_at {α : Type} (f : α → Value) (z : Value) (xs : List α) {k : Nat} (h : k < xs.length) : (fillRow f z xs k)[k]? = some z := by
  unfold fillRow
  rw [List.getElem?_append_right (by simp; omega)]
  simp [List.getElem?_replicate]
  omega
theorem fillRow_set {α : Type} (f : α → Value) (z : Value) (xs : List α) {k : Nat} {x : α} (h : xs[k]? = some x) : (fillRow f z xs k).set k (f x) = fillRow f z xs (k + 1) := by
  have hk := lt_of_get h
  unfold fillRow
  rw [List.set_append_right _ _ (by simp; omega), take_snoc h]
  have hl : ((xs.take k).map f).length = k := by simp; omega
  rw [hl, Nat.sub_self]
  obtain ⟨m, hm⟩ : ∃ m, xs.length - k = m + 1 := ⟨xs.length - k - 1, by omega⟩
  rw [hm, show xs.length - (k + 1) = m by omega, List.replicate_succ, List.set_cons_zero]
  simp
end Go.Proofs.Ytimpabceellihaa
