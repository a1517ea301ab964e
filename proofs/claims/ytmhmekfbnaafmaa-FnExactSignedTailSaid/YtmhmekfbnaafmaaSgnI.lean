/-
  The walk of impl.SignedTail.
-/
import Derived.Test.YtmhmekfbnaafmaaSgnP
import Derived.Test.YtmhmekfbnaafmaaLayD
import Derived.Lib.OwnBridge
namespace Go.Proofs.Ytmhmekfbnaafmaa
open Go.RowKit Go.Maps Go.Shelf

/-! ### slices.DeleteFunc at what is nought -/
theorem heapS {α : Type} [Inhabited α] {enc : α → Value} {w : World} {blk off m k : Nat} {dk : Array α} {os : Array Obj} (hk : k < w.heap.size) (hb : k ≠ blk) : (sortWorld enc w blk off m dk os).heap[k]? = w.heap[k]? := by
  unfold sortWorld
  rw [Go.Sort.heap_grow_old _ _ (by rw [Go.Sort.size_putRow]; exact hk)]
  show (w.heap.modify blk _)[k]? = _
  rw [Array.getElem?_modify, if_neg (Ne.symm hb)]
theorem belowS {α : Type} [Inhabited α] {enc : α → Value} {w : World} {blk off m B : Nat} {dk : Array α} {os : Array Obj} (hB : B ≤ blk) (hw : B ≤ w.heap.size) : Below B w (sortWorld enc w blk off m dk os) := by
  refine ⟨rfl, rfl, rfl, ?_, fun k hk => heapS (by omega) (by omega)⟩
  unfold sortWorld
  rw [Go.Sort.size_grow, Go.Sort.size_putRow]
  exact Nat.le_add_right _ _
theorem putRowS {α : Type} [Inhabited α] (enc : α → Value) (w : World) (q g : Nat) (d : Array α) : Go.Sort.putRow enc (Go.Sort.ahead w q) g 0 d = sortWorld enc w g 0 q d #[] := by unfold sortWorld; rw [Go.Sort.grow_empty]
theorem sgn1_any (x : Int) (w : World) : Calls Try.prog 47 #[iV x] w fun e w' => e = .returned (.bool (x == 0)) ∧ w = w' := by
  go_enter Try.func47, Try.ntmps47
  go_wp2
  go_ret
  exact ⟨rfl, rfl⟩
theorem enter_sgn1 (args : Array Value) (w : World) : (callFunc 47 args).run Try.prog w = .ok (.enter 47 args) w :=
  enter_of Try.func47 (by kernel_rfl) (by kernel_rfl) args w
set_option maxRecDepth 100000 in
theorem del0_any (xs : List Int) (h1 : 1 ≤ xs.length) (hn : xs.length ≤ 40) (w : World) (base : Nat) (hbw : base ≤ w.heap.size) (v : Value) (ho : Own iV 2 w base v xs) :
    Calls Try.prog 45 #[v, .func (.func 47) #[] #[]] w fun e w' => ∃ g c, e = .returned (.slice (some ⟨g, 0, none⟩) (nz xs).length c) ∧ base ≤ g ∧ g < w'.heap.size ∧ (nz xs).length ≤ c ∧ Own iV 2 w' base (.slice (some ⟨g, 0, none⟩) (nz xs).length c) (nz xs) ∧ Below base w w' := by
  obtain ⟨g, c, rfl, hcc, hg1, hg2⟩ := ho.form (by omega)
  obtain ⟨g', c', e, -, -, -, hmx, -, hH⟩ := Lib.holds_of_ownsRow (enc := iV) ho (by simp)
  cases e
  have hds : xs.toArray.size = xs.length := by simp
  have hdel := AnyE.slices_DeleteFunc delF iV (fun _ => rfl) (fun x => x == 0) 47 #[] (fun args w => enter_sgn1 args w) 0 (fun w => by first | exact Try.zeroValue2 w | kernel_rfl)
    g 0 c xs.toArray w (fun W x _ => (sgn1_any x W).mono fun _ _ ⟨h1, h2⟩ => ⟨h1, 0, h2.symm⟩) (fun q os dk x _ => (sgn1_any x _).mono fun _ _ ⟨h1, h2⟩ => ⟨h1, 0, h2.symm⟩) hH (by rw [hds]; omega) (by rw [hds]; exact hcc)
  rw [hds] at hdel
  dsimp only at hdel
  change Calls Try.prog 45 _ _ _ at hdel
  refine hdel.mono ?_
  rintro e w3 ⟨rfl, q, hw3⟩
  have hle := nz_len xs
  have hrow : w3.ownsRow base 2 1 (.slice (some ⟨g, 0, none⟩) (nz xs).length c) (nz xs).length ((nz xs).map iV) := by
    have h := Lib.ownsRow_putRow (enc := iV) (q := q) (k := (nz xs).length) (ys := nz xs ++ List.replicate (xs.length - (nz xs).length) 0) ho (by rw [List.length_append, List.length_replicate]; omega) hle
    rw [List.take_append_of_le_length (Nat.le_refl _), List.take_length] at h
    rw [hw3]
    exact h
  refine ⟨g, c, rfl, hg1, ?_, by omega, hrow, by rw [hw3, putRowS]; exact belowS hg1 hbw⟩
  exact (World.ownsRow.lt hrow g rfl).2

/-! ### slices.Clone -/
theorem nilSgn (A : Option Addr) (n c : Nat) (w : World) : (binOp .eql 22 (.slice A n c) (.slice none 0 0)).run Try.prog w = .ok (.bool A.isNone) w := by cases A <;> kernel_rfl
set_option maxRecDepth 100000 in
theorem cloneSgn_any (v : Value) (xs : List Int) (hn : xs.length ≤ 1099511627776) (w : World) (hr : Rd iV w v xs) :
    Calls Try.prog 46 #[v] w fun e w' => ∃ v', e = .returned v' ∧ Own iV 2 w' w.heap.size v' xs ∧ Below w.heap.size w w' := by
  have HR := Lib.hid hr
  obtain ⟨A, cap, rfl, hcap, hA⟩ := hr
  cases A with
  | none =>
    have hx : xs = [] := by
      cases xs with
      | nil => rfl
      | cons x t => obtain ⟨ad, e, _⟩ := hA 0 x rfl; cases e
    subst hx
    clear hA
    have hnil := nilSgn none 0 cap
    go_enter Try.func46, Try.ntmps46
    go_wp2
    go_ret
    exact ⟨_, rfl, Own.nil, Below.refl _ _⟩
  | some ad =>
    clear hA
    go_enter Try.func46, Try.ntmps46
    have hrd : Rd iV (w.alloc (.cells #[] 2)) (.slice (some ad) xs.length cap) xs := HR.out.alloc _
    have HRD := Lib.hid hrd
    clear hrd
    have hnil := nilSgn (some ad) xs.length cap
    go_wp2_with (at_builtin; go_loud (refine elI_.app one_iV _ rfl _ _ rfl w.heap.size _ [] rfl (own_nil_new iV w 2) _ xs rfl HRD.out (by omega) (by simp; omega) (by simp) ?_))
    intro v' w' ho hg hbb hp
    go_wp2
    go_ret
    exact ⟨_, rfl, ho, ((Below.refl _ _).alloc (Nat.le_refl _) _).trans hbb⟩

/-! ### a cell of the call's own -/
structure CellAt (w : World) (b : Nat) (v : Value) : Prop where
  lt : b < w.heap.size
  cell : w.cell? ⟨b, 0, none⟩ = some v
  free : w.frozen? ⟨b, 0, none⟩ = false
theorem CellAt.new (w : World) (v : Value) (t : TypeId) : CellAt (w.alloc (.cells #[v] t)) w.heap.size v :=
  ⟨by simp, by rw [World.cell?_alloc_new]; rfl, World.frozen?_alloc_new _ _ _ _⟩
theorem CellAt.grown {w w' : World} {b : Nat} {v : Value} {row : Option Nat} (h : CellAt w b v) (hg : w.grownBy w' row) (hne : some b ≠ row) : CellAt w' b v :=
  ⟨Nat.lt_of_lt_of_le h.lt hg.size, (World.cell?_of_block (w := w) (hg.block b h.lt hne)).trans h.cell, (World.frozen?_of_block (w := w) (hg.block b h.lt hne)).trans h.free⟩
theorem CellAt.below {w w' : World} {b : Nat} {v : Value} (h : CellAt w b v) (hb : Below w.heap.size w w') : CellAt w' b v :=
  ⟨Nat.lt_of_lt_of_le h.lt hb.size, (hb.cell (p := ⟨b, 0, none⟩) h.lt).trans h.cell, (hb.frozen (p := ⟨b, 0, none⟩) h.lt).trans h.free⟩
theorem CellAt.alloc {w : World} {b : Nat} {v : Value} (h : CellAt w b v) (o : Obj) : CellAt (w.alloc o) b v := h.below ((Below.refl _ _).alloc (Nat.le_refl _) o)
theorem CellAt.set {w : World} {b : Nat} {v : Value} (h : CellAt w b v) (u : Value) : CellAt (w.setCell ⟨b, 0, none⟩ u) b u :=
  ⟨by simpa using h.lt, World.cell?_setCell_same _ _ _ h.cell, by rw [World.frozen?_setCell]; exact h.free⟩

theorem grown_setCell (w : World) (b : Nat) (u : Value) : w.grownBy (w.setCell ⟨b, 0, none⟩ u) (some b) :=
  ⟨rfl, rfl, rfl, by simp, fun k _ hk => Below.heap_setCell _ _ _ _ (fun e => hk (by rw [e]))⟩
theorem below_grown {w w' : World} (h : Below w.heap.size w w') : w.grownBy w' none := ⟨h.os, h.tape, h.output, h.size, fun k hk _ => h.block k hk⟩
theorem grown_refl (w : World) (row : Option Nat) : w.grownBy w row := ⟨rfl, rfl, rfl, Nat.le_refl _, fun _ _ _ => rfl⟩
/-- A map of one way: the empty choice. -/
theorem way_one (w : World) : ∃ w', (Instr.mapUpdate 54 (.map (some w.heap.size)) (.int .i64 0) (.int .i64 1)).run Try.prog (w.alloc (.map #[] 0)) = .ok () w' ∧
    w'.ownsMap Try.prog 2 (plainElem Try.prog 2) w.heap.size 1 ((DataW.map [] : DataW Unit).put (kI 0) (.lit (.int .i64 1))) ∧ (w.alloc (.map #[] 0)).grownBy w' (some w.heap.size) :=
  (World.ownsMap_made (H := Unit) w Try.prog 2 (plainElem Try.prog 2)).update lawK Try.underlying54 (by decide) (key := .int .i64 0) (val := .int .i64 1)
    (keyOf_int_mk Try.underlying2 (wf_of_inI (by unfold inI; omega))) (plainElem_int Try.underlying2 (wf_of_inI (by unfold inI; omega)))

theorem sgn2_any (x o : Int) (b : Nat) (w : World) (h : CellAt w b (iV o)) : Calls Try.prog 49 #[iV x, .pointer (some ⟨b, 0, none⟩)] w fun e w' => e = .returned (.bool (decide (x ≤ o))) ∧ w = w' := by
  have hc := h.cell
  go_enter Try.func49, Try.ntmps49
  go_wp2
  go_ret
  exact ⟨rfl, rfl⟩
theorem enter_sgn2 (args : Array Value) (w : World) : (callFunc 49 args).run Try.prog w = .ok (.enter 49 args) w :=
  enter_of Try.func49 (by kernel_rfl) (by kernel_rfl) args w
end Go.Proofs.Ytmhmekfbnaafmaa
