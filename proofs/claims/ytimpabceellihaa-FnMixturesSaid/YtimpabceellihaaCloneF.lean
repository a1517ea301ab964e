/-
  slices.Clone of numbers; two rows made by two calls and held in a variable.
-/
import Derived.Test.YtimpabceellihaaF32s
import Derived.Test.YtimpabceellihaaSl
import Derived.Test.YtimpabceellihaaShRet
namespace Go.Proofs.Ytimpabceellihaa
open Go.RowKit

theorem run_nil_slice (A : Option Addr) (n c : Nat) (w : World) : (binOp .eql 22 (.slice A n c) (.slice none 0 0)).run Try.prog w = .ok (.bool A.isNone) w := by cases A <;> kernel_rfl
set_option maxRecDepth 100000 in
theorem clone_any (v : Value) (xs : List Nat) (hn : xs.length ≤ 65536) (w : World) (hr : Rd fV w v xs) :
    Calls Try.prog 32 #[v] w fun e w' => ∃ v', e = .returned v' ∧ Own fV 39 w' w.heap.size v' xs ∧ Below w.heap.size w w' := by
  have HR := Lib.hid hr
  obtain ⟨A, cap, rfl, hcap, hA⟩ := hr
  cases A with
  | none =>
    have hx : xs = [] := by
      cases xs with
      | nil => rfl
      | cons x t => obtain ⟨ad, e, _⟩ := hA 0 x rfl; cases e
    subst hx
    clear hA
    have hnil := run_nil_slice none 0 cap
    go_enter Try.func32, Try.ntmps32
    go_wp2
    go_ret
    exact ⟨_, rfl, Own.nil, Below.refl _ _⟩
  | some ad =>
    clear hA
    go_enter Try.func32, Try.ntmps32
    have hrd : Rd fV (w.alloc (.cells #[] 39)) (.slice (some ad) xs.length cap) xs := HR.out.below (below_alloc _ _)
    have HRD := Lib.hid hrd
    clear hrd
    have hnil := run_nil_slice (some ad) xs.length cap
    go_wp2_with (at_builtin; go_loud (refine elF_.app (fun _ => rfl) _ rfl _ _ rfl w.heap.size _ [] rfl (own_nil_new fV w 39) _ xs rfl HRD.out (by omega) (by simp; omega) (by simp) ?_))
    intro v' w' ho hg hbb hp
    go_wp2
    go_ret
    exact ⟨_, rfl, ho, (below_alloc w _).trans hbb⟩
section
variable {wr wA wB : World} {vA vB : Value} {xs ys : List Nat} {T : TypeId}
theorem grow_last (hbA : Below wr.drew.heap.size wr.drew wA) (oA : Own fV 39 wA wr.drew.heap.size vA xs) (hbB : Below wA.heap.size wA wB) (oB : Own fV 39 wB wA.heap.size vB ys) :
    Grow (wB.alloc (.cells #[vA, vB] T)) wr.heap.size wB.heap.size vA vB xs ys ∧ Below wr.heap.size wr (wB.alloc (.cells #[vA, vB] T)) ∧ wr.heap.size ≤ wB.heap.size := by
  have s1 : wr.heap.size ≤ wA.heap.size := hbA.size
  have s2 := hbB.size
  have oA' := oA.below hbB
  refine ⟨⟨BoxAt.new wB [vA, vB] T, Own.alloc (oA'.base_ (Nat.le_refl _)) _, Own.alloc (oB.base_ s1) _, fun e => ?_, fun e => ?_, ?_⟩, ?_, by omega⟩
  · have := (oA'.lt _ e).2; omega
  · have := (oB.lt _ e).2; omega
  · cases hv : vA.ownBlock with
    | none => exact .inl rfl
    | some a =>
      refine .inr fun e => ?_
      have h1 := (oA.lt a hv).2
      have h2 := (oB.lt a e.symm).1
      omega
  · exact (below_to (below_to (Below.refl wr.heap.size wr).drew hbA (Nat.le_refl _)) hbB s1).alloc (by omega) _
theorem grow_first {o : Obj} (hbA : Below (wr.alloc o).drew.heap.size (wr.alloc o).drew wA) (oA : Own fV 39 wA (wr.alloc o).drew.heap.size vA xs) (hbB : Below wA.heap.size wA wB) (oB : Own fV 39 wB wA.heap.size vB ys) (KC : BoxAt wB wr.heap.size [.slice none 0 0, .slice none 0 0]) :
    Grow ((wB.setCell ⟨wr.heap.size, 0, none⟩ vA).setCell ⟨wr.heap.size, 1, none⟩ vB) wr.heap.size wr.heap.size vA vB xs ys ∧ Below wr.heap.size wr ((wB.setCell ⟨wr.heap.size, 0, none⟩ vA).setCell ⟨wr.heap.size, 1, none⟩ vB) ∧ wr.heap.size ≤ wr.heap.size := by
  have s0 : (wr.alloc o).drew.heap.size = wr.heap.size + 1 := size_alloc wr o
  have s1 : (wr.alloc o).drew.heap.size ≤ wA.heap.size := hbA.size
  have s2 := hbB.size
  have oA' := oA.below hbB
  have nA : vA.ownBlock ≠ some wr.heap.size := fun e => by have := (oA.lt _ e).1; omega
  have nB : vB.ownBlock ≠ some wr.heap.size := fun e => by have := (oB.lt _ e).1; omega
  refine ⟨⟨(KC.set (i := 0) rfl vA).set (i := 1) rfl vB, Own.other (Own.other (oA'.base_ (by omega)) nA _) nA _, Own.other (Own.other (oB.base_ (by omega)) nB _) nB _, nA, nB, ?_⟩, ?_, Nat.le_refl _⟩
  · cases hv : vA.ownBlock with
    | none => exact .inl rfl
    | some a =>
      refine .inr fun e => ?_
      have h1 := (oA.lt a hv).2
      have h2 := (oB.lt a e.symm).1
      omega
  · exact ((below_to (below_to ((Below.refl wr.heap.size wr).alloc (Nat.le_refl _) o).drew hbA (by omega)) hbB (by omega)).setCell (p := ⟨wr.heap.size, 0, none⟩) (Nat.le_refl _) _).setCell (p := ⟨wr.heap.size, 1, none⟩) (Nat.le_refl _) _
theorem grow_mid {o : Obj} (hbA : Below wr.drew.heap.size wr.drew wA) (oA : Own fV 39 wA wr.drew.heap.size vA xs) (hbB : Below (wA.alloc o).heap.size (wA.alloc o) wB) (oB : Own fV 39 wB (wA.alloc o).heap.size vB ys) (KC : BoxAt wB wA.heap.size [.slice none 0 0, .slice none 0 0]) :
    Grow ((wB.setCell ⟨wA.heap.size, 0, none⟩ vA).setCell ⟨wA.heap.size, 1, none⟩ vB) wr.heap.size wA.heap.size vA vB xs ys ∧ Below wr.heap.size wr ((wB.setCell ⟨wA.heap.size, 0, none⟩ vA).setCell ⟨wA.heap.size, 1, none⟩ vB) ∧ wr.heap.size ≤ wA.heap.size := by
  have s0 : (wA.alloc o).heap.size = wA.heap.size + 1 := size_alloc wA o
  have s1 : wr.heap.size ≤ wA.heap.size := hbA.size
  have s2 := hbB.size
  have oA' := (Own.alloc oA o).below hbB
  have nA : vA.ownBlock ≠ some wA.heap.size := fun e => by have := (oA.lt _ e).2; omega
  have nB : vB.ownBlock ≠ some wA.heap.size := fun e => by have := (oB.lt _ e).1; omega
  refine ⟨⟨(KC.set (i := 0) rfl vA).set (i := 1) rfl vB, Own.other (Own.other (oA'.base_ (Nat.le_refl _)) nA _) nA _, Own.other (Own.other (oB.base_ (by omega)) nB _) nB _, nA, nB, ?_⟩, ?_, s1⟩
  · cases hv : vA.ownBlock with
    | none => exact .inl rfl
    | some a =>
      refine .inr fun e => ?_
      have h1 := (oA.lt a hv).2
      have h2 := (oB.lt a e.symm).1
      omega
  · exact ((below_to ((below_to (Below.refl wr.heap.size wr).drew hbA (Nat.le_refl _)).alloc s1 o) hbB (by omega)).setCell (p := ⟨wA.heap.size, 0, none⟩) s1 _).setCell (p := ⟨wA.heap.size, 1, none⟩) s1 _
end
end Go.Proofs.Ytimpabceellihaa
