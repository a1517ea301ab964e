/-
  The walks of laws.toFloat32S, eqFloat32S, markFloat32S, heldFloat32S.
-/
import Derived.Test.YthafpbhjpmnddaaSl
import Derived.Test.YthafpbhjpmnddaaSameFloat
import Derived.Deep.QuietTactic
import Derived.BigQuiet
import Derived.Test.YthafpbhjpmnddaaFq
import Derived.Laws.Entries
namespace Go.Proofs.Ythafpbhjpmnddaa
open Go.RowKit
/-- A float32 as a cell. -/
abbrev fV (b : Nat) : Value := .float .f32 b
/-- What words stand for, one by one. -/
def absL (xs : List Nat) : List (Option Nat) := xs.map (absF .f32)
theorem absL_len {xs ys : List Nat} (h : absL xs = absL ys) : xs.length = ys.length := by
  have := congrArg List.length h
  simpa [absL] using this
theorem absL_at {xs ys : List Nat} (h : absL xs = absL ys) {k : Nat} {x y : Nat} (hx : xs[k]? = some x) (hy : ys[k]? = some y) : absF .f32 x = absF .f32 y := by
  have := congrArg (·[k]?) h
  simp only [absL, List.getElem?_map, hx, hy, Option.map_some, Option.some.injEq] at this
  exact this
/-- What markFloat32S lays from j on. -/
def mkFloat32S (n : Int) : Nat := floatOfInt .f32 n
theorem mkF_ord (n : Int) : FloatKind.f32.format.order (floatOfInt .f32 n) (floatOfInt .f32 n) = some .eq := by
  exact ord_refl (k := .f32) (nan_write Ieee.single (d := .number (n < 0) n.natAbs 0) rfl)
def marksFloat32S (j : Int) (n : Nat) : List Nat := (List.range n).map fun (t : Nat) => mkFloat32S (j + (t : Int))
def markRowFloat32S (j : Int) (xs : List Nat) (k : Nat) : List Value := (List.range k).map (fun (t : Nat) => fV (mkFloat32S (j + (t : Int)))) ++ (xs.drop k).map fV
theorem run_store_float (P : Program) (w : World) (a : Addr) (m : Mode) (k : FloatKind) (b : Nat) : (store a (.float k b) m).run P w = stored P w a (.float k b) m := run_store P w a _ m rfl
attribute [local go_sem] run_store_float
theorem markRowFloat32S_at (j : Int) {xs : List Nat} {k : Nat} {x : Nat} (h : xs[k]? = some x) : (markRowFloat32S j xs k)[k]? = some (fV x) := by
  unfold markRowFloat32S
  rw [List.getElem?_append_right (by simp)]
  simp [h]
theorem markRowFloat32S_set (j : Int) {xs : List Nat} {k : Nat} (h : k < xs.length) : (markRowFloat32S j xs k).set k (fV (mkFloat32S (j + k))) = markRowFloat32S j xs (k + 1) := by
  unfold markRowFloat32S
  have hd : (xs.drop k).map fV = fV (xs[k]'h) :: (xs.drop (k + 1)).map fV := by rw [List.drop_eq_getElem_cons h, List.map_cons]
  rw [List.set_append_right _ _ (by simp), List.range_succ, List.map_append, hd, List.length_map, List.length_range, Nat.sub_self, List.set_cons_zero]
  simp only [List.map_cons, List.map_nil, List.append_assoc, List.cons_append, List.nil_append]
theorem markRowFloat32S_end (j : Int) (xs : List Nat) : markRowFloat32S j xs xs.length = (marksFloat32S j xs.length).map fV := by
  unfold markRowFloat32S marksFloat32S
  simp
theorem marksFloat32S_at {j : Int} {n k : Nat} {x : Nat} (h : (marksFloat32S j n)[k]? = some x) : x = mkFloat32S (j + k) := by
  unfold marksFloat32S at h
  rw [List.getElem?_map] at h
  have hk : k < n := by
    rcases Nat.lt_or_ge k n with h1 | h1
    · exact h1
    · rw [List.getElem?_eq_none (by simpa using h1)] at h; cases h
  rw [List.getElem?_range hk] at h
  simpa using h.symm
theorem marksFloat32S_len (j : Int) (n : Nat) : (marksFloat32S j n).length = n := by simp [marksFloat32S]

theorem elF_ : Elem Try.prog 30 24 (.float .f32 0) 4 := ⟨Try.underlying30, by kernel_rfl, rfl⟩

end Go.Proofs.Ythafpbhjpmnddaa
