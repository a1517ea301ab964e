/-
  The walks of laws.toBoolS, eqBoolS, markBoolS, heldBoolS.
-/
import Derived.Test.YtimpabceellihaaSl
import Derived.Deep.QuietTactic
import Derived.BigQuiet
namespace Go.Proofs.Ytimpabceellihaa
open Go.RowKit
/-- A bool as a cell. -/
abbrev bV (b : Bool) : Value := .bool b
/-- What markBoolS lays from j on. -/
def mkBoolS (n : Int) : Bool := n % 3 == 0
def marksBoolS (j : Int) (n : Nat) : List Bool := (List.range n).map fun (t : Nat) => mkBoolS (j + (t : Int))
def markRowBoolS (j : Int) (xs : List Bool) (k : Nat) : List Value := (List.range k).map (fun (t : Nat) => bV (mkBoolS (j + (t : Int)))) ++ (xs.drop k).map bV
theorem markRowBoolS_at (j : Int) {xs : List Bool} {k : Nat} {x : Bool} (h : xs[k]? = some x) : (markRowBoolS j xs k)[k]? = some (bV x) := by
  unfold markRowBoolS
  rw [List.getElem?_append_right (by simp)]
  simp [h]
theorem markRowBoolS_set (j : Int) {xs : List Bool} {k : Nat} (h : k < xs.length) : (markRowBoolS j xs k).set k (bV (mkBoolS (j + k))) = markRowBoolS j xs (k + 1) := by
  unfold markRowBoolS
  have hd : (xs.drop k).map bV = bV (xs[k]'h) :: (xs.drop (k + 1)).map bV := by rw [List.drop_eq_getElem_cons h, List.map_cons]
  rw [List.set_append_right _ _ (by simp), List.range_succ, List.map_append, hd, List.length_map, List.length_range, Nat.sub_self, List.set_cons_zero]
  simp only [List.map_cons, List.map_nil, List.append_assoc, List.cons_append, List.nil_append]
theorem markRowBoolS_end (j : Int) (xs : List Bool) : markRowBoolS j xs xs.length = (marksBoolS j xs.length).map bV := by
  unfold markRowBoolS marksBoolS
  simp
theorem marksBoolS_at {j : Int} {n k : Nat} {x : Bool} (h : (marksBoolS j n)[k]? = some x) : x = mkBoolS (j + k) := by
  unfold marksBoolS at h
  rw [List.getElem?_map] at h
  have hk : k < n := by
    rcases Nat.lt_or_ge k n with h1 | h1
    · exact h1
    · rw [List.getElem?_eq_none (by simpa using h1)] at h; cases h
  rw [List.getElem?_range hk] at h
  simpa using h.symm
theorem marksBoolS_len (j : Int) (n : Nat) : (marksBoolS j n).length = n := by simp [marksBoolS]

end Go.Proofs.Ytimpabceellihaa
