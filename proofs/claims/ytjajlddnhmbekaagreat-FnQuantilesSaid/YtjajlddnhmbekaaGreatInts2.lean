/-
  The walks of laws.toInt64S, eqInt64S, markInt64S, heldInt64S.
  The walks of slices.IndexFunc and slices.ContainsFunc at []int64 (beside those at []float32).
-/
import Derived.Test.YtjajlddnhmbekaaGreatSl
import Derived.Deep.QuietTactic
import Derived.BigQuiet
namespace Go.Proofs.YtjajlddnhmbekaaGreat
section
open Go.RowKit
/-- An int64 as a cell. -/
abbrev iV (n : Int) : Value := .int .i64 n
/-- What markInt64S lays from j on. -/
def mkInt64S (n : Int) : Int := n
def marksInt64S (j : Int) (n : Nat) : List Int := (List.range n).map fun (t : Nat) => mkInt64S (j + (t : Int))
def markRowInt64S (j : Int) (xs : List Int) (k : Nat) : List Value := (List.range k).map (fun (t : Nat) => iV (mkInt64S (j + (t : Int)))) ++ (xs.drop k).map iV
theorem markRowInt64S_at (j : Int) {xs : List Int} {k : Nat} {x : Int} (h : xs[k]? = some x) : (markRowInt64S j xs k)[k]? = some (iV x) := by
  unfold markRowInt64S
  rw [List.getElem?_append_right (by simp)]
  simp [h]
theorem markRowInt64S_set (j : Int) {xs : List Int} {k : Nat} (h : k < xs.length) : (markRowInt64S j xs k).set k (iV (mkInt64S (j + k))) = markRowInt64S j xs (k + 1) := by
  unfold markRowInt64S
  have hd : (xs.drop k).map iV = iV (xs[k]'h) :: (xs.drop (k + 1)).map iV := by rw [List.drop_eq_getElem_cons h, List.map_cons]
  rw [List.set_append_right _ _ (by simp), List.range_succ, List.map_append, hd, List.length_map, List.length_range, Nat.sub_self, List.set_cons_zero]
  simp only [List.map_cons, List.map_nil, List.append_assoc, List.cons_append, List.nil_append]
theorem markRowInt64S_end (j : Int) (xs : List Int) : markRowInt64S j xs xs.length = (marksInt64S j xs.length).map iV := by
  unfold markRowInt64S marksInt64S
  simp
theorem marksInt64S_at {j : Int} {n k : Nat} {x : Int} (h : (marksInt64S j n)[k]? = some x) : x = mkInt64S (j + k) := by
  unfold marksInt64S at h
  rw [List.getElem?_map] at h
  have hk : k < n := by
    rcases Nat.lt_or_ge k n with h1 | h1
    · exact h1
    · rw [List.getElem?_eq_none (by simpa using h1)] at h; cases h
  rw [List.getElem?_range hk] at h
  simpa using h.symm
theorem marksInt64S_len (j : Int) (n : Nat) : (marksInt64S j n).length = n := by simp [marksInt64S]

theorem elI_ : Elem Tryz.prog 76 2 (.int .i64 0) 8 := ⟨Tryz.underlying76, by kernel_rfl, rfl⟩

end

section
open Go.RowKit

end
end Go.Proofs.YtjajlddnhmbekaaGreat
