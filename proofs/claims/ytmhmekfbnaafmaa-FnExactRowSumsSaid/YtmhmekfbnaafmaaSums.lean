/-
  Sums of a table's rows and columns: the plain lists, and the walk of impl.columnSums.
-/
import Derived.Test.YtmhmekfbnaafmaaValidTab
namespace Go.Proofs.Ytmhmekfbnaafmaa
open Go.RowKit

/-- x is added, wrapped, to the number at place i. -/
def addAt (l : List Int) (i : Nat) (x : Int) : List Int := l.set i (wrap64 (l[i]?.getD 0 + x))
/-- The first k numbers of xs, each added at its place. -/
def sumsTo (n : Nat) (place : Nat → Nat) (xs : List Int) (k : Nat) : List Int := (List.range k).foldl (fun l j => addAt l (place j) (xs[j]?.getD 0)) (List.replicate n 0)
theorem sumsTo_zero (n : Nat) (place : Nat → Nat) (xs : List Int) : sumsTo n place xs 0 = List.replicate n 0 := rfl
theorem addAt_len (l : List Int) (i : Nat) (x : Int) : (addAt l i x).length = l.length := by simp [addAt]
theorem sumsTo_succ {n : Nat} {place : Nat → Nat} {xs : List Int} {k : Nat} {x : Int} (hx : xs[k]? = some x) : sumsTo n place xs (k + 1) = addAt (sumsTo n place xs k) (place k) x := by
  simp [sumsTo, List.range_succ, hx]
theorem sumsTo_len (n : Nat) (place : Nat → Nat) (xs : List Int) (k : Nat) : (sumsTo n place xs k).length = n := by
  unfold sumsTo
  generalize List.range k = r
  have : ∀ l : List Int, l.length = n → (r.foldl (fun l j => addAt l (place j) (xs[j]?.getD 0)) l).length = n := by
    induction r with
    | nil => intro l h; exact h
    | cons a r ih => intro l h; exact ih _ (by rw [addAt_len]; exact h)
  exact this _ (by simp)
theorem sumsTo_at {n : Nat} (place : Nat → Nat) (xs : List Int) (k : Nat) {i : Nat} (hi : i < n) : ∃ y, (sumsTo n place xs k)[i]? = some y ∧ ∀ x, addAt (sumsTo n place xs k) i x = (sumsTo n place xs k).set i (wrap64 (y + x)) := by
  obtain ⟨y, hy⟩ := get_of_lt (xs := sumsTo n place xs k) (k := i) (by rw [sumsTo_len]; exact hi)
  exact ⟨y, hy, fun x => by simp [addAt, hy]⟩

set_option maxHeartbeats 800000 in
theorem columnSums_any (r : Int) (m : Nat) (s : Value) (xs : List Int) (hm : 1 ≤ m) (hm2 : m ≤ 1000) (hn : xs.length ≤ 1000000) (w : World) (hr : Rd iV w s xs) :
    Calls Try.prog 30 #[tabV r m s] w fun e w' => ∃ v', e = .returned v' ∧ Own iV 2 w' w.heap.size v' (sumsTo m (· % m) xs xs.length) ∧ Below w.heap.size w w' := by
  obtain ⟨A, cap, rfl, hcap, hA⟩ := hr
  have HA := Lib.hid hA
  clear hA
  go_enter Try.func30, Try.ntmps30
  go_wp2_with (at_make; go_loud (refine elI_.make _ rfl _ _ rfl .i64 .i64 _ _ m rfl rfl rfl rfl (by omega) (by omega) ?_))
  intro w1 hown hb1 hs1
  have B_a := (tabAt_new w r m (.slice A xs.length cap) 28).below (hb1.mono (by simp))
  have hT : Below w.heap.size w w1 := (below1 w (.cells #[.int .i64 r, .int .i64 m, .slice A xs.length cap] 28)).trans (hb1.mono (by omega))
  have hz : List.replicate m (.int .i64 0) = (sumsTo m (· % m) xs 0).map iV := by rw [sumsTo_zero, List.map_replicate]
  rw [hz] at hown
  clear hz hb1
  obtain ⟨B, hB⟩ : ∃ B, B = w.heap.size + 1 := ⟨_, rfl⟩
  rw [← hB] at hown hs1 ⊢
  have HB := Lib.hid hB
  clear hB
  have ⟨la, ca0, ca1, ca2⟩ := B_a
  go_wp2
  go_loopw [12] (fun si wr => ∃ k : Nat, k ≤ xs.length ∧ si = .int .i64 k ∧ wr.ownsRow B 2 1 (.slice (some ⟨B, 0, none⟩) m m) m ((sumsTo m (· % m) xs k).map iV) ∧ Below B w1 wr)
    (fun si _ => xs.length - (intOf si).toNat)
  case atStart => exact ⟨0, by omega, rfl, hown, Below.refl _ _⟩
  case round =>
    obtain ⟨k, hk, rfl, hown2, hb2⟩ := hrel
    clear hown
    by_cases hlt : k < xs.length
    · obtain ⟨x, hx⟩ := get_of_lt hlt
      obtain ⟨ad, rfl, hbl, hc⟩ := HA.out k x hx
      have hmod : Int.tmod (k : Int) (m : Int) = ((k % m : Nat) : Int) := by rw [Int.tmod_eq_emod_of_nonneg (by omega)]; exact (Int.natCast_emod k m).symm
      have hlm : k % m < m := Nat.mod_lt _ (by omega)
      obtain ⟨y, hy, hadd⟩ := sumsTo_at (n := m) (· % m) xs k hlm
      have c2 := hown2.cellAt (k % m) (by simp [sumsTo_len]; exact hlm)
      have f2 := hown2.frozenAt (k % m)
      have hW : Below w.heap.size w wr := hT.trans (hb2.mono (by rw [HB.out]; omega))
      have hcw : wr.cell? (ad.add k) = some (iV x) := (hW.cell (p := ad.add k) (by unfold Addr.add; split <;> simpa using hbl)).trans hc
      have kw1 : wr.cell? ⟨w.heap.size, 1, none⟩ = some (.int .i64 m) := (hb2.cell (p := ⟨w.heap.size, 1, none⟩) (by rw [HB.out]; simp)).trans ca1
      have hset := hown2.stored (k % m) (iV (wrap64 (y + x)))
      rw [← List.map_set, ← hadd x, ← sumsTo_succ hx] at hset
      rw [List.getElem?_map, hy] at c2
      simp only [Option.map_some] at c2
      have hk0 : (0 : Int) ≤ ((k % m : Nat) : Int) := by omega
      have hk1 : ((k % m : Nat) : Int) < (m : Int) := by omega
      have hm0 : (m : Int) ≠ 0 := by omega
      have htn : ((k % m : Nat) : Int).toNat = k % m := by omega
      clear hx hy hadd hc hown2
      generalize k % m = j at *
      go_wp2
      go_roundw
      case rel => exact ⟨k + 1, by omega, by go_num, hset.1, hb2.setCell (p := ⟨B, j, none⟩) (Nat.le_refl _) _⟩
      case measure => simp [intOf]; omega
    · have hke : k = xs.length := by omega
      have HK := Lib.hid hke
      clear hke
      have kw1 : wr.cell? ⟨w.heap.size, 1, none⟩ = some (.int .i64 m) := (hb2.cell (p := ⟨w.heap.size, 1, none⟩) (by rw [HB.out]; simp)).trans ca1
      go_wp2
      go_ret
      refine ⟨_, rfl, ?_, hT.trans (hb2.mono (by rw [HB.out]; omega))⟩
      have := hown2
      rw [HK.out] at this
      unfold Own
      rw [sumsTo_len]
      exact own_base this (by rw [HB.out]; omega)
end Go.Proofs.Ytmhmekfbnaafmaa
