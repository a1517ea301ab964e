/-
  spec.l04Most and spec.l04Build.
-/
import Derived.Test.YthdnelfggmlalaaGrW
import Derived.Test.YthdnelfggmlalaaGrP
import Derived.Test.YthdnelfggmlalaaSortS
import Derived.Test.YthdnelfggmlalaaBools
namespace Go.Proofs.Ythdnelfggmlalaa
open Go.RowKit

/-- Block g holds a row of bools, of the call's own. -/
def RowB (w : World) (g n c : Nat) (bs : List Bool) : Prop := w.ownsRow 0 4 1 (.slice (some ⟨g, 0, none⟩) n c) n (bs.map bV)
section
variable {w w' : World} {g n c i : Nat} {x : Bool} {bs : List Bool}
theorem RowB.lt (h : RowB w g n c bs) : g < w.heap.size := (World.ownsRow.lt h g rfl).2
theorem RowB.len (h : RowB w g n c bs) : bs.length = n := by
  have := h.1
  simpa using this
theorem RowB.at (h : RowB w g n c bs) (hx : bs[i]? = some x) : w.cell? ⟨g, i, none⟩ = some (bV x) := by
  have := World.ownsRow.cellAt h i (by rw [Nat.mul_one, ← h.len]; exact lt_of_get hx)
  rw [List.getElem?_map, hx, Option.map_some] at this
  exact this
theorem RowB.free (h : RowB w g n c bs) (i : Nat) : w.frozen? ⟨g, i, none⟩ = false := World.ownsRow.frozenAt h i
theorem RowB.put (h : RowB w g n c bs) (i : Nat) (x : Bool) : RowB (w.setCell ⟨g, i, none⟩ (bV x)) g n c (bs.set i x) := by
  unfold RowB
  rw [List.map_set]
  exact (World.ownsRow.stored (w := w) h i (bV x)).1
theorem grown_set (w : World) (g i : Nat) (u : Value) : w.grownBy (w.setCell ⟨g, i, none⟩ u) (some g) :=
  ⟨rfl, rfl, rfl, by simp, fun k hk hkn => ((Touch.setCell w ⟨g, i, none⟩ u).block k hk (by simp only; have : k ≠ g := fun e => hkn (by rw [e]); omega))⟩
theorem RowB.set_other (h : RowB w g n c bs) {b j : Nat} (u : Value) (hb : g ≠ b) : RowB (w.setCell ⟨b, j, none⟩ u) g n c bs := World.ownsRow.kept h (grown_set w b j u) (.inr (by simp [Value.ownBlock]; omega))
theorem RowI.set_other {xs : List Int} (h : RowI w g n c xs) {b j : Nat} (u : Value) (hb : g ≠ b) : RowI (w.setCell ⟨b, j, none⟩ u) g n c xs := World.ownsRow.kept h (grown_set w b j u) (.inr (by simp [Value.ownBlock]; omega))
end
/-- Which numbers are taken. -/
def tkL (n : Nat) (S : List Nat) : List Bool := (List.range n).map fun k => decide (k ∈ S)
theorem tkL_at {n k : Nat} {S : List Nat} (h : k < n) : (tkL n S)[k]? = some (decide (k ∈ S)) := by unfold tkL; rw [List.getElem?_map, List.getElem?_range h]; rfl
theorem tkL_len (n : Nat) (S : List Nat) : (tkL n S).length = n := by simp [tkL]
theorem tkL_nil (n : Nat) : tkL n [] = List.replicate n false := by
  apply List.ext_getElem?
  intro k
  by_cases h : k < n
  · rw [tkL_at h, List.getElem?_replicate, if_pos h]; rfl
  · rw [List.getElem?_eq_none (by rw [tkL_len]; omega), List.getElem?_replicate, if_neg h]
theorem tkL_set {n k : Nat} {S : List Nat} (h : k < n) : (tkL n S).set k true = tkL n (S ++ [k]) := by
  apply List.ext_getElem?
  intro j
  rw [List.getElem?_set]
  by_cases e : k = j
  · subst e
    rw [if_pos rfl, if_pos (by rw [tkL_len]; exact h), tkL_at h]
    simp
  · rw [if_neg e]
    by_cases hj : j < n
    · rw [tkL_at hj, tkL_at hj]
      congr 1
      rw [decide_eq_decide]
      simp
      omega
    · rw [List.getElem?_eq_none (by rw [tkL_len]; omega), List.getElem?_eq_none (by rw [tkL_len]; omega)]

/-- The one that l04Most finds below i: -1, or the one ahead of all others that are not taken. -/
def MostI (L : List Int) (S : List Nat) (i : Nat) (b : Int) : Prop :=
  (b = -1 ∧ ∀ k, k < i → k ∈ S) ∨ ∃ m : Nat, b = (m : Int) ∧ m < i ∧ m ∉ S ∧ ∀ k, k < i → k ∉ S → k ≠ m → ahd L m k = true
theorem MostI.start (L : List Int) (S : List Nat) : MostI L S 0 (-1) := .inl ⟨rfl, fun k h => by omega⟩
theorem MostI.skip {L : List Int} {S : List Nat} {i : Nat} {b : Int} (h : MostI L S i b) (hi : i ∈ S) : MostI L S (i + 1) b := by
  rcases h with ⟨rfl, h⟩ | ⟨m, rfl, h1, h2, h3⟩
  · refine .inl ⟨rfl, fun k hk => ?_⟩
    rcases Nat.lt_or_ge k i with h' | h'
    · exact h k h'
    · obtain rfl : k = i := by omega
      exact hi
  · refine .inr ⟨m, rfl, by omega, h2, fun k hk hkS hkm => ?_⟩
    rcases Nat.lt_or_ge k i with h' | h'
    · exact h3 k h' hkS hkm
    · obtain rfl : k = i := by omega
      exact absurd hi hkS
theorem MostI.first {L : List Int} {S : List Nat} {i : Nat} (h : MostI L S i (-1)) (hi : i ∉ S) : MostI L S (i + 1) (i : Int) := by
  rcases h with ⟨-, h⟩ | ⟨m, e, _⟩
  · refine .inr ⟨i, rfl, by omega, hi, fun k hk hkS hkm => ?_⟩
    exact absurd (h k (by omega)) hkS
  · omega
theorem MostI.more {L : List Int} {S : List Nat} {i m : Nat} (h : MostI L S i (m : Int)) (hi : i ∉ S) (hl : lv L i > lv L m) : MostI L S (i + 1) (i : Int) := by
  rcases h with ⟨e, _⟩ | ⟨m', e, h1, h2, h3⟩
  · omega
  · obtain rfl : m = m' := by omega
    refine .inr ⟨i, rfl, by omega, hi, fun k hk hkS hki => ?_⟩
    unfold ahd
    refine decide_eq_true (.inl ?_)
    by_cases e : k = m
    · rw [e]; exact hl
    · have := h3 k (by omega) hkS e
      unfold ahd at this
      have := of_decide_eq_true this
      omega
theorem MostI.same {L : List Int} {S : List Nat} {i m : Nat} (h : MostI L S i (m : Int)) (hl : ¬ lv L i > lv L m) : MostI L S (i + 1) (m : Int) := by
  rcases h with ⟨e, _⟩ | ⟨m', e, h1, h2, h3⟩
  · omega
  · obtain rfl : m = m' := by omega
    refine .inr ⟨m, rfl, by omega, h2, fun k hk hkS hkm => ?_⟩
    rcases Nat.lt_or_ge k i with h' | h'
    · exact h3 k h' hkS hkm
    · obtain rfl : k = i := by omega
      unfold ahd
      exact decide_eq_true (by omega)

set_option maxHeartbeats 1000000 in
theorem l04Most_any (L : List Int) (S : List Nat) (g c gt ct n : Nat) (hL : L.length = n) (hn : n ≤ 64) (w : World) (hR : RowI w g n c L) (hT : RowB w gt n ct (tkL n S)) :
    Calls Try.prog 93 #[.slice (some ⟨g, 0, none⟩) n c, .slice (some ⟨gt, 0, none⟩) n ct] w fun e w' => ∃ b, e = .returned (.int .i64 b) ∧ MostI L S n b ∧ ∃ q, w.drewN q = w' := by
  have HR := Lib.hid hR
  have HT := Lib.hid hT
  have HL := Lib.hid hL
  clear hR hT hL
  go_enter Try.func93, Try.ntmps93
  go_wp2
  go_loopw [5, 6] (fun sb si wr => ∃ (i : Nat) (b : Int), i ≤ n ∧ si = .int .i64 i ∧ sb = .int .i64 b ∧ Hid (MostI L S i b) ∧ ∃ q, w.drewN q = wr) (fun _ si _ => n - (intOf si).toNat)
  case atStart => exact ⟨0, -1, Nat.zero_le _, rfl, rfl, MostI.start L S, 0, rfl⟩
  case round =>
    obtain ⟨i, b, hi, rfl, rfl, HM, q, rfl⟩ := hrel
    by_cases hlt : i < n
    · have c1 := HT.out.at (tkL_at (S := S) hlt)
      have c2 := HR.out.at (get_lv (L := L) (k := i) (by rw [HL.out]; exact hlt))
      have hin : (i : Int) < (n : Int) := by omega
      obtain ⟨x, hx⟩ := (⟨lv L i, rfl⟩ : ∃ x, x = lv L i)
      rw [← hx] at c2
      have HX := Lib.hid hx
      clear hx
      by_cases ht : i ∈ S
      · have HN := Lib.hid (HM.out.skip ht)
        rw [show decide (i ∈ S) = true from decide_eq_true ht] at c1
        clear ht
        go_wp2_with fail
        go_quiet (fail)
        go_wp2
        go_roundw
        case rel => exact ⟨i + 1, b, by omega, by go_num, rfl, HN, _, rfl⟩
        case measure => simp [intOf]; omega
      · rw [show decide (i ∈ S) = false from decide_eq_false ht] at c1
        by_cases hb : b = -1
        · subst hb
          have HN := Lib.hid (HM.out.first ht)
          clear ht
          go_wp2_with fail
          go_quiet (fail)
          go_wp2
          go_roundw
          case rel => exact ⟨i + 1, i, by omega, by go_num, rfl, HN, _, rfl⟩
          case measure => simp [intOf]; omega
        · obtain ⟨m, hm, hmi⟩ : ∃ m : Nat, b = (m : Int) ∧ m < i := by
            rcases HM.out with ⟨e, _⟩ | ⟨m, e, h1, _⟩
            · exact absurd e hb
            · exact ⟨m, e, h1⟩
          subst hm
          have c3 := HR.out.at (get_lv (L := L) (k := m) (by rw [HL.out]; omega))
          obtain ⟨y, hy⟩ := (⟨lv L m, rfl⟩ : ∃ y, y = lv L m)
          rw [← hy] at c3
          have HY := Lib.hid hy
          have hmn : (m : Int) < (n : Int) := by omega
          have hm0 : ¬ (m : Int) < 0 := by omega
          clear hb hy
          by_cases hxy : y < x
          · have HN := Lib.hid (HM.out.more ht (by rw [← HX.out, ← HY.out]; exact hxy))
            clear ht
            go_wp2_with fail
            go_quiet (fail)
            go_wp2
            go_roundw
            case rel => exact ⟨i + 1, i, by omega, by go_num, rfl, HN, _, rfl⟩
            case measure => simp [intOf]; omega
          · have HN := Lib.hid (HM.out.same (by rw [← HX.out, ← HY.out]; exact hxy))
            clear ht
            go_wp2_with fail
            go_quiet (fail)
            go_wp2
            go_roundw
            case rel => exact ⟨i + 1, m, by omega, by go_num, rfl, HN, _, rfl⟩
            case measure => simp [intOf]; omega
    · have hke : i = n := by omega
      have HF : Hid (MostI L S n b) := by unfold Hid; rw [← hke]; exact HM.out
      clear hke
      go_wp2
      go_ret
      exact ⟨b, rfl, HF.out, _, rfl⟩
end Go.Proofs.Ythdnelfggmlalaa
