/-
  The walks of slices.swapRangeCmpFunc and rotateCmpFunc at int64.
-/
import Derived.Test.YtjajlddnhmbekaaGreatStab
import Derived.Test.YtjajlddnhmbekaaGreatSl
import Derived.Test.YtjajlddnhmbekaaGreatFq
import Derived.Deep.QuietTactic
import Derived.BigQuiet
import Derived.BigRegion
namespace Go.Proofs.YtjajlddnhmbekaaGreat
open Go.RowKit
/-- An int64 as a cell. -/
abbrev jV (n : Int) : Value := .int .i64 n

/-- Block g holds a row of int64s, of the call's own. -/
def RowI (w : World) (g n c : Nat) (xs : List Int) : Prop := w.ownsRow 0 2 1 (.slice (some ⟨g, 0, none⟩) n c) n (xs.map jV)
section
variable {w w' : World} {g n c i j : Nat} {x y : Int} {xs : List Int}
theorem RowI.lt (h : RowI w g n c xs) : g < w.heap.size := (World.ownsRow.lt h g rfl).2
theorem RowI.len (h : RowI w g n c xs) : xs.length = n := by
  have := h.1
  simpa using this
theorem RowI.at (h : RowI w g n c xs) (hx : xs[i]? = some x) : w.cell? ⟨g, i, none⟩ = some (jV x) := by
  have := World.ownsRow.cellAt h i (by rw [Nat.mul_one, ← h.len]; exact lt_of_get hx)
  rw [List.getElem?_map, hx, Option.map_some] at this
  exact this
theorem RowI.free (h : RowI w g n c xs) (i : Nat) : w.frozen? ⟨g, i, none⟩ = false := World.ownsRow.frozenAt h i
theorem RowI.put (h : RowI w g n c xs) (i : Nat) (x : Int) : RowI (w.setCell ⟨g, i, none⟩ (jV x)) g n c (xs.set i x) := by
  unfold RowI
  rw [List.map_set]
  exact (World.ownsRow.stored (w := w) h i (jV x)).1
theorem RowI.drewN (h : RowI w g n c xs) (k : Nat) : RowI (w.drewN k) g n c xs := h
theorem RowI.drew (h : RowI w g n c xs) : RowI w.drew g n c xs := h
theorem RowI.swapped (h : RowI w g n c xs) (hx : xs[i]? = some x) (hy : xs[j]? = some y) : RowI ((w.setCell ⟨g, i, none⟩ (jV y)).setCell ⟨g, j, none⟩ (jV x)) g n c (swp xs i j) := by
  unfold swp
  rw [hx, hy]
  exact (h.put i y).put j x
theorem touch_swap (w : World) (g i j : Nat) (u v : Value) : Touch g (g + 1) w ((w.setCell ⟨g, i, none⟩ u).setCell ⟨g, j, none⟩ v) :=
  (Touch.setCell w ⟨g, i, none⟩ u).trans (Touch.setCell _ ⟨g, j, none⟩ v)
theorem touch_drewN {lo hi : Nat} {a w : World} (h : Touch lo hi a w) (k : Nat) : Touch lo hi a (w.drewN k) := ⟨h.os, h.tape, h.output, h.size, h.block⟩
theorem touch_refl (lo hi : Nat) (w : World) : Touch lo hi w w := ⟨rfl, rfl, rfl, Nat.le_refl _, fun _ _ _ => rfl⟩
end
/-- What a call that turns the row alone ends in. -/
def RowTo (g n c : Nat) (ys : List Int) (w : World) (e : Ending) (w' : World) : Prop := e = .returned (.tuple #[]) ∧ RowI w' g n c ys ∧ Touch g (g + 1) w w'

set_option maxHeartbeats 800000 in
theorem swapRange_any (K : Value) (g n c a b m : Nat) (xs : List Int) (hab : a + m ≤ b) (hb : b + m ≤ n) (hn : n ≤ 1000000) (w : World) (hr : RowI w g n c xs) :
    Calls Tryz.prog 106 #[.slice (some ⟨g, 0, none⟩) n c, .int .i64 a, .int .i64 b, .int .i64 m, K] w (RowTo g n c (swpR xs a b m) w) := by
  have HL := Lib.hid hr.len
  go_enter Tryz.func106, Tryz.ntmps106
  go_wp2
  go_loopw [10] (fun si wr => ∃ k : Nat, k ≤ m ∧ si = .int .i64 k ∧ RowI wr g n c (swpR xs a b k) ∧ Touch g (g + 1) w wr) (fun si _ => m - (intOf si).toNat)
  case atStart => exact ⟨0, by omega, rfl, hr, touch_refl _ _ _⟩
  case round =>
    obtain ⟨k, hk, rfl, hR, hT⟩ := hrel
    clear hr
    by_cases hlt : k < m
    · have hl : (swpR xs a b k).length = n := hR.len
      obtain ⟨x, hx⟩ := get_of_lt (xs := swpR xs a b k) (k := a + k) (by omega)
      obtain ⟨y, hy⟩ := get_of_lt (xs := swpR xs a b k) (k := b + k) (by omega)
      have c1 := hR.at hx
      have c2 := hR.at hy
      have f1 := hR.free (a + k)
      have f2 := hR.free (b + k)
      have hp0 : (0 : Int) ≤ (a : Int) + (k : Int) := by omega
      have hp1 : (a : Int) + (k : Int) < (n : Int) := by omega
      have hq0 : (0 : Int) ≤ (b : Int) + (k : Int) := by omega
      have hq1 : (b : Int) + (k : Int) < (n : Int) := by omega
      have c3 : (wr.setCell ⟨g, a + k, none⟩ (jV y)).cell? ⟨g, b + k, none⟩ = some (jV y) := by
        rw [World.cell?_setCell_other _ _ _ _ (by intro e; simp only [Addr.mk.injEq] at e; omega)]; exact c2
      have HS := Lib.hid (hR.swapped hx hy)
      have ea : ((a : Int) + (k : Int)).toNat = a + k := by omega
      have eb : ((b : Int) + (k : Int)).toNat = b + k := by omega
      have wa : IntKind.i64.wrap ((a : Int) + (k : Int)) = (a : Int) + (k : Int) := IntWalk.i64_in _ (by omega)
      have wb : IntKind.i64.wrap ((b : Int) + (k : Int)) = (b : Int) + (k : Int) := IntWalk.i64_in _ (by omega)
      clear hx hy hl hR
      go_wp2
      go_region
      go_wp2
      go_roundw
      case rel => exact ⟨k + 1, by omega, by go_num, HS.out.drew, touch_drewN (hT.trans (touch_swap _ _ _ _ _ _)) 1⟩
      case measure => simp [intOf]; omega
    · have hke : k = m := by omega
      have HKE := Lib.hid hke
      clear hke
      go_wp2
      go_end0
      refine ⟨rfl, ?_, hT⟩
      rw [← HKE.out]
      exact hR
theorem swapRange_at (K : Value) (g n c a b m : Nat) (xs : List Int) (A B M : Int) (hA : A = (a : Int)) (hB : B = (b : Int)) (hM : M = (m : Int)) (hab : a + m ≤ b) (hb : b + m ≤ n) (hn : n ≤ 1000000) (w : World) (hr : RowI w g n c xs) :
    Calls Tryz.prog 106 #[.slice (some ⟨g, 0, none⟩) n c, .int .i64 A, .int .i64 B, .int .i64 M, K] w (RowTo g n c (swpR xs a b m) w) := by
  subst hA hB hM
  exact swapRange_any K g n c a b m xs hab hb hn w hr

set_option maxHeartbeats 1600000 in
theorem rotate_any (K : Value) (g n c a m b : Nat) (P U V S : List Int) (ha : P.length = a) (hU : a + U.length = m) (hV : m + V.length = b) (hU1 : 1 ≤ U.length) (hV1 : 1 ≤ V.length) (hn : n ≤ 1000000) (w : World) (hr : RowI w g n c (P ++ (U ++ (V ++ S)))) :
    Calls Tryz.prog 100 #[.slice (some ⟨g, 0, none⟩) n c, .int .i64 a, .int .i64 m, .int .i64 b, K] w (RowTo g n c (P ++ (V ++ (U ++ S))) w) := by
  obtain ⟨T, hT⟩ : ∃ T, T = P ++ (V ++ (U ++ S)) := ⟨_, rfl⟩
  rw [← hT]
  have hl := hr.len
  simp only [List.length_append] at hl
  have hbn : b ≤ n := by omega
  have HT := Lib.hid hT
  have hi0 : (m : Int) - (a : Int) = ((U.length : Nat) : Int) := by omega
  have hj0 : (b : Int) - (m : Int) = ((V.length : Nat) : Int) := by omega
  have HI0 := Lib.hid hi0
  have HJ0 := Lib.hid hj0
  have HA := Lib.hid ha
  have HU := Lib.hid hU
  have HV := Lib.hid hV
  have HLN := Lib.hid hl
  have hmb : m ≤ 1000000 := by omega
  have ham : a ≤ m := by omega
  clear hT hi0 hj0 ha hU hV hl
  go_enter Tryz.func100, Tryz.ntmps100
  go_wp2
  go_loopw [10, 11] (fun si sj wr => ∃ (P' U' V' S' : List Int) (i j : Nat), si = .int .i64 i ∧ sj = .int .i64 j ∧ 1 ≤ i ∧ 1 ≤ j ∧ i ≤ m ∧ m + j ≤ n ∧ Hid (U'.length = i ∧ V'.length = j ∧ P'.length + i = m ∧ P' ++ (V' ++ (U' ++ S')) = T) ∧ RowI wr g n c (P' ++ (U' ++ (V' ++ S'))) ∧ Touch g (g + 1) w wr) (fun si sj _ => (intOf si).toNat + (intOf sj).toNat)
  case atStart =>
    exact ⟨P, U, V, S, U.length, V.length, by rw [HI0.out], by rw [HJ0.out], hU1, hV1, by have := HU.out; omega, by have := HV.out; omega, ⟨rfl, rfl, by have := HU.out; have := HA.out; omega, HT.out.symm⟩, hr, touch_refl _ _ _⟩
  case round =>
    obtain ⟨P', U', V', S', i, j, rfl, rfl, hi, hj, him, hjn, HH, hR, hTo⟩ := hrel
    clear hr
    have HR := Lib.hid hR
    clear hR
    have wmi : IntKind.i64.wrap ((m : Int) - (i : Int)) = (m : Int) - (i : Int) := IntWalk.i64_in _ (by omega)
    by_cases hij : i = j
    · subst hij
      go_wp2_with fail
      obtain ⟨h1, h2, h3, h4⟩ := HH.out
      refine (swapRange_at _ g n c (m - i) m i _ _ _ _ (by omega) (by omega) (by omega) (by omega) (by omega) hn _ HR.out).mono ?_
      rintro e w' ⟨rfl, hR', hT'⟩
      go_wp2
      go_end0
      refine ⟨rfl, ?_, hTo.trans hT'⟩
      have h := swpR_all P' U' [] V' S' (a := m - i) (b := m) (n := i) (by omega) h1 h2 (by simp; omega)
      simp only [List.nil_append] at h
      rw [h, h4] at hR'
      exact hR'
    · have hne : (i : Int) ≠ (j : Int) := by omega
      by_cases hlt : j < i
      · have hltz : (j : Int) < (i : Int) := by omega
        go_wp2_with fail
        refine (swapRange_at _ g n c (m - i) m j _ _ _ _ (by omega) (by omega) (by omega) (by omega) (by omega) hn _ HR.out).mono ?_
        rintro e w' ⟨rfl, hR', hT'⟩
        have HN : Hid ((U'.drop j).length = i - j ∧ (U'.take j).length = j ∧ (P' ++ V').length + (i - j) = m ∧ (P' ++ V') ++ (U'.take j ++ (U'.drop j ++ S')) = T) ∧ Hid (RowI w' g n c ((P' ++ V') ++ (U'.drop j ++ (U'.take j ++ S')))) := by
          obtain ⟨h1, h2, h3, h4⟩ := HH.out
          have e1 : U' = U'.take j ++ U'.drop j := (List.take_append_drop j U').symm
          have h := swpR_all P' (U'.take j) (U'.drop j) V' S' (a := m - i) (b := m) (n := j) (by omega) (by simp; omega) h2 (by simp; omega)
          refine ⟨⟨by simp; omega, by simp; omega, by simp; omega, ?_⟩, ?_⟩
          · rw [← h4, List.append_assoc]
            congr 2
            rw [← List.append_assoc, ← e1]
          · have e2 : P' ++ (U' ++ (V' ++ S')) = P' ++ (U'.take j ++ (U'.drop j ++ (V' ++ S'))) := by
              congr 1
              rw [← List.append_assoc (U'.take j), ← e1]
            rw [e2, h] at hR'
            rw [List.append_assoc]
            exact hR'
        clear hR' HH HR
        go_wp2
        go_roundw
        case rel => exact ⟨_, _, _, _, i - j, j, by go_num, rfl, by omega, hj, by omega, hjn, HN.1, HN.2.out, hTo.trans hT'⟩
        case measure => simp [intOf]; omega
      · have hltz : (i : Int) < (j : Int) := by omega
        have wmj : IntKind.i64.wrap ((m : Int) + (j : Int)) = (m : Int) + (j : Int) := IntWalk.i64_in _ (by omega)
        go_wp2_with fail
        refine (swapRange_at _ g n c (m - i) (m + j - i) i _ _ _ _ (by omega) (by omega) (by omega) (by omega) (by omega) hn _ HR.out).mono ?_
        rintro e w' ⟨rfl, hR', hT'⟩
        have HN : Hid ((V'.drop (j - i)).length = i ∧ (V'.take (j - i)).length = j - i ∧ P'.length + i = m ∧ P' ++ (V'.take (j - i) ++ (V'.drop (j - i) ++ (U' ++ S'))) = T) ∧ Hid (RowI w' g n c (P' ++ (V'.drop (j - i) ++ (V'.take (j - i) ++ (U' ++ S'))))) := by
          obtain ⟨h1, h2, h3, h4⟩ := HH.out
          have e1 : V' = V'.take (j - i) ++ V'.drop (j - i) := (List.take_append_drop (j - i) V').symm
          have h := swpR_all P' U' (V'.take (j - i)) (V'.drop (j - i)) S' (a := m - i) (b := m + j - i) (n := i) (by omega) h1 (by simp; omega) (by simp; omega)
          refine ⟨⟨by simp; omega, by simp; omega, h3, ?_⟩, ?_⟩
          · rw [← h4]
            congr 1
            rw [← List.append_assoc, ← e1]
          · have e2 : P' ++ (U' ++ (V' ++ S')) = P' ++ (U' ++ (V'.take (j - i) ++ (V'.drop (j - i) ++ S'))) := by
              congr 2
              rw [← List.append_assoc (V'.take (j - i)), ← e1]
            rw [e2, h] at hR'
            exact hR'
        clear hR' HH HR
        go_wp2
        go_roundw
        case rel => exact ⟨_, _, _, _, i, j - i, rfl, by go_num, hi, by omega, him, by omega, HN.1, HN.2.out, hTo.trans hT'⟩
        case measure => simp [intOf]; omega
end Go.Proofs.YtjajlddnhmbekaaGreat
