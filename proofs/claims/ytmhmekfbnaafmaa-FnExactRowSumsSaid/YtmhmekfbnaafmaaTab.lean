/-
  Tables by value: laws.szTable, laws.toTable, laws.eqTable.
-/
import Derived.Test.YtmhmekfbnaafmaaInts
namespace Go.Proofs.Ytmhmekfbnaafmaa
open Go.RowKit

/-- A table as a value. -/
abbrev tabV (r c : Int) (s : Value) : Value := .agg #[.int .i64 r, .int .i64 c, s]

theorem bcell {W w1 : World} (hb : Below W.heap.size W w1) : (∀ b o, b < W.heap.size → w1.cell? ⟨b, o, none⟩ = W.cell? ⟨b, o, none⟩) ∧ (∀ b o, b < W.heap.size → w1.frozen? ⟨b, o, none⟩ = W.frozen? ⟨b, o, none⟩) :=
  ⟨fun b o h => hb.cell (p := ⟨b, o, none⟩) h, fun b o h => hb.frozen (p := ⟨b, o, none⟩) h⟩

theorem Own.ne_lt {α : Type} {f : α → Value} {E : TypeId} {w : World} {base k : Nat} {v : Value} {xs : List α} (h : Own f E w base v xs) (hk : k < base) : v.ownBlock ≠ some k := fun e => by
  have := (Own.lt h k e).1; omega
theorem Own.ne_ge {α : Type} {f : α → Value} {E : TypeId} {w : World} {base k : Nat} {v : Value} {xs : List α} (h : Own f E w base v xs) (hk : w.heap.size ≤ k) : v.ownBlock ≠ some k := fun e => by
  have := (Own.lt h k e).2; omega

theorem szInt64S_any (s : Value) (xs : List Int) (m : Int) (hm0 : 0 ≤ m) (hm : m ≤ 1048576) (w : World) (hr : Rd iV w s xs) (hx : xs.length ≤ 9223372036854775807) :
    Calls Try.prog 26 #[s, .int .i64 m] w fun e w' => e = .returned (.int .i64 (if m < xs.length then -1 else m - xs.length)) ∧ w = w' := by
  obtain ⟨A, cap, rfl, hcap, hA⟩ := hr
  clear hA
  by_cases h : m < xs.length
  · go_enter Try.func26, Try.ntmps26
    go_wp2
    go_ret
    exact ⟨ret_int (by first | rfl | rw [if_pos h]), rfl⟩
  · go_enter Try.func26, Try.ntmps26
    go_wp2
    go_ret
    exact ⟨ret_int (by first | rfl | rw [if_neg h] | (rw [if_neg (by omega)])), rfl⟩

theorem szTable_any (r c : Int) (s : Value) (xs : List Int) (m : Int) (hm0 : 0 ≤ m) (hm : m ≤ 1048576) (w : World) (hr : Rd iV w s xs) (hx : xs.length ≤ 9223372036854775807) :
    Calls Try.prog 8 #[tabV r c s, .int .i64 m] w fun e w' => e = .returned (.int .i64 (if m < xs.length then -1 else m - xs.length)) ∧ Below w.heap.size w w' := by
  have HR := Lib.hid hr
  obtain ⟨A, cap, rfl, hcap, hA⟩ := hr
  clear hA
  by_cases h : m < xs.length
  · go_enter Try.func8, Try.ntmps8
    go_wp2_with fail
    refine (szInt64S_any _ xs m hm0 hm _ (HR.out.below ((Below.refl _ _).alloc (Nat.le_refl _) _)) hx).mono ?_
    rintro e w' ⟨rfl, rfl⟩
    rw [if_pos h]
    go_wp2
    go_ret
    exact ⟨rfl, (Below.refl _ _).alloc (Nat.le_refl _) _⟩
  · go_enter Try.func8, Try.ntmps8
    go_wp2_with fail
    refine (szInt64S_any _ xs m hm0 hm _ (HR.out.below ((Below.refl _ _).alloc (Nat.le_refl _) _)) hx).mono ?_
    rintro e w' ⟨rfl, rfl⟩
    rw [if_neg (by omega)]
    go_wp2
    go_ret
    exact ⟨rfl, (Below.refl _ _).alloc (Nat.le_refl _) _⟩

theorem toTable_any (r c : Int) (s : Value) (xs : List Int) (hn : xs.length ≤ 1099511627776) (w : World) (hr : Rd iV w s xs) :
    Calls Try.prog 10 #[tabV r c s] w fun e w' => ∃ s', e = .returned (tabV r c s') ∧ Own iV 2 w' w.heap.size s' xs ∧ Below w.heap.size w w' := by
  have HR := Lib.hid hr
  obtain ⟨A, cap, rfl, hcap, hA⟩ := hr
  clear hA
  go_enter Try.func10, Try.ntmps10
  go_wp2_with fail
  refine (toInt64S_any _ xs _ (HR.out.below ((((Below.refl _ _).alloc (Nat.le_refl _) _).alloc (by simp) _).alloc (by simp; omega) _)) hn).mono ?_
  rintro e w1 ⟨s', rfl, ho, hb, -⟩
  obtain ⟨hc, hf⟩ := bcell hb
  have hz : w.heap.size + 3 ≤ w1.heap.size := by have := hb.size; simpa using this
  have hB : Below w.heap.size w w1 := ((((Below.refl _ _).alloc (Nat.le_refl _) _).alloc (by simp) _).alloc (by simp; omega) _).trans (hb.mono (by simp; omega))
  have k1 : ∀ o, w1.cell? ⟨w.heap.size + 1, o, none⟩ = (#[Value.int .i64 0, .int .i64 0, .slice none 0 0] : Array Value)[o]? := by
    intro o
    rw [hc _ _ (by simp), World.cell?_alloc_lt _ _ _ (by simp), show w.heap.size + 1 = (w.alloc (Obj.cells #[Value.int .i64 r, Value.int .i64 c, Value.slice A xs.length cap] 24)).heap.size by simp, World.cell?_alloc_new]
  have k2 : ∀ o, w1.cell? ⟨w.heap.size + 2, o, none⟩ = (#[Value.int .i64 r, .int .i64 c, .slice none 0 0] : Array Value)[o]? := by
    intro o
    rw [hc _ _ (by simp), show w.heap.size + 2 = ((w.alloc (Obj.cells #[Value.int .i64 r, Value.int .i64 c, Value.slice A xs.length cap] 24)).alloc (Obj.cells #[Value.int .i64 0, .int .i64 0, .slice none 0 0] 28)).heap.size by simp, World.cell?_alloc_new]
  have q1 : ∀ o, w1.frozen? ⟨w.heap.size + 1, o, none⟩ = false := by
    intro o
    rw [hf _ _ (by simp), World.frozen?_alloc_past _ _ _ (by simp), show w.heap.size + 1 = (w.alloc (Obj.cells #[Value.int .i64 r, Value.int .i64 c, Value.slice A xs.length cap] 24)).heap.size by simp, World.frozen?_alloc_new]
  have q2 : ∀ o, w1.frozen? ⟨w.heap.size + 2, o, none⟩ = false := by
    intro o
    rw [hf _ _ (by simp), show w.heap.size + 2 = ((w.alloc (Obj.cells #[Value.int .i64 r, Value.int .i64 c, Value.slice A xs.length cap] 24)).alloc (Obj.cells #[Value.int .i64 0, .int .i64 0, .slice none 0 0] 28)).heap.size by simp, World.frozen?_alloc_new]
  have HO := Lib.hid ho
  have HBB := Lib.hid hB
  obtain ⟨A', cap', rfl, -, -⟩ := ho.rd
  clear ho hB hb hc hf
  have k10 := k1 0; have k11 := k1 1; have k12 := k1 2; have k20 := k2 0; have k21 := k2 1; have k22 := k2 2
  have q10 := q1 0; have q11 := q1 1; have q12 := q1 2; have q20 := q2 0; have q21 := q2 1; have q22 := q2 2
  simp at k10 k11 k12 k20 k21 k22
  clear k1 k2 q1 q2
  go_wp2
  refine bodyPost_ret (v := tabV r c (.slice A' xs.length cap')) (by simp [results, Try.results10, go_sem, *]) rfl ⟨_, rfl, ?_, ?_⟩
  · have h3 : w.heap.size + 3 = (((w.alloc (Obj.cells #[Value.int .i64 r, Value.int .i64 c, Value.slice A xs.length cap] 24)).alloc (Obj.cells #[Value.int .i64 0, .int .i64 0, .slice none 0 0] 28)).alloc (Obj.cells #[Value.int .i64 r, .int .i64 c, .slice none 0 0] 28)).heap.size := by simp
    have HO' := HO.out
    rw [← h3] at HO'
    exact own_base (ownsRow_setCell_below (ownsRow_setCell_below (ownsRow_setCell_below (ownsRow_setCell_below HO' (by simp) _) (by simp) _) (by simp) _) (by simp) _) (by omega)
  · exact (((HBB.out.setCell (by simp; omega) _).setCell (by simp) _).setCell (by simp) _).setCell (by simp) _

/-- Two tables that read as the same lists. -/
theorem eqTable_any (r c : Int) (s s' : Value) (xs : List Int) (hn : xs.length ≤ 1099511627776) (w : World) (hr : Rd iV w s xs) (hr' : Rd iV w s' xs) :
    Calls Try.prog 13 #[tabV r c s, tabV r c s'] w fun e w' => e = .returned (.bool true) ∧ Below w.heap.size w w' := by
  have HR := Lib.hid hr
  have HR' := Lib.hid hr'
  obtain ⟨A, cap, rfl, hcap, hA⟩ := hr
  obtain ⟨A', cap', rfl, hcap', hA'⟩ := hr'
  clear hA hA'
  go_enter Try.func13, Try.ntmps13
  go_wp2_with fail
  refine (eqInt64S_any _ _ xs xs _ (HR.out.below (((Below.refl _ _).alloc (Nat.le_refl _) _).alloc (by simp) _)) (HR'.out.below (((Below.refl _ _).alloc (Nat.le_refl _) _).alloc (by simp) _)) hn hn rfl).mono ?_
  rintro e w1 ⟨rfl, n, rfl⟩
  go_wp2
  go_ret
  exact ⟨rfl, (((Below.refl _ _).alloc (Nat.le_refl _) _).alloc (by simp) _).trans ((below_of_drew ⟨n, rfl⟩).mono (by simp; omega))⟩

theorem markTable_any (r c : Int) (s : Value) (xs : List Int) (j : Int) (hj0 : 0 ≤ j) (hj : j ≤ 1099511627776) (base : Nat) (w : World) (ho : Own iV 2 w base s xs) (hn : xs.length ≤ 1099511627776) (hbase : base ≤ w.heap.size) :
    Calls Try.prog 14 #[tabV r c s, .int .i64 j] w fun e w' => e = .returned (.int .i64 (j + xs.length)) ∧ ∃ o, (w.alloc o).grownBy w' s.ownBlock := by
  have HO := Lib.hid ho
  obtain ⟨A, cap, rfl, hcap, hA⟩ := ho.rd
  clear hA ho
  go_enter Try.func14, Try.ntmps14
  go_wp2_with fail
  refine (markInt64S_any _ xs j hj0 hj base _ (HO.out.below ((Below.refl _ _).alloc (Nat.le_refl _) _)) hn (by simp; omega)).mono ?_
  rintro e w1 ⟨rfl, -, hg⟩
  have HB := Lib.hid hg
  clear hg
  go_wp2
  go_ret
  exact ⟨rfl, _, HB.out⟩
end Go.Proofs.Ytmhmekfbnaafmaa
