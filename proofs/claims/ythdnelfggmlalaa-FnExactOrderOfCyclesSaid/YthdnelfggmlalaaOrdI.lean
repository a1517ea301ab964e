/-
  The walks of impl.IsOrder and impl.OrderOfCycles.
-/
import Derived.Test.YthdnelfggmlalaaOrdE
import Derived.Test.YthdnelfggmlalaaLayM
import Derived.Test.YthdnelfggmlalaaSortP
import Derived.Lib.OwnBridge
import Derived.Shelf.SortM.Plain
namespace Go.Proofs.Ythdnelfggmlalaa
open Go.RowKit Go.Shelf

set_option maxRecDepth 100000 in
theorem sortM_none (A : Option Addr) (c : Nat) (w : World) :
    Calls Try.prog 82 #[.slice A 0 c] w fun e w' => e = .returned (.tuple #[]) ∧ Below w.heap.size w w' := by
  go_enter Try.func82, Try.ntmps82
  go_wp2_with go_in
  refine wp_loop_rounds 1 ?_
  rw [rounds_succ]
  go_wp2_with go_in
  refine wp_loop_rounds 1 ?_
  rw [rounds_succ]
  go_wp2_with go_in
  go_end0
  go_wp2
  refine bodyPost_ret (results_none rfl _ _ _) rfl ?_
  go_wp2
  go_end0
  exact ⟨rfl, below_of_drew ⟨0, rfl⟩⟩

theorem sortM_any (xs : List Int) (h1 : 1 ≤ xs.length) (hn : xs.length ≤ 4000000) (w : World) (base : Nat) (hbw : base ≤ w.heap.size) (v : Value) (ho : Own iV 2 w base v xs) :
    Calls Try.prog 82 #[v] w fun e w' => e = .returned (.tuple #[]) ∧ Own iV 2 w' base v (srt xs) ∧ Below base w w' := by
  obtain ⟨g, c, rfl, hcc, hg1, hg2⟩ := ho.form (by omega)
  obtain ⟨g', c', e, -, -, -, hmx, -, hH⟩ := Lib.holds_of_ownsRow (enc := iV) ho (by simp)
  cases e
  have hs := AnyM.slices_Sort_int sortM g 0 c xs w hH hg2 (by omega)
  change Calls Try.prog 82 _ _ _ at hs
  refine hs.mono ?_
  rintro e w3 ⟨rfl, q, os, hw3⟩
  have hrow := Lib.ownsRow_putRow (enc := iV) (q := q) (k := xs.length) (ys := srt xs) ho (by rw [srt_len]) (Nat.le_refl _)
  rw [List.take_of_length_le (by rw [srt_len]; exact Nat.le_refl _)] at hrow
  have hb : Below (Go.Sort.putRow iV (Go.Sort.ahead w q) g 0 (srt xs).toArray).heap.size (Go.Sort.putRow iV (Go.Sort.ahead w q) g 0 (srt xs).toArray) w3 := by
    rw [hw3]
    exact ⟨rfl, rfl, rfl, by rw [Go.Sort.size_grow]; exact Nat.le_add_right _ _, fun k hk => Go.Sort.heap_grow_old _ _ hk⟩
  refine ⟨rfl, ?_, ?_⟩
  · unfold Own
    rw [srt_len]
    exact own_below hrow hb
  · rw [hw3]
    exact (touch_sortWorld (enc := iV) (w := w) (blk := g) (off := 0) (m := q) (dk := (srt xs).toArray) (os := os)).below hg1 hbw

set_option maxRecDepth 100000 in
set_option maxHeartbeats 1000000 in
theorem isOrder_any (v : Value) (xs : List Int) (hn : xs.length ≤ 4000000) (w : World) (hr : Rd iV w v xs) :
    Calls Try.prog 52 #[v] w fun e w' => e = .returned (.bool (isOrd xs)) ∧ Below w.heap.size w w' := by
  have HR := Lib.hid hr
  obtain ⟨A, cap, rfl, hcap, hA⟩ := hr
  clear hA
  by_cases h0 : xs.length = 0
  · have hx : xs = [] := List.length_eq_zero_iff.1 h0
    subst hx
    clear h0
    go_enter Try.func52, Try.ntmps52
    go_wp2_with fail
    refine (cloneI_any _ [] (by simp) w HR.out).mono ?_
    rintro e w1 ⟨v1, rfl, ho, hb⟩
    obtain ⟨A1, c1, rfl, -, -⟩ := ho.rd
    go_wp2_with fail
    refine (sortM_none A1 c1 w1).mono ?_
    rintro e w2 ⟨rfl, hb2⟩
    go_wp2_with fail
    refine (size1_any 0 w2).mono ?_
    rintro e w' ⟨rfl, rfl⟩
    rw [show inB 0 1 64 = false by decide]
    go_wp2
    go_ret
    exact ⟨ret_bool (by decide), below_to hb hb2 hb.size⟩
  have h1 : 1 ≤ xs.length := by omega
  clear h0
  have hL : IntKind.i64.wrap ((xs.length : Int) - 1) = (xs.length : Int) - 1 := IntWalk.i64_in _ (by omega)
  go_enter Try.func52, Try.ntmps52
  go_wp2_with fail
  refine (cloneI_any _ xs (by omega) w HR.out).mono ?_
  rintro e w1 ⟨v1, rfl, ho, hb⟩
  have HO := Lib.hid ho
  clear ho
  go_wp2_with fail
  refine (sortM_any xs h1 hn w1 w.heap.size hb.size v1 HO.out).mono ?_
  rintro e w2 ⟨rfl, ho2, hb2⟩
  have hb2' := hb.trans hb2
  have HO2 := Lib.hid ho2
  clear ho2
  go_wp2_with fail
  refine (size1_any xs.length w2).mono ?_
  rintro e w' ⟨rfl, rfl⟩
  cases hs : inB (xs.length : Int) 1 64
  · go_wp2
    go_ret
    exact ⟨ret_bool (by unfold isOrd; rw [hs]; rfl), hb2'⟩
  · have HS := Lib.hid hs
    go_wp2_with fail
    refine (numbersI_any xs.length (by omega) _ rfl w2).mono ?_
    rintro e w3 ⟨v3, rfl, ho3, hb3⟩
    have HO3 := Lib.hid ho3
    clear ho3
    go_wp2_with fail
    refine (slicesEqual_any _ _ (srt xs) (numI xs.length) (by rw [srt_len]; omega) (by rw [numI_len]; omega) w3 (HO2.out.rd.below hb3) HO3.out.rd).mono ?_
    rintro e w4 ⟨rfl, q, rfl⟩
    go_wp2
    go_ret
    exact ⟨ret_bool (by rw [isOrd_srt, HS.out]; rfl), below_drewN_ (below_to hb2' hb3 hb2'.size)⟩
end Go.Proofs.Ythdnelfggmlalaa
