/-
  spec.l06Sums: the sums of a table's rows and columns.
-/
import Derived.Test.YtmhmekfbnaafmaaSums
import Derived.Test.YtmhmekfbnaafmaaFq
namespace Go.Proofs.Ytmhmekfbnaafmaa
open Go.RowKit

theorem row_other {w : World} {b n c m g : Nat} {xs : List Value} (h : w.ownsRow b 2 1 (.slice (some ⟨g, 0, none⟩) n c) m xs) {p : Addr} (hp : g ≠ p.block) (u : Value) : (w.setCell p u).ownsRow b 2 1 (.slice (some ⟨g, 0, none⟩) n c) m xs :=
  World.ownsRow.kept h (row := some p.block) ⟨rfl, rfl, rfl, by simp, fun k _ hk => Below.heap_setCell _ _ _ _ (fun e => hk (by rw [e]))⟩ (.inr fun e => by simp [Value.ownBlock] at e; exact hp e)

set_option maxHeartbeats 1600000 in
theorem l06Sums_any (a : Nat) (rn m : Nat) (s : Value) (xs : List Int) (hm : 1 ≤ m) (hm2 : m ≤ 1000) (hrn : rn ≤ 1000) (hn : xs.length = rn * m) (w : World) (ha : TabAt w a rn m s) (hr : Rd iV w s xs) :
    Calls Try.prog 28 #[.pointer (some ⟨a, 0, none⟩)] w fun e w' => ∃ v1 v2, e = .returned (.tuple #[v1, v2]) ∧ Own iV 2 w' w.heap.size v1 (sumsTo rn (· / m) xs xs.length) ∧ Own iV 2 w' w.heap.size v2 (sumsTo m (· % m) xs xs.length) ∧ Below w.heap.size w w' := by
  obtain ⟨A, cap, rfl, hcap, hA⟩ := hr
  have HA := Lib.hid hA
  clear hA
  obtain ⟨la, ca0, ca1, ca2⟩ := ha
  go_enter Try.func28, Try.ntmps28
  go_wp2_with (at_make; go_loud (refine elI_.make _ rfl _ _ rfl .i64 .i64 _ _ rn rfl rfl rfl rfl (by omega) (by omega) ?_))
  intro w1 hown hb1 hs1
  obtain ⟨B, hB⟩ : ∃ B, B = w.heap.size := ⟨_, rfl⟩
  have HB := Lib.hid hB
  rw [← hB] at hown hb1 hs1 la ⊢
  have d0 := (hb1.cell (p := ⟨a, 0, none⟩) la).trans ca0
  have d1 := (hb1.cell (p := ⟨a, 1, none⟩) la).trans ca1
  have d2 := (hb1.cell (p := ⟨a, 2, none⟩) la).trans ca2
  have CA0 := Lib.hid ca0
  have CA1 := Lib.hid ca1
  have CA2 := Lib.hid ca2
  clear hB ca0 ca1 ca2
  have hz : List.replicate rn (.int .i64 0) = (sumsTo rn (· / m) xs 0).map iV := by rw [sumsTo_zero, List.map_replicate]
  rw [hz] at hown
  clear hz
  have HO1 := Lib.hid hown
  clear hown
  go_wp2_with (at_make; go_loud (refine elI_.make _ rfl _ _ rfl .i64 .i64 _ _ m rfl rfl rfl rfl (by omega) (by omega) ?_))
  intro w2 hown hb2 hs2
  obtain ⟨C, hC⟩ : ∃ C, C = B + 1 := ⟨_, rfl⟩
  have HC := Lib.hid hC
  have hs1' : w1.heap.size = C := by rw [hs1, hC]
  simp only [hs1', ← hC] at hown hb2 hs2 ⊢
  have hz : List.replicate m (.int .i64 0) = (sumsTo m (· % m) xs 0).map iV := by rw [sumsTo_zero, List.map_replicate]
  rw [hz] at hown
  clear hz hs1 hC
  have ho1 : w2.ownsRow B 2 1 (.slice (some ⟨B, 0, none⟩) rn rn) rn ((sumsTo rn (· / m) xs 0).map iV) := own_below HO1.out (by rw [hs1']; exact hb2)
  have ho2 : w2.ownsRow B 2 1 (.slice (some ⟨C, 0, none⟩) m m) m ((sumsTo m (· % m) xs 0).map iV) := own_base hown (by rw [HC.out]; omega)
  have hT : Below B w w2 := hb1.trans (hb2.mono (by rw [HC.out]; omega))
  clear hown hb1 hb2 HO1
  have hlen : xs.length ≤ 1000000 := by rw [hn]; exact Nat.le_trans (Nat.mul_le_mul hrn hm2) (by decide)
  have hmul : (rn : Int) * (m : Int) = (xs.length : Int) := by rw [hn]; push_cast; rfl
  have HN := Lib.hid hn
  clear hn
  have e0 : IntKind.i64.wrap ((rn : Int) * (m : Int)) = (xs.length : Int) := by rw [hmul]; exact IntWalk.i64_in _ (by omega)
  clear hmul
  go_wp2
  go_loopw [6] (fun si wr => ∃ k : Nat, k ≤ xs.length ∧ si = .int .i64 k ∧ wr.ownsRow B 2 1 (.slice (some ⟨B, 0, none⟩) rn rn) rn ((sumsTo rn (· / m) xs k).map iV) ∧ wr.ownsRow B 2 1 (.slice (some ⟨C, 0, none⟩) m m) m ((sumsTo m (· % m) xs k).map iV) ∧ Below B w wr)
    (fun si _ => xs.length - (intOf si).toNat)
  case atStart => exact ⟨0, by omega, rfl, ho1, ho2, hT⟩
  case round =>
    obtain ⟨k, hk, rfl, hr1, hr2, hW⟩ := hrel
    clear ho1 ho2 hT
    have c0 := (hW.cell (p := ⟨a, 0, none⟩) la).trans CA0.out
    have c1 := (hW.cell (p := ⟨a, 1, none⟩) la).trans CA1.out
    have c2 := (hW.cell (p := ⟨a, 2, none⟩) la).trans CA2.out
    by_cases hlt : k < xs.length
    · obtain ⟨x, hx⟩ := get_of_lt hlt
      obtain ⟨ad, rfl, hbl, hc⟩ := HA.out k x hx
      have hadB : (ad.add k).block < B := by rw [HB.out]; unfold Addr.add; split <;> simpa using hbl
      have hk0 : (0 : Int) ≤ (k : Int) := by omega
      have hk1 : (k : Int) < (xs.length : Int) := by omega
      have hm0 : (m : Int) ≠ 0 := by omega
      have hdiv : Int.tdiv (k : Int) (m : Int) = ((k / m : Nat) : Int) := by rw [Int.tdiv_eq_ediv_of_nonneg (by omega)]; exact (Int.natCast_ediv k m).symm
      have hmod : Int.tmod (k : Int) (m : Int) = ((k % m : Nat) : Int) := by rw [Int.tmod_eq_emod_of_nonneg (by omega)]; exact (Int.natCast_emod k m).symm
      have hld : k / m < rn := by rw [Nat.div_lt_iff_lt_mul (by omega)]; rw [← HN.out]; exact hlt
      have hlm : k % m < m := Nat.mod_lt _ (by omega)
      have hwd : IntKind.i64.wrap ((k : Int) / (m : Int)) = ((k / m : Nat) : Int) := by rw [← Int.natCast_ediv]; have hq := Nat.div_le_self k m; generalize k / m = q at *; exact IntWalk.i64_in _ (by omega)
      have hd0 : (0 : Int) ≤ ((k / m : Nat) : Int) := Int.natCast_nonneg _
      have hd1 : ((k / m : Nat) : Int) < (rn : Int) := Int.ofNat_lt.2 hld
      have hi0 : (0 : Int) ≤ ((k % m : Nat) : Int) := Int.natCast_nonneg _
      have hi1 : ((k % m : Nat) : Int) < (m : Int) := Int.ofNat_lt.2 hlm
      obtain ⟨y, hy, hadd⟩ := sumsTo_at (n := rn) (· / m) xs k hld
      obtain ⟨z, hzz, hadd2⟩ := sumsTo_at (n := m) (· % m) xs k hlm
      have HE1 := Lib.hid (show sumsTo rn (· / m) xs (k + 1) = (sumsTo rn (· / m) xs k).set (k / m) (wrap64 (y + x)) by rw [sumsTo_succ hx, hadd])
      have HE2 := Lib.hid (show sumsTo m (· % m) xs (k + 1) = (sumsTo m (· % m) xs k).set (k % m) (wrap64 (z + x)) by rw [sumsTo_succ hx, hadd2])
      have o1 := hr1.cellAt (k / m) (by simp [sumsTo_len]; exact hld)
      rw [List.getElem?_map, hy, Option.map_some] at o1
      have O2 := Lib.hid (show ((sumsTo m (· % m) xs k).map iV)[k % m]? = some (iV z) by rw [List.getElem?_map, hzz, Option.map_some])
      have f1 := hr1.frozenAt (k / m)
      have hcw : wr.cell? (ad.add k) = some (iV x) := (hW.cell (p := ad.add k) hadB).trans hc
      have HCW := Lib.hid hc
      have R1 := Lib.hid hr1
      have R2 := Lib.hid hr2
      clear hx hy hzz hadd hadd2 hc hr1 hr2
      generalize k / m = j at *
      generalize k % m = i at *
      go_wp2
      go_quiet (fail)
      generalize hws : wr.drewN nq = ws
      have c0' : ws.cell? ⟨a, 0, none⟩ = _ := (congrArg (fun z => World.cell? z _) hws).symm.trans c0
      have c1' : ws.cell? ⟨a, 1, none⟩ = _ := (congrArg (fun z => World.cell? z _) hws).symm.trans c1
      have c2' : ws.cell? ⟨a, 2, none⟩ = _ := (congrArg (fun z => World.cell? z _) hws).symm.trans c2
      have hcw' : ws.cell? (ad.add k) = _ := (congrArg (fun z => World.cell? z _) hws).symm.trans hcw
      have o1' : ws.cell? ⟨B, j, none⟩ = _ := (congrArg (fun z => World.cell? z _) hws).symm.trans o1
      have f1' : ws.frozen? ⟨B, j, none⟩ = false := by rw [← hws]; exact f1
      have S1 : Hid (ws.ownsRow B 2 1 (.slice (some ⟨B, 0, none⟩) rn rn) rn ((sumsTo rn (· / m) xs k).map iV)) := by rw [← hws]; exact World.ownsRow.drewN' R1.out _
      have S2 : Hid (ws.ownsRow B 2 1 (.slice (some ⟨C, 0, none⟩) m m) m ((sumsTo m (· % m) xs k).map iV)) := by rw [← hws]; exact World.ownsRow.drewN' R2.out _
      have hW1 : Below B w ws := by rw [← hws]; exact below_drewN_ hW
      clear hws c0 c1 c2 hcw o1 f1 R1 R2 hW
      go_wp2
      refine wp_region_fq 18 (fun _ _ _ => True) (by kernel_rfl) (by kernel_rfl) ?_
      simp only [List.take, List.drop]
      repeat (first | (refine wpFq_one (by rfl) ?_; go_big_quiet_step (fail); refine wpQuiet_nil ?_) | (refine wpFq_nilc (by rfl) _ rfl _ (by rfl) ?_; simp only [Act.put, List.setIfInBounds_toArray, List.set_cons_zero, List.set_cons_succ]) | (refine wpFq_fl (by rfl) _ _ _ _ _ rfl (by rfl) _ _ _ (by rfl) (by rfl) ?_; intro fb hfb; simp only [Act.put, List.setIfInBounds_toArray, List.set_cons_zero, List.set_cons_succ]) | (refine wpFq_up (by rfl) _ _ _ rfl (by kernel_rfl) (by kernel_rfl) _ (by rfl) ?_; intro fb hfb; simp only [Act.put, List.setIfInBounds_toArray, List.set_cons_zero, List.set_cons_succ]))
      refine wpFq_nil ?_
      intro nq
      go_wp2
      have hst := ((World.ownsRow.drewN' S1.out nq).stored j (iV (wrap64 (y + x)))).1
      rw [← List.map_set, ← HE1.out] at hst
      have hst2 := row_other (World.ownsRow.drewN' S2.out nq) (p := ⟨B, j, none⟩) (by show C ≠ B; rw [HC.out]; omega) (iV (wrap64 (y + x)))
      have hW2 : Below B w ((ws.drewN nq).setCell ⟨B, j, none⟩ (iV (wrap64 (y + x)))) := (below_drewN_ hW1).setCell (p := ⟨B, j, none⟩) (Nat.le_refl _) _
      obtain ⟨W6, hW6⟩ : ∃ W6, W6 = (ws.drewN nq).setCell ⟨B, j, none⟩ (iV (wrap64 (y + x))) := ⟨_, rfl⟩
      rw [← hW6] at hst hst2 hW2 ⊢
      clear hW6 c0' c1' c2' hcw' o1' f1' S1 S2 hW1
      have c0 := (hW2.cell (p := ⟨a, 0, none⟩) la).trans CA0.out
      have c1 := (hW2.cell (p := ⟨a, 1, none⟩) la).trans CA1.out
      have c2 := (hW2.cell (p := ⟨a, 2, none⟩) la).trans CA2.out
      have hcw : W6.cell? (ad.add k) = some (iV x) := (hW2.cell (p := ad.add k) hadB).trans HCW.out
      have o2 := hst2.cellAt i (by simp [sumsTo_len]; exact hlm)
      rw [O2.out] at o2
      have f2 := hst2.frozenAt i
      have T1 := Lib.hid hst
      have T2 := Lib.hid hst2
      clear hst hst2
      refine wp_region_fq 18 (fun _ _ _ => True) (by kernel_rfl) (by kernel_rfl) ?_
      simp only [List.take, List.drop]
      repeat (first | (refine wpFq_one (by rfl) ?_; go_big_quiet_step (fail); refine wpQuiet_nil ?_) | (refine wpFq_nilc (by rfl) _ rfl _ (by rfl) ?_; simp only [Act.put, List.setIfInBounds_toArray, List.set_cons_zero, List.set_cons_succ]) | (refine wpFq_fl (by rfl) _ _ _ _ _ rfl (by rfl) _ _ _ (by rfl) (by rfl) ?_; intro fb hfb; simp only [Act.put, List.setIfInBounds_toArray, List.set_cons_zero, List.set_cons_succ]) | (refine wpFq_up (by rfl) _ _ _ rfl (by kernel_rfl) (by kernel_rfl) _ (by rfl) ?_; intro fb hfb; simp only [Act.put, List.setIfInBounds_toArray, List.set_cons_zero, List.set_cons_succ]))
      refine wpFq_nil ?_
      intro nq
      go_wp2
      go_roundw
      case rel =>
        refine ⟨k + 1, by omega, by go_num, row_other (World.ownsRow.drewN' T1.out _) (p := ⟨C, i, none⟩) (by show B ≠ C; rw [HC.out]; omega) _, ?_, (below_drewN_ hW2).setCell (p := ⟨C, i, none⟩) (by show B ≤ C; rw [HC.out]; omega) _⟩
        have h := ((World.ownsRow.drewN' T2.out nq).stored i (iV (wrap64 (z + x)))).1
        rw [← List.map_set, ← HE2.out] at h
        exact h
      case measure => simp [intOf]; omega
    · have hke : k = xs.length := by omega
      subst hke
      go_wp2
      go_quiet (fail)
      go_wp2
      go_ret2
      refine ⟨_, _, rfl, ?_, ?_, by rw [← HB.out]; exact below_drewN_ hW⟩
      · unfold Own
        rw [sumsTo_len]
        exact own_base (World.ownsRow.drewN' hr1 _) (by rw [HB.out]; exact Nat.le_refl _)
      · unfold Own
        rw [sumsTo_len]
        exact own_base (World.ownsRow.drewN' hr2 _) (by rw [HB.out]; exact Nat.le_refl _)
end Go.Proofs.Ytmhmekfbnaafmaa
