/-
  The walks of spec.l06Choose and impl.choices: both give Pascal's number (each sum wrapped).
-/
import Derived.Test.YtmhmekfbnaafmaaBase
import Derived.Deep.RegionHeld3
import Derived.Deep.AppendLies
namespace Go.Proofs.Ytmhmekfbnaafmaa
open Go.RowKit

theorem info_i64 : (Try.prog.info? 2).map (fun i => (i.zero, i.size, i.bytes)) = some (some (.int .i64 0), 1, 8) := by kernel_rfl

theorem within_any (n lo hi : Int) (w : World) :
    Calls Try.prog 59 #[.int .i64 n, .int .i64 lo, .int .i64 hi] w fun e w' => e = .returned (.bool (inB n lo hi)) ∧ w = w' := by
  go_enter Try.func59, Try.ntmps59
  go_wp2
  all_goals go_ret
  all_goals exact ⟨ret_bool (by unfold inB; simp; omega), rfl⟩

theorem l00In_any (n lo hi : Int) (w : World) :
    Calls Try.prog 57 #[.int .i64 n, .int .i64 lo, .int .i64 hi] w fun e w' => e = .returned (.bool (inB n lo hi)) ∧ w = w' := by
  go_enter Try.func57, Try.ntmps57
  go_wp2
  all_goals go_ret
  all_goals exact ⟨ret_bool (by unfold inB; simp; omega), rfl⟩

theorem el_i64 : Elem Try.prog 22 2 (.int .i64 0) 8 := ⟨Try.underlying22, by kernel_rfl, rfl⟩

set_option maxHeartbeats 400000 in
theorem choices_any (n k : Nat) (hn : n ≤ 1000) (hk : k ≤ n) (w : World) :
    Calls Try.prog 41 #[.int .i64 n, .int .i64 k] w fun e w' => e = .returned (.int .i64 (wC n k)) ∧ Below w.heap.size w w' := by
  go_enter Try.func41, Try.ntmps41
  go_wp2
  go_loopw [5, 10] (fun v si wr => ∃ i : Nat, i ≤ n ∧ si = .int .i64 i ∧ wr.ownsRow w.heap.size 2 1 v (i + 1) (rowI i (i + 1)) ∧ Below w.heap.size w wr)
    (fun _ si _ => n - (intOf si).toNat)
  case atStart => exact ⟨0, by omega, rfl, by simpa [rowI_one] using World.ownsRow_lit (base := w.heap.size) (e := 2) (size := 1) w #[.int .i64 1] 1 (Nat.le_refl _) (by decide) rfl, (Below.refl _ _).alloc (Nat.le_refl _) _⟩
  case round =>
    obtain ⟨i, hi2, rfl, hown3, hb3⟩ := hrel
    obtain ⟨wo, rfl⟩ : ∃ wo : World, wo = wr := ⟨_, rfl⟩
    obtain ⟨g, cap, rfl, hcap, hg, hg2⟩ := own_some hown3 (by omega)
    by_cases hlt : i < n
    · have hso := hb3.size
      go_wp2
      go_loopw [6, 7] (fun v sj wr => ∃ j : Nat, j ≤ i ∧ sj = .int .i64 (j + 1) ∧ wr.ownsRow wo.heap.size 2 1 v (j + 1) (rowI (i + 1) (j + 1)) ∧ Below wo.heap.size wo wr)
        (fun _ sj _ => i + 1 - (intOf sj).toNat)
      case atStart => exact ⟨0, by omega, rfl, by simpa [rowI_one] using World.ownsRow_lit (base := wo.heap.size) (e := 2) (size := 1) wo #[.int .i64 1] 1 (Nat.le_refl _) (by decide) rfl, (Below.refl _ _).alloc (Nat.le_refl _) _⟩
      case round =>
        obtain ⟨j, hj, rfl, hown4, hb4⟩ := hrel
        have hown5 := own_below hown3 hb4
        have hs4 := hb4.size
        by_cases hjl : j < i
        · have c1 := hown5.cellAt (j + 1) (by omega)
          have c2 := hown5.cellAt j (by omega)
          rw [rowI_at (by omega)] at c1 c2
          go_wp2
          have hj0 : (0 : Int) ≤ (j : Int) := by omega
          have hj1 : (j : Int) < (i : Int) + 1 := by omega
          have hj2 : (j : Int) < (i : Int) := by omega
          have hj3 : (0 : Int) ≤ (j : Int) + 1 := by omega
          have e1 : IntKind.i64.wrap (j : Int) = j := IntWalk.i64_in _ (by omega)
          have e2 : ((j : Int) + 1).toNat = j + 1 := by omega
          go_region_held3 (fun w' => w'.cell? ⟨g, j + 1, none⟩ = some (.int .i64 (wC i (j + 1))) ∧ w'.cell? ⟨g, j, none⟩ = some (.int .i64 (wC i j))) (first | go_keep | (go_split_ands; refine ⟨?_, ?_⟩ <;> (rw [hb6.cell (by exact hg2)]; assumption)))
            ((go_loud (refine el_i64.step _ (by rfl) _ _ (by rfl) wo.heap.size _ (j + 1) (rowI (i + 1) (j + 1)) (by rfl) (World.ownsRow.drew (World.ownsRow.alloc hown4 _)) ⟨wr.heap.size, 0, none⟩ 1 1 [.int .i64 (IntKind.i64.wrap (wC i j + wC i (j + 1)))] (by rfl) (by rfl) (new_one _ _ _) (one_one rfl) (by omega) (by omega) (by simp; omega) ?_); intro v' w' hown6 hgr6 hb6))
          rw [IntWalk.i64_left, rowI_snoc] at hown6
          clear e1 e2
          go_wp2
          go_roundw
          case rel => exact ⟨j + 1, by omega, by go_num, hown6, (hb4.alloc hs4 _).drew.trans hb6⟩
          case measure => simp [intOf]; omega
        · obtain rfl : j = i := by omega
          go_wp2_with (at_builtin; go_loud (refine el_i64.append _ rfl _ _ rfl wo.heap.size _ (j + 1) (rowI (j + 1) (j + 1)) rfl (World.ownsRow.alloc hown4 _) ⟨wr.heap.size, 0, none⟩ 1 1 [.int .i64 1] rfl rfl (new_one _ _ _) (one_one rfl) (by omega) (by omega) (by simp; omega) ?_))
          intro v' w' hown6 hgr6 hb6
          rw [rowI_end] at hown6
          go_wp2
          go_roundw
          case rel => exact ⟨j + 1, by omega, by go_num, own_base hown6 hso, below_to hb3 ((hb4.alloc hs4 _).trans hb6) hso⟩
          case measure => simp [intOf]; omega
    · obtain rfl : i = n := by omega
      have c1 := hown3.cellAt k (by omega)
      rw [rowI_at (by omega)] at c1
      go_wp2
      go_ret
      exact ⟨rfl, hb3⟩
end Go.Proofs.Ytmhmekfbnaafmaa
