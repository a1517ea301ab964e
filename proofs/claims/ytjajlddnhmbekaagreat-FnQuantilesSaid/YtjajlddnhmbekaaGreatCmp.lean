/-
  The walks of cmp.Compare at float32, of the comparing function of impl.gather, and of impl.numbersFrom.
-/
import Derived.Test.YtjajlddnhmbekaaGreatKey
import Derived.Test.YtjajlddnhmbekaaGreatStable2
import Derived.Test.YtjajlddnhmbekaaGreatSl
import Derived.Test.YtjajlddnhmbekaaGreatShRet
import Derived.Deep.RegionWith
namespace Go.Proofs.YtjajlddnhmbekaaGreat
open Go.RowKit
attribute [local go_sem] run_fl_add run_fl_sub run_fl_mul run_fl_quo run_up_

theorem isNaNC_any (x : Nat) (hx : finB x = true) (w : World) : Calls Tryz.prog 79 #[fV x] w fun e w' => e = .returned (.bool false) ∧ w = w' := by
  have h := fin_self hx
  have h2 : (FloatKind.f32.format.order x x != some .eq) = false := by rw [h]; rfl
  clear h
  go_enter Tryz.func79, Tryz.ntmps79
  go_wp2
  go_ret
  exact ⟨rfl, rfl⟩
theorem compare_any (x y : Nat) (hx : finB x = true) (hy : finB y = true) (w : World) : Calls Tryz.prog 59 #[fV x, fV y] w fun e w' => e = .returned (.int .i64 (cmpF x y)) ∧ w = w' := by
  have HX := Lib.hid hx
  have HY := Lib.hid hy
  clear hx hy
  have hc : ∃ q, cmpF x y = q := ⟨_, rfl⟩
  obtain ⟨q, hq⟩ := hc
  rw [hq]
  unfold cmpF at hq
  cases h1 : (FloatKind.f32.format.order x y == some .lt)
  · cases h2 : (FloatKind.f32.format.order x y == some .gt)
    all_goals
      rw [h1, h2] at hq
      have HQ := Lib.hid hq
      clear hq
      go_enter Tryz.func59, Tryz.ntmps59
      go_wp2_with (first | (go_at_call_of 79 (fV x); refine (isNaNC_any x HX.out _).mono ?_; rintro e w' ⟨rfl, rfl⟩) | (go_at_call_of 79 (fV y); refine (isNaNC_any y HY.out _).mono ?_; rintro e w' ⟨rfl, rfl⟩))
      go_ret
      exact ⟨ret_int HQ.out, rfl⟩
  · rw [h1] at hq
    have HQ := Lib.hid hq
    clear hq
    go_enter Tryz.func59, Tryz.ntmps59
    go_wp2_with (first | (go_at_call_of 79 (fV x); refine (isNaNC_any x HX.out _).mono ?_; rintro e w' ⟨rfl, rfl⟩) | (go_at_call_of 79 (fV y); refine (isNaNC_any y HY.out _).mono ?_; rintro e w' ⟨rfl, rfl⟩))
    go_ret
    exact ⟨ret_int HQ.out, rfl⟩

/-- The numbers from 0 to n - 1. -/
def numL (n : Nat) : List Int := (List.range n).map fun (i : Nat) => (i : Int)
theorem numL_succ (n : Nat) : numL (n + 1) = numL n ++ [(n : Int)] := by simp [numL, List.range_succ]
theorem numL_len (n : Nat) : (numL n).length = n := by simp [numL]
theorem own_nil_newI (w : World) : Own jV 2 (w.alloc (.cells #[] 2)) w.heap.size (.slice (some ⟨w.heap.size, 0, none⟩) 0 0) [] := own_nil_new jV w _
theorem elJ_ : Elem Tryz.prog 76 2 (.int .i64 0) 8 := ⟨Tryz.underlying76, by kernel_rfl, rfl⟩

theorem numbersFrom_any (n : Nat) (hn : n ≤ 100000) (H : Int) (hH : H = (n : Int) - 1) (w : World) :
    Calls Tryz.prog 56 #[.int .i64 0, .int .i64 H] w fun e w' => ∃ v', e = .returned v' ∧ Own jV 2 w' w.heap.size v' (numL n) ∧ Below w.heap.size w w' := by
  have HH := Lib.hid hH
  clear hH
  go_enter Tryz.func56, Tryz.ntmps56
  go_wp2
  go_loopw [5, 6] (fun so si wr => ∃ k : Nat, k ≤ n ∧ si = .int .i64 k ∧ Own jV 2 wr w.heap.size so (numL k) ∧ Below w.heap.size w wr) (fun _ si _ => n - (intOf si).toNat)
  case atStart => exact ⟨0, by omega, rfl, own_nil_newI _, (Below.refl _ _).alloc (Nat.le_refl _) _⟩
  case round =>
    obtain ⟨k, hk, rfl, hown, hb⟩ := hrel
    by_cases hlt : k < n
    · have hz := hb.size
      have hcl := numL_len k
      have Hcl := Lib.hid hcl
      have hle : (k : Int) ≤ H := by rw [HH.out]; omega
      clear hcl
      go_wp2_with (at_builtin; go_loud (refine elJ_.app (fun _ => rfl) _ rfl _ _ rfl w.heap.size _ (numL k) rfl (Own.alloc hown _) _ _ rfl (rd_one jV _ _ _) (by omega) (by rw [Hcl.out]; simp; omega) (by simp; omega) ?_))
      intro v' w' ho hg hbb hp
      rw [← numL_succ] at ho
      go_wp2
      go_roundw
      case rel => exact ⟨k + 1, by omega, by go_num, ho, (hb.alloc (by simpa using hz) _).trans hbb⟩
      case measure => simp [intOf]; omega
    · have hke : k = n := by omega
      have hle : ¬ (k : Int) ≤ H := by rw [HH.out]; omega
      have HKE := Lib.hid hke
      clear hke
      go_wp2
      go_ret
      exact ⟨_, rfl, by rw [← HKE.out]; exact hown, hb⟩

/-- The word at a place. -/
def atI (xs : List Nat) (i : Int) : Nat := xs[i.toNat]?.getD 0
set_option maxHeartbeats 800000 in
theorem gather1_any (b : Nat) (v : Value) (xs : List Nat) (i j : Int) (hi : 0 ≤ i ∧ i.toNat < xs.length) (hj : 0 ≤ j ∧ j.toNat < xs.length) (_hn : xs.length ≤ 1000000) (hf : xs.all finB = true) (w : World) (hc : w.cell? ⟨b, 0, none⟩ = some v) (hr : Rd fV w v xs) :
    Calls Tryz.prog 58 #[jV i, jV j, .pointer (some ⟨b, 0, none⟩)] w fun e w' => e = .returned (.int .i64 (cmpF (atI xs i) (atI xs j))) ∧ ∃ m, w' = w.drewN m := by
  obtain ⟨k, rfl⟩ : ∃ k : Nat, i = k := ⟨i.toNat, by omega⟩
  obtain ⟨l, rfl⟩ : ∃ l : Nat, j = l := ⟨j.toNat, by omega⟩
  simp only [Int.toNat_natCast] at hi hj
  obtain ⟨x, hx⟩ := get_of_lt hi.2
  obtain ⟨y, hy⟩ := get_of_lt hj.2
  have e1 : atI xs k = x := by unfold atI; rw [Int.toNat_natCast, hx]; rfl
  have e2 : atI xs l = y := by unfold atI; rw [Int.toNat_natCast, hy]; rfl
  rw [e1, e2]
  obtain ⟨A, cap, rfl, hcap, hA⟩ := hr
  obtain ⟨ad, rfl, hbl, c1⟩ := hA k x hx
  obtain ⟨ad', e, hbl', c2⟩ := hA l y hy
  cases e
  have fx := List.all_eq_true.1 hf x (List.mem_of_getElem? hx)
  have fy := List.all_eq_true.1 hf y (List.mem_of_getElem? hy)
  have HC := Lib.hid (fun n => Calls.quiet_of_same (w := w) (n := n) ((compare_any x y fx fy (w.drewN n)).mono fun e w' ⟨h1, h2⟩ => ⟨h1, h2.symm⟩))
  have hk0 : (0 : Int) ≤ (k : Int) := by omega
  have hk1 : (k : Int) < (xs.length : Int) := by omega
  have hl0 : (0 : Int) ≤ (l : Int) := by omega
  have hl1 : (l : Int) < (xs.length : Int) := by omega
  clear hA hx hy e1 e2 fx fy hf hi hj
  go_enter Tryz.func58, Tryz.ntmps58
  go_wp2
  go_quiet (exact HC.out _)
  go_wp2
  go_ret
  exact ⟨rfl, _, rfl⟩
end Go.Proofs.YtjajlddnhmbekaaGreat
