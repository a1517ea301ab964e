/-
  A table is one: spec.l06Total, spec.l06Is, spec.ValidTable, impl.ValidTable.
-/
import Derived.Test.YtmhmekfbnaafmaaSameTab
import Derived.Test.YtmhmekfbnaafmaaSample
import Derived.Test.YtmhmekfbnaafmaaJoin
import Derived.Deep.RegionWith
namespace Go.Proofs.Ytmhmekfbnaafmaa
open Go.RowKit

/-- All counts lie between 0 and 60. -/
def cntB (xs : List Int) : Bool := xs.all fun x => inB x 0 60
def okTab (r c : Int) (xs : List Int) : Bool := inB r 2 4 && inB c 2 4 && decide ((xs.length : Int) = r * c) && cntB xs && inB (sumW xs) 1 60

def totV (xs : List Int) : Value := if cntB xs = true then .tuple #[.int .i64 (sumW xs), .bool (decide (sumW xs ≤ 60))] else .tuple #[.int .i64 0, .bool false]

set_option maxHeartbeats 800000 in
theorem l06Total_any (v : Value) (xs : List Int) (hn : xs.length ≤ 1099511627776) (w : World) (hr : Rd iV w v xs) :
    Calls Try.prog 58 #[v] w fun e w' => e = .returned (totV xs) ∧ w = w' := by
  obtain ⟨A, cap, rfl, hcap, hA⟩ := hr
  have HA := Lib.hid hA
  clear hA
  go_enter Try.func58, Try.ntmps58
  go_wp2
  go_loop [4, 5] (fun st si => ∃ k : Nat, k ≤ xs.length ∧ st = .int .i64 (sumW (xs.take k)) ∧ si = .int .i64 k ∧ Hid (cntB (xs.take k) = true)) (fun st si => xs.length - (intOf si).toNat)
  case atStart => exact ⟨0, by omega, rfl, rfl, rfl⟩
  case round =>
    obtain ⟨k, hk, rfl, rfl, hall⟩ := hrel
    by_cases hlt : k < xs.length
    · obtain ⟨x, hx⟩ := get_of_lt hlt
      obtain ⟨ad, rfl, hbl, hc⟩ := HA.out k x hx
      have HX := Lib.hid hx
      clear hx
      cases hp : inB x 0 60
      · have HP := Lib.hid hp
        go_wp2_with (go_at_call 57; refine (l00In_any _ _ _ _).mono ?_; rintro e w' ⟨rfl, rfl⟩; rw [hp])
        go_ret2
        exact ⟨by unfold totV; rw [if_neg (by unfold cntB; rw [all_false_of HX.out HP.out]; simp)]; rfl, rfl⟩
      · have HP := Lib.hid hp
        go_wp2_with (go_at_call 57; refine (l00In_any _ _ _ _).mono ?_; rintro e w' ⟨rfl, rfl⟩; rw [hp])
        go_round
        case rel => exact ⟨k + 1, by omega, by rw [take_snoc HX.out, sumW_snoc], by go_num, by unfold Hid cntB; rw [take_snoc HX.out, List.all_append]; have := hall.out; unfold cntB at this; rw [this]; simp [HP.out]⟩
        case measure => simp [intOf]; omega
    · have hke : k = xs.length := by omega
      have HK := Lib.hid hke
      clear hke
      have ha : Hid (cntB xs = true) := by
        have := hall.out
        rw [HK.out, List.take_length] at this
        exact this
      go_wp2
      go_ret2
      exact ⟨by unfold totV; rw [if_pos ha.out, HK.out, List.take_length]; rfl, rfl⟩
theorem okTab_f1 {r c : Int} {xs : List Int} (h : inB r 2 4 = false) : okTab r c xs = false := by simp [okTab, h]
theorem okTab_f2 {r c : Int} {xs : List Int} (h : inB c 2 4 = false) : okTab r c xs = false := by simp [okTab, h]
theorem okTab_f3 {r c : Int} {xs : List Int} (h : ¬ (xs.length : Int) = r * c) : okTab r c xs = false := by simp [okTab, h]
theorem okTab_f4 {r c : Int} {xs : List Int} (h : cntB xs = false) : okTab r c xs = false := by simp [okTab, h]
theorem okTab_t {r c : Int} {xs : List Int} (h1 : inB r 2 4 = true) (h2 : inB c 2 4 = true) (h3 : (xs.length : Int) = r * c) (h4 : cntB xs = true) : okTab r c xs = inB (sumW xs) 1 60 := by simp [okTab, h1, h2, h3, h4]
theorem l00In_lit {n lo hi : Int} {b : Bool} (h : inB n lo hi = b) (w : World) (k : Nat) : Calls Try.prog 57 #[.int .i64 n, .int .i64 lo, .int .i64 hi] (w.drewN k) fun e w'' => e = .returned (.bool b) ∧ ∃ m, w'' = w.drewN m := by
  subst h
  exact quiet_mine (l00In_any n lo hi _)
theorem within_lit {n lo hi : Int} {b : Bool} (h : inB n lo hi = b) (w : World) : Calls Try.prog 59 #[.int .i64 n, .int .i64 lo, .int .i64 hi] w fun e w' => e = .returned (.bool b) ∧ w = w' := by
  subst h
  exact within_any n lo hi w
theorem mul_in {r c : Int} (h1 : inB r 2 4 = true) (h2 : inB c 2 4 = true) : 0 ≤ r * c ∧ r * c ≤ 16 := by
  have a := inB_true h1
  have b := inB_true h2
  constructor
  · exact Int.mul_nonneg (by omega) (by omega)
  · exact Int.le_trans (Int.mul_le_mul a.2 b.2 (by omega) (by omega)) (by decide)

set_option maxHeartbeats 1600000 in
theorem l06Is_any (a : Nat) (r c : Int) (s : Value) (xs : List Int) (h1 : xs.length ≤ 1099511627776) (w : World) (ha : TabAt w a r c s) (hr : Rd iV w s xs) :
    Calls Try.prog 27 #[.pointer (some ⟨a, 0, none⟩)] w fun e w' => e = .returned (.bool (okTab r c xs)) ∧ ∃ n, w.drewN n = w' := by
  have HR := Lib.hid hr
  obtain ⟨A, cap, rfl, hcap, hA⟩ := hr
  clear hA
  obtain ⟨la, ca0, ca1, ca2⟩ := ha
  cases e1 : inB r 2 4
  · have E1 := Lib.hid e1
    have C1 := Lib.hid (fun n => l00In_lit e1 w n)
    clear e1
    go_enter Try.func27, Try.ntmps27
    go_wp2
    go_quiet (first | exact (C1.out _))
    go_wp2
    go_ret
    exact ⟨ret_bool (okTab_f1 E1.out).symm, _, rfl⟩
  · have E1 := Lib.hid e1
    have C1 := Lib.hid (fun n => l00In_lit e1 w n)
    clear e1
    cases e2 : inB c 2 4
    · have E2 := Lib.hid e2
      have C2 := Lib.hid (fun n => l00In_lit e2 w n)
      clear e2
      go_enter Try.func27, Try.ntmps27
      go_wp2
      go_quiet (first | (go_at_call_of 57 r; exact (C1.out _)) | (go_at_call_of 57 c; exact (C2.out _)))
      go_wp2
      go_ret
      exact ⟨ret_bool (okTab_f2 E2.out).symm, _, rfl⟩
    · have E2 := Lib.hid e2
      have C2 := Lib.hid (fun n => l00In_lit e2 w n)
      clear e2
      have hm := mul_in E1.out E2.out
      have hw : IntKind.i64.wrap (r * c) = r * c := IntWalk.i64_in _ (by omega)
      by_cases e3 : (xs.length : Int) = r * c
      · have E3 := Lib.hid e3
        rw [← e3] at hw hm
        have hw' : IntKind.i64.wrap (r * c) = (xs.length : Int) := by rw [← e3]; exact hw
        clear e3 hw
        go_enter Try.func27, Try.ntmps27
        go_wp2
        go_quiet (first | (go_at_call_of 57 r; exact (C1.out _)) | (go_at_call_of 57 c; exact (C2.out _)))
        go_wp2_with fail
        refine (l06Total_any _ xs h1 _ (HR.out.below (below_of_drew ⟨_, rfl⟩))).mono ?_
        rintro e w' ⟨rfl, rfl⟩
        unfold totV
        cases e4 : cntB xs
        · have E4 := Lib.hid e4
          go_wp2
          go_ret
          exact ⟨ret_bool (okTab_f4 E4.out).symm, _, rfl⟩
        · have E4 := Lib.hid e4
          clear e4
          rw [if_pos rfl]
          by_cases e5 : sumW xs ≤ 60
          · go_wp2
            go_ret
            exact ⟨ret_bool (by rw [okTab_t E1.out E2.out E3.out E4.out, inB, Bool.eq_iff_iff]; simp; omega), _, rfl⟩
          · go_wp2
            go_ret
            exact ⟨ret_bool (by rw [okTab_t E1.out E2.out E3.out E4.out, inB, Bool.eq_iff_iff]; simp; omega), _, rfl⟩
      · have E3 := Lib.hid e3
        have e3' : ((xs.length : Int) != r * c) = true := bne_iff_ne.2 e3
        clear e3
        go_enter Try.func27, Try.ntmps27
        go_wp2
        go_quiet (first | (go_at_call_of 57 r; exact (C1.out _)) | (go_at_call_of 57 c; exact (C2.out _)))
        go_wp2
        go_ret
        exact ⟨ret_bool (okTab_f3 E3.out).symm, _, rfl⟩

theorem validTable1_any (x : Int) (w : World) :
    Calls Try.prog 61 #[iV x] w fun e w' => e = .returned (.bool (!inB x 0 60)) ∧ w = w' := by
  go_enter Try.func61, Try.ntmps61
  go_wp2_with (go_at_call 59; refine (within_any _ _ _ _).mono ?_; rintro e w' ⟨rfl, rfl⟩)
  go_ret
  exact ⟨rfl, rfl⟩
theorem enter_validTable1 (args : Array Value) (w : World) : (callFunc 61 args).run Try.prog w = .ok (.enter 61 args) w :=
  enter_of Try.func61 (by kernel_rfl) (by kernel_rfl) args w
theorem cnt_not (xs : List Int) : (xs.any fun x => !inB x 0 60) = !cntB xs := by simp [cntB, List.all_eq_not_any_not]

set_option maxHeartbeats 1600000 in
theorem implValidTable_any (r c : Int) (s : Value) (xs : List Int) (h1 : xs.length ≤ 1099511627776) (w : World) (hr : Rd iV w s xs) :
    Calls Try.prog 29 #[tabV r c s] w fun e w' => e = .returned (.bool (okTab r c xs)) ∧ Below w.heap.size w w' := by
  have HR := Lib.hid hr
  obtain ⟨A, cap, rfl, hcap, hA⟩ := hr
  clear hA
  cases e1 : inB r 2 4
  · have E1 := Lib.hid e1
    have C1 := Lib.hid (fun w => within_lit e1 w)
    clear e1
    go_enter Try.func29, Try.ntmps29
    go_wp2_with (go_at_call 59; refine (C1.out _).mono ?_; rintro e w' ⟨rfl, rfl⟩)
    go_ret
    exact ⟨ret_bool (okTab_f1 E1.out).symm, below1 _ _⟩
  · have E1 := Lib.hid e1
    have C1 := Lib.hid (fun w => within_lit e1 w)
    clear e1
    cases e2 : inB c 2 4
    · have E2 := Lib.hid e2
      have C2 := Lib.hid (fun w => within_lit e2 w)
      clear e2
      go_enter Try.func29, Try.ntmps29
      go_wp2_with (go_at_call 59; (first | (go_at_call_of 59 r; refine (C1.out _).mono ?_) | (go_at_call_of 59 c; refine (C2.out _).mono ?_)); rintro e w' ⟨rfl, rfl⟩)
      go_ret
      exact ⟨ret_bool (okTab_f2 E2.out).symm, below1 _ _⟩
    · have E2 := Lib.hid e2
      have C2 := Lib.hid (fun w => within_lit e2 w)
      clear e2
      have hm := mul_in E1.out E2.out
      have hw : IntKind.i64.wrap (r * c) = r * c := IntWalk.i64_in _ (by omega)
      by_cases e3 : (xs.length : Int) = r * c
      · have E3 := Lib.hid e3
        rw [← e3] at hw hm
        have hw' : wrap64 (r * c) = (xs.length : Int) := by rw [← e3]; exact wrap64_id (by omega) (by omega)
        clear e3 hw
        go_enter Try.func29, Try.ntmps29
        go_wp2_with (go_at_call 59; (first | (go_at_call_of 59 r; refine (C1.out _).mono ?_) | (go_at_call_of 59 c; refine (C2.out _).mono ?_)); rintro e w' ⟨rfl, rfl⟩)
        refine (containsFunc_any (fun x => !inB x 0 60) 61 #[] _ xs h1 enter_validTable1 _ (fun x n _ => quietly_same (validTable1_any x _)) (HR.out.below (below1 _ _))).mono ?_
        rintro e w' ⟨rfl, n, rfl⟩
        rw [cnt_not]
        cases e4 : cntB xs
        · have E4 := Lib.hid e4
          go_wp2
          go_ret
          exact ⟨ret_bool (okTab_f4 E4.out).symm, (below1 _ _).drewN_ (by simp) _⟩
        · have E4 := Lib.hid e4
          clear e4
          go_wp2_with fail
          refine (total_any _ xs h1 _ (HR.out.below ((below1 _ _).drewN_ (by simp) _))).mono ?_
          rintro e w' ⟨rfl, rfl⟩
          go_wp2_with fail
          refine (within_any _ _ _ _).mono ?_
          rintro e w' ⟨rfl, rfl⟩
          go_wp2
          go_ret
          exact ⟨ret_bool (okTab_t E1.out E2.out E3.out E4.out).symm, (below1 _ _).drewN_ (by simp) _⟩
      · have E3 := Lib.hid e3
        have e3' : ((xs.length : Int) != r * c) = true := bne_iff_ne.2 e3
        go_enter Try.func29, Try.ntmps29
        go_wp2_with (go_at_call 59; (first | (go_at_call_of 59 r; refine (C1.out _).mono ?_) | (go_at_call_of 59 c; refine (C2.out _).mono ?_)); rintro e w' ⟨rfl, rfl⟩)
        go_ret
        exact ⟨ret_bool (okTab_f3 E3.out).symm, below1 _ _⟩
end Go.Proofs.Ytmhmekfbnaafmaa
