/-
  For every less, more: the program's SignTail returns what the reference's returns. No condition.
-/
import Derived.Test.YtepiioegiicebaaChoose
import Derived.Test.YtepiioegiicebaaPost
namespace Go.Proofs.Ytepiioegiicebaa
open Go.RowKit

/-- The sum of twice the first k of Pascal's numbers n, each step wrapped. -/
def sgP (n : Nat) : Nat → Int
  | 0 => 0
  | k + 1 => wrap64 (sgP n k + wrap64 (2 * wC n k))

theorem l00Min_any (a b m : Nat) (hm : min a b = m) (w : World) :
    Calls Try.prog 52 #[.int .i64 a, .int .i64 b] w fun e w' => e = .returned (.int .i64 m) ∧ w = w' := by
  have H := Lib.hid hm
  clear hm
  by_cases h : a < b
  all_goals
    go_enter Try.func52, Try.ntmps52
    go_wp2
    go_ret
    exact ⟨ret_int (by have := H.out; omega), rfl⟩

/-- What both return where the arguments are in bounds. -/
def sgPart (n m : Nat) : Int := if n ≤ 2 * m then wrap64 (2 ^ n) else sgP n (m + 1)

set_option maxHeartbeats 400000 in
theorem specSignTail_ok (a b m : Nat) (hab : a + b ≤ 60) (hm : min a b = m) (w : World) :
    Calls Try.prog 20 #[.int .i64 a, .int .i64 b] w fun e w' => e = .returned (.tuple #[.int .i64 (sgPart (a + b) m), .int .i64 (wrap64 (2 ^ (a + b))), .bool true]) ∧ Below w.heap.size w w' := by
  have h1 : inB a 0 60 = true := decide_eq_true (by omega)
  have h2 : inB b 0 60 = true := decide_eq_true (by omega)
  have hml : m ≤ a + b := by omega
  have H := Lib.hid hm
  clear hm
  by_cases hc : a + b ≤ 2 * m
  · go_enter Try.func20, Try.ntmps20
    go_wp2_with (first | (go_at_call 48; refine (l00In_any _ _ _ _).mono ?_; rintro e w' ⟨rfl, rfl⟩; first | rw [h1] | rw [h2]) | (go_at_call 52; refine (l00Min_any _ _ m H.out _).mono ?_; rintro e w' ⟨rfl, rfl⟩))
    go_ret3
    exact ⟨ret_iib (by unfold sgPart; rw [if_pos hc]) rfl rfl, Below.refl _ _⟩
  · go_enter Try.func20, Try.ntmps20
    go_wp2_with (first | (go_at_call 48; refine (l00In_any _ _ _ _).mono ?_; rintro e w' ⟨rfl, rfl⟩; first | rw [h1] | rw [h2]) | (go_at_call 52; refine (l00Min_any _ _ m H.out _).mono ?_; rintro e w' ⟨rfl, rfl⟩))
    go_loopw [10, 11] (fun sp sk wr => ∃ k : Nat, k ≤ m + 1 ∧ sk = .int .i64 k ∧ sp = .int .i64 (sgP (a + b) k) ∧ Below w.heap.size w wr) (fun _ sk _ => m + 1 - (intOf sk).toNat)
    case atStart => exact ⟨0, by omega, rfl, rfl, Below.refl _ _⟩
    case round =>
      obtain ⟨k, hk, rfl, rfl, hb⟩ := hrel
      by_cases hlt : k ≤ m
      · go_wp2_with (go_at_call 50; refine (l06Choose_any (a + b) k (by omega) (by omega) _).mono ?_; rintro e w' ⟨rfl, hb1⟩)
        go_roundw
        case rel => exact ⟨k + 1, by omega, by go_num, rfl, below_to hb hb1 hb.size⟩
        case measure => simp [intOf]; omega
      · obtain rfl : k = m + 1 := by omega
        go_wp2
        go_ret3
        exact ⟨ret_iib (by unfold sgPart; rw [if_neg hc]) rfl rfl, hb⟩

set_option maxHeartbeats 400000 in
theorem implSignTail_lt (a b : Nat) (hab : a + b ≤ 60) (hba : b < a) (w : World) :
    Calls Try.prog 21 #[.int .i64 a, .int .i64 b] w fun e w' => e = .returned (.tuple #[.int .i64 (sgPart (a + b) b), .int .i64 (wrap64 (2 ^ (a + b))), .bool true]) ∧ Below w.heap.size w w' := by
  by_cases hc : a + b ≤ 2 * b
  · go_enter Try.func21, Try.ntmps21
    go_wp2
    all_goals go_ret3
    all_goals exact ⟨ret_iib (by unfold sgPart; rw [if_pos hc]) rfl rfl, Below.refl _ _⟩
  · go_enter Try.func21, Try.ntmps21
    go_wp2
    go_loopw [10, 48] (fun sp sk wr => ∃ k : Nat, k ≤ b + 1 ∧ sk = .int .i64 k ∧ sp = .int .i64 (sgP (a + b) k) ∧ Below w.heap.size w wr) (fun _ sk _ => b + 1 - (intOf sk).toNat)
    case atStart => exact ⟨0, by omega, rfl, rfl, Below.refl _ _⟩
    case round =>
      obtain ⟨k, hk, rfl, rfl, hb⟩ := hrel
      by_cases hlt : k ≤ b
      · go_wp2_with (go_at_call 51; refine (choices_any (a + b) k (by omega) (by omega) _).mono ?_; rintro e w' ⟨rfl, hb1⟩)
        go_roundw
        case rel => exact ⟨k + 1, by omega, by go_num, rfl, below_to hb hb1 hb.size⟩
        case measure => simp [intOf]; omega
      · have hkm : k = b + 1 := by omega
        subst hkm
        go_wp2
        go_ret3
        exact ⟨ret_iib (by unfold sgPart; rw [if_neg hc]) rfl rfl, hb⟩

set_option maxHeartbeats 400000 in
theorem implSignTail_ge (a b : Nat) (hab : a + b ≤ 60) (hba : a ≤ b) (w : World) :
    Calls Try.prog 21 #[.int .i64 a, .int .i64 b] w fun e w' => e = .returned (.tuple #[.int .i64 (sgPart (a + b) a), .int .i64 (wrap64 (2 ^ (a + b))), .bool true]) ∧ Below w.heap.size w w' := by
  by_cases hc : a + b ≤ 2 * a
  · go_enter Try.func21, Try.ntmps21
    go_wp2
    all_goals go_ret3
    all_goals exact ⟨ret_iib (by unfold sgPart; rw [if_pos hc]) rfl rfl, Below.refl _ _⟩
  · go_enter Try.func21, Try.ntmps21
    go_wp2
    go_loopw [10, 48] (fun sp sk wr => ∃ k : Nat, k ≤ a + 1 ∧ sk = .int .i64 k ∧ sp = .int .i64 (sgP (a + b) k) ∧ Below w.heap.size w wr) (fun _ sk _ => a + 1 - (intOf sk).toNat)
    case atStart => exact ⟨0, by omega, rfl, rfl, Below.refl _ _⟩
    case round =>
      obtain ⟨k, hk, rfl, rfl, hb⟩ := hrel
      by_cases hlt : k ≤ a
      · go_wp2_with (go_at_call 51; refine (choices_any (a + b) k (by omega) (by omega) _).mono ?_; rintro e w' ⟨rfl, hb1⟩)
        go_roundw
        case rel => exact ⟨k + 1, by omega, by go_num, rfl, below_to hb hb1 hb.size⟩
        case measure => simp [intOf]; omega
      · have hkm : k = a + 1 := by omega
        subst hkm
        go_wp2
        go_ret3
        exact ⟨ret_iib (by unfold sgPart; rw [if_neg hc]) rfl rfl, hb⟩

theorem implSignTail_ok (a b m : Nat) (hab : a + b ≤ 60) (hm : min a b = m) (w : World) :
    Calls Try.prog 21 #[.int .i64 a, .int .i64 b] w fun e w' => e = .returned (.tuple #[.int .i64 (sgPart (a + b) m), .int .i64 (wrap64 (2 ^ (a + b))), .bool true]) ∧ Below w.heap.size w w' := by
  by_cases hba : b < a
  · obtain rfl : m = b := by omega
    exact implSignTail_lt _ _ hab hba w
  · obtain rfl : m = a := by omega
    exact implSignTail_ge _ _ hab (by omega) w

/-- Out of bounds: 0, 0, false. -/
theorem specSignTail_no (a b : Int) (h : ¬ (0 ≤ a ∧ 0 ≤ b ∧ a + b ≤ 60)) (w : World) :
    Calls Try.prog 20 #[.int .i64 a, .int .i64 b] w fun e w' => e = .returned (.tuple #[.int .i64 0, .int .i64 0, .bool false]) ∧ Below w.heap.size w w' := by
  cases h1 : inB a 0 60
  · go_enter Try.func20, Try.ntmps20
    go_wp2_with (go_at_call 48; refine (l00In_any _ _ _ _).mono ?_; rintro e w' ⟨rfl, rfl⟩; rw [h1])
    go_ret3
    exact ⟨rfl, Below.refl _ _⟩
  · cases h2 : inB b 0 60
    · go_enter Try.func20, Try.ntmps20
      go_wp2_with (go_at_call 48; refine (l00In_any _ _ _ _).mono ?_; rintro e w' ⟨rfl, rfl⟩; first | rw [h1] | rw [h2])
      go_ret3
      exact ⟨rfl, Below.refl _ _⟩
    · have b1 := inB_true h1
      have b2 := inB_true h2
      have hs : 60 < a + b := by omega
      clear h
      go_enter Try.func20, Try.ntmps20
      go_wp2_with (go_at_call 48; refine (l00In_any _ _ _ _).mono ?_; rintro e w' ⟨rfl, rfl⟩; first | rw [h1] | rw [h2])
      go_ret3
      exact ⟨rfl, Below.refl _ _⟩
theorem implSignTail_no (a b : Int) (h : ¬ (0 ≤ a ∧ 0 ≤ b ∧ a + b ≤ 60)) (w : World) :
    Calls Try.prog 21 #[.int .i64 a, .int .i64 b] w fun e w' => e = .returned (.tuple #[.int .i64 0, .int .i64 0, .bool false]) ∧ Below w.heap.size w w' := by
  by_cases h1 : a < 0
  · clear h
    go_enter Try.func21, Try.ntmps21
    go_wp2
    all_goals go_ret3
    all_goals exact ⟨rfl, Below.refl _ _⟩
  · by_cases h2 : b < 0
    · clear h
      go_enter Try.func21, Try.ntmps21
      go_wp2
      all_goals go_ret3
      all_goals exact ⟨rfl, Below.refl _ _⟩
    · by_cases h3 : 60 < a
      · clear h
        go_enter Try.func21, Try.ntmps21
        go_wp2
        all_goals go_ret3
        all_goals exact ⟨rfl, Below.refl _ _⟩
      · by_cases h4 : 60 < b
        · clear h
          go_enter Try.func21, Try.ntmps21
          go_wp2
          all_goals go_ret3
          all_goals exact ⟨rfl, Below.refl _ _⟩
        · have hs : 60 < a + b := by omega
          clear h
          go_enter Try.func21, Try.ntmps21
          go_wp2
          all_goals go_ret3
          all_goals exact ⟨rfl, Below.refl _ _⟩

theorem lawSignTail_any (a b : Int) (w : World) :
    Calls Try.prog 5 #[.int .i64 a, .int .i64 b] w fun e w' => e = .returned (.bool true) ∧ Below w.heap.size w w' := by
  by_cases h : 0 ≤ a ∧ 0 ≤ b ∧ a + b ≤ 60
  · obtain ⟨a, rfl⟩ : ∃ n : Nat, a = n := ⟨a.toNat, by omega⟩
    obtain ⟨b, rfl⟩ : ∃ n : Nat, b = n := ⟨b.toNat, by omega⟩
    have hab : a + b ≤ 60 := by omega
    clear h
    go_enter Try.func5, Try.ntmps5
    go_wp2_with (first | (go_at_call 20; refine (specSignTail_ok a b _ hab rfl _).mono ?_; rintro e w' ⟨rfl, hb1⟩) | (go_at_call 21; refine (implSignTail_ok a b _ hab rfl _).mono ?_; rintro e w' ⟨rfl, hb2⟩))
    go_ret
    exact ⟨rfl, below_to hb1 hb2 hb1.size⟩
  · have H := Lib.hid h
    clear h
    go_enter Try.func5, Try.ntmps5
    go_wp2_with (first | (go_at_call 20; refine (specSignTail_no a b H.out _).mono ?_; rintro e w' ⟨rfl, hb1⟩) | (go_at_call 21; refine (implSignTail_no a b H.out _).mono ?_; rintro e w' ⟨rfl, hb2⟩))
    go_ret
    exact ⟨rfl, below_to hb1 hb2 hb1.size⟩


/-! The row's step, and the statement. -/
section
open Go.ChangeShapes Go.WideShapes Go.ChangeAt Go.RowKit
set_option maxRecDepth 100000 in
theorem lawSignTail_lifted (os : Os) (started : os.Started) (H : Type) (enc : TypeId × Value → H) :
    ReturnsInHanded {} Try.checked os 5 .any (Rows.fnExactSignTailSpec.pre6 enc Try.prog Try.f5 Rows.fnExactSignTailRow.domain false) (Rows.fnExactSignTailSpec.post enc Try.prog Try.f5 false true false false) := by
  refine returnsInHanded_of_change (C := Try.checked) own_knob started (by kernel_rfl) Try.func5
    (ChangeSpec.witness6 (enc := enc) (C := Try.checked) false ⟨#[], #[.int .i64 0, .int .i64 0], []⟩ 8 (by kernel_rfl) (by kernel_rfl) (by kernel_rfl) (by kernel_rfl)) ?_
  intro W base args ds gs before hval0 hW hcnd _
  have hval : ∀ (j : Nat) t v, Try.f5.params[j]? = some t → args[j]? = some v → Value.okWide Try.prog W .any base t v := hval0
  have hW' := hW
  obtain ⟨p, q, hA0, hV, rfl, hfz, hnd⟩ := hW
  have hA : DataW.TrodAll enc Try.prog W 0 (fun _ => true) true Try.f5.params.toList args.toList ds p := hA0
  rw [Try.params5] at hA hval
  obtain ⟨v0, vs0, d0, ds0, p0, q0, hargs, rfl, rfl, h0, r0⟩ := trodAll_cons hA
  obtain ⟨v1, vs1, d1, ds1, p1, q1, rfl, rfl, rfl, h1, r1⟩ := trodAll_cons r0
  obtain ⟨rfl, rfl, rfl⟩ := trodAll_nil r1
  obtain rfl : args = #[v0, v1] := by cases args; simp_all
  obtain ⟨rfl, rfl⟩ := trodVars_none hV
  obtain ⟨a, rfl, rfl, rfl, w0⟩ := open_int Try.underlying2 (hval 0 2 v0 rfl rfl) h0
  obtain ⟨b, rfl, rfl, rfl, w1⟩ := open_int Try.underlying2 (hval 1 2 v1 rfl rfl) h1
  clear hA0 hval0
  simp only [List.append_nil] at hW'
  refine (lawSignTail_any a b W).mono fun e W' ⟨he, hg⟩ => ?_
  subst he
  exact ⟨_, rfl, post_below (pa := []) (pv := []) hW' (fun _ _ _ => (trodAll_cons_mk (shut_bool Try.underlying4 _) trodAll_mk0)) (fun sp _ => (trodAll_cons_mk (shut_int Try.underlying2 w0) (trodAll_cons_mk (shut_int Try.underlying2 w1) trodAll_mk0))) (fun _ _ => rfl) rfl
    hg (ok_one (by kernel_rfl) rfl (okWide_bool_mk Try.underlying4 _))⟩

theorem fnSignTail_holds : Rows.FnExactSignTailSaid :=
  OpenClaim.holds_of_wide 5 Try.f5 rfl rfl rfl rfl rfl rfl rfl ⟨rfl, rfl, rfl, rfl, rfl⟩ rfl rfl rfl rfl rfl (by kernel_rfl) Try.func5 (by kernel_rfl)
    (of_decide_eq_true (by kernel_rfl)) (by unfold Func.isWrapper; first | (rw [if_pos (by decide +kernel)]; kernel_rfl) | (rw [if_neg (by decide +kernel)]; exact ⟨rfl, rfl⟩))
    (fun os started H enc _ => lawSignTail_lifted os started H enc)
end
#print axioms fnSignTail_holds
end Go.Proofs.Ytepiioegiicebaa
