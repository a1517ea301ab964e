/-
  For every m, n, gap: the program's StairTail returns what the reference's returns. No condition.
-/
import Derived.Test.YtepiioegiicebaaStairTail
import Derived.Test.YtepiioegiicebaaStairImpl
namespace Go.Proofs.Ytepiioegiicebaa
open Go.RowKit

theorem inB_nat {n lo hi : Int} (h : inB n lo hi = true) (h0 : 0 ≤ lo) : ∃ a : Nat, n = a ∧ lo ≤ a ∧ (a : Int) ≤ hi := by
  have := inB_true h
  exact ⟨n.toNat, by omega, by omega, by omega⟩

theorem specStair_no1 (m n gap : Int) (h1 : inB m 1 30 = false) (w : World) :
    Calls Try.prog 22 #[.int .i64 m, .int .i64 n, .int .i64 gap] w fun e w' => e = .returned (.tuple #[.int .i64 0, .int .i64 0, .bool false]) ∧ Below w.heap.size w w' := by
  go_enter Try.func22, Try.ntmps22
  go_wp2_with (go_at_call 48; refine (l00In_any _ _ _ _).mono ?_; rintro e w' ⟨rfl, rfl⟩; rw [h1])
  go_ret3
  exact ⟨rfl, Below.refl _ _⟩
theorem specStair_no2 (m n gap : Int) (h1 : inB m 1 30 = true) (h2 : inB n 1 30 = false) (w : World) :
    Calls Try.prog 22 #[.int .i64 m, .int .i64 n, .int .i64 gap] w fun e w' => e = .returned (.tuple #[.int .i64 0, .int .i64 0, .bool false]) ∧ Below w.heap.size w w' := by
  go_enter Try.func22, Try.ntmps22
  go_wp2_with (go_at_call 48; refine (l00In_any _ _ _ _).mono ?_; rintro e w' ⟨rfl, rfl⟩; first | rw [h1] | rw [h2])
  go_ret3
  exact ⟨rfl, Below.refl _ _⟩
theorem implStair_no1 (m n gap : Int) (h1 : inB m 1 30 = false) (w : World) :
    Calls Try.prog 23 #[.int .i64 m, .int .i64 n, .int .i64 gap] w fun e w' => e = .returned (.tuple #[.int .i64 0, .int .i64 0, .bool false]) ∧ Below w.heap.size w w' := by
  go_enter Try.func23, Try.ntmps23
  go_wp2_with (go_at_call 49; refine (within_any _ _ _ _).mono ?_; rintro e w' ⟨rfl, rfl⟩; rw [h1])
  go_ret3
  exact ⟨rfl, Below.refl _ _⟩
theorem implStair_no2 (m n gap : Int) (h1 : inB m 1 30 = true) (h2 : inB n 1 30 = false) (w : World) :
    Calls Try.prog 23 #[.int .i64 m, .int .i64 n, .int .i64 gap] w fun e w' => e = .returned (.tuple #[.int .i64 0, .int .i64 0, .bool false]) ∧ Below w.heap.size w w' := by
  go_enter Try.func23, Try.ntmps23
  go_wp2_with (go_at_call 49; refine (within_any _ _ _ _).mono ?_; rintro e w' ⟨rfl, rfl⟩; first | rw [h1] | rw [h2])
  go_ret3
  exact ⟨rfl, Below.refl _ _⟩
theorem lawStairTail_any (m n gap : Int) (w : World) :
    Calls Try.prog 6 #[.int .i64 m, .int .i64 n, .int .i64 gap] w fun e w' => e = .returned (.bool true) ∧ Below w.heap.size w w' := by
  cases h1 : inB m 1 30
  · go_enter Try.func6, Try.ntmps6
    go_wp2_with (first | (go_at_call 22; refine (specStair_no1 m n gap h1 _).mono ?_; rintro e w' ⟨rfl, hb1⟩) | (go_at_call 23; refine (implStair_no1 m n gap h1 _).mono ?_; rintro e w' ⟨rfl, hb2⟩))
    go_ret
    exact ⟨rfl, below_to hb1 hb2 hb1.size⟩
  · cases h2 : inB n 1 30
    · go_enter Try.func6, Try.ntmps6
      go_wp2_with (first | (go_at_call 22; refine (specStair_no2 m n gap h1 h2 _).mono ?_; rintro e w' ⟨rfl, hb1⟩) | (go_at_call 23; refine (implStair_no2 m n gap h1 h2 _).mono ?_; rintro e w' ⟨rfl, hb2⟩))
      go_ret
      exact ⟨rfl, below_to hb1 hb2 hb1.size⟩
    · obtain ⟨m, rfl, a1, a2⟩ := inB_nat h1 (by omega)
      obtain ⟨n, rfl, b1, b2⟩ := inB_nat h2 (by omega)
      have m1 : 1 ≤ m := by omega
      have m2 : m ≤ 30 := by omega
      have n1 : 1 ≤ n := by omega
      have n2 : n ≤ 30 := by omega
      clear a1 a2 b1 b2 h1 h2
      go_enter Try.func6, Try.ntmps6
      go_wp2_with (first | (go_at_call 22; refine (specStair_ok m n gap m1 m2 n1 n2 _).mono ?_; rintro e w' ⟨rfl, hb1⟩) | (go_at_call 23; refine (implStair_ok m n gap m1 m2 n1 n2 _).mono ?_; rintro e w' ⟨rfl, hb2⟩))
      go_ret
      exact ⟨rfl, below_to hb1 hb2 hb1.size⟩

/-! The row's step, and the statement. -/
section
open Go.ChangeShapes Go.WideShapes Go.ChangeAt Go.RowKit
set_option maxRecDepth 100000 in
theorem lawStairTail_lifted (os : Os) (started : os.Started) (H : Type) (enc : TypeId × Value → H) :
    ReturnsInHanded {} Try.checked os 6 .any (Rows.fnExactStairTailSpec.pre6 enc Try.prog Try.f6 Rows.fnExactStairTailRow.domain false) (Rows.fnExactStairTailSpec.post enc Try.prog Try.f6 false true false false) := by
  refine returnsInHanded_of_change (C := Try.checked) own_knob started (by kernel_rfl) Try.func6
    (ChangeSpec.witness6 (enc := enc) (C := Try.checked) false ⟨#[], #[.int .i64 0, .int .i64 0, .int .i64 0], []⟩ 8 (by kernel_rfl) (by kernel_rfl) (by kernel_rfl) (by kernel_rfl)) ?_
  intro W base args ds gs before hval0 hW hcnd _
  have hval : ∀ (j : Nat) t v, Try.f6.params[j]? = some t → args[j]? = some v → Value.okWide Try.prog W .any base t v := hval0
  have hW' := hW
  obtain ⟨p, q, hA0, hV, rfl, hfz, hnd⟩ := hW
  have hA : DataW.TrodAll enc Try.prog W 0 (fun _ => true) true Try.f6.params.toList args.toList ds p := hA0
  rw [Try.params6] at hA hval
  obtain ⟨v0, vs0, d0, ds0, p0, q0, hargs, rfl, rfl, h0, r0⟩ := trodAll_cons hA
  obtain ⟨v1, vs1, d1, ds1, p1, q1, rfl, rfl, rfl, h1, r1⟩ := trodAll_cons r0
  obtain ⟨v2, vs2, d2, ds2, p2, q2, rfl, rfl, rfl, h2, r2⟩ := trodAll_cons r1
  obtain ⟨rfl, rfl, rfl⟩ := trodAll_nil r2
  obtain rfl : args = #[v0, v1, v2] := by cases args; simp_all
  obtain ⟨rfl, rfl⟩ := trodVars_none hV
  obtain ⟨m, rfl, rfl, rfl, w0⟩ := open_int Try.underlying2 (hval 0 2 v0 rfl rfl) h0
  obtain ⟨n, rfl, rfl, rfl, w1⟩ := open_int Try.underlying2 (hval 1 2 v1 rfl rfl) h1
  obtain ⟨gap, rfl, rfl, rfl, w2⟩ := open_int Try.underlying2 (hval 2 2 v2 rfl rfl) h2
  clear hA0 hval0
  simp only [List.append_nil] at hW'
  refine (lawStairTail_any m n gap W).mono fun e W' ⟨he, hg⟩ => ?_
  subst he
  exact ⟨_, rfl, post_below (pa := []) (pv := []) hW' (fun _ _ _ => (trodAll_cons_mk (shut_bool Try.underlying4 _) trodAll_mk0)) (fun sp _ => (trodAll_cons_mk (shut_int Try.underlying2 w0) (trodAll_cons_mk (shut_int Try.underlying2 w1) (trodAll_cons_mk (shut_int Try.underlying2 w2) trodAll_mk0)))) (fun _ _ => rfl) rfl
    hg (ok_one (by kernel_rfl) rfl (okWide_bool_mk Try.underlying4 _))⟩

theorem fnStairTail_holds : Rows.FnExactStairTailSaid :=
  OpenClaim.holds_of_wide 6 Try.f6 rfl rfl rfl rfl rfl rfl rfl ⟨rfl, rfl, rfl, rfl, rfl⟩ rfl rfl rfl rfl rfl (by kernel_rfl) Try.func6 (by kernel_rfl)
    (of_decide_eq_true (by kernel_rfl)) (by unfold Func.isWrapper; first | (rw [if_pos (by decide +kernel)]; kernel_rfl) | (rw [if_neg (by decide +kernel)]; exact ⟨rfl, rfl⟩))
    (fun os started H enc _ => lawStairTail_lifted os started H enc)
end
#print axioms fnStairTail_holds
end Go.Proofs.Ytepiioegiicebaa
