/-
  For every part, all: the program's ShareOfTail returns what the reference's returns. No condition.
-/
import Derived.Test.YtepiioegiicebaaChoose
import Derived.Test.YtepiioegiicebaaSameFloat
import Derived.Test.YtepiioegiicebaaPost
namespace Go.Proofs.Ytepiioegiicebaa
open Go.RowKit

theorem below_drewN' {w : World} (n : Nat) {B : Nat} {a : World} (h : Below B a w) : Below B a (w.drewN n) := ⟨h.os, h.tape, h.output, h.size, h.block⟩

/-- What both return where the arguments are in bounds: a float32 that stands for the quotient. -/
def ShareRet (p a : Int) (w : World) (e : Ending) (w' : World) : Prop :=
  ∃ b n, e = .returned (.tuple #[.float .f32 b, .bool true]) ∧ absF .f32 b = opF .quo .f32 (absF .f32 (floatOfInt .f32 p)) (absF .f32 (floatOfInt .f32 a)) ∧ w.drewN n = w'

theorem specShare_no1 (p a : Int) (h : a < 1) (w : World) :
    Calls Try.prog 15 #[.int .i64 p, .int .i64 a] w fun e w' => e = .returned (.tuple #[.float .f32 0, .bool false]) ∧ w = w' := by
  go_enter Try.func15, Try.ntmps15
  go_wp2
  go_ret2
  exact ⟨rfl, rfl⟩
theorem specShare_no2 (p a : Int) (h : 1 ≤ a) (h2 : inB p 0 a = false) (w : World) :
    Calls Try.prog 15 #[.int .i64 p, .int .i64 a] w fun e w' => e = .returned (.tuple #[.float .f32 0, .bool false]) ∧ w = w' := by
  go_enter Try.func15, Try.ntmps15
  go_wp2_with (go_at_call 48; refine (l00In_any _ _ _ _).mono ?_; rintro e w' ⟨rfl, rfl⟩; rw [h2])
  go_ret2
  exact ⟨rfl, rfl⟩
theorem specShare_ok (p a : Int) (h : 1 ≤ a) (h2 : inB p 0 a = true) (w : World) :
    Calls Try.prog 15 #[.int .i64 p, .int .i64 a] w (ShareRet p a w) := by
  have hfl := fun W => run_fl (P := Try.prog) .quo rfl 22 .f32 (floatOfInt .f32 p) (floatOfInt .f32 a) W
  go_enter Try.func15, Try.ntmps15
  go_wp2_with (go_at_call 48; refine (l00In_any _ _ _ _).mono ?_; rintro e w' ⟨rfl, rfl⟩; rw [h2])
  go_ret2
  exact ⟨_, _, rfl, abs_flR .quo rfl .f32 _ _ _, rfl⟩

theorem implShare_no1 (p a : Int) (h : a < 1) (w : World) :
    Calls Try.prog 16 #[.int .i64 p, .int .i64 a] w fun e w' => e = .returned (.tuple #[.float .f32 0, .bool false]) ∧ w = w' := by
  go_enter Try.func16, Try.ntmps16
  go_wp2
  go_ret2
  exact ⟨rfl, rfl⟩
theorem implShare_no2 (p a : Int) (h : 1 ≤ a) (h2 : inB p 0 a = false) (w : World) :
    Calls Try.prog 16 #[.int .i64 p, .int .i64 a] w fun e w' => e = .returned (.tuple #[.float .f32 0, .bool false]) ∧ w = w' := by
  go_enter Try.func16, Try.ntmps16
  go_wp2_with (go_at_call 49; refine (within_any _ _ _ _).mono ?_; rintro e w' ⟨rfl, rfl⟩; rw [h2])
  go_ret2
  exact ⟨rfl, rfl⟩
theorem implShare_ok (p a : Int) (h : 1 ≤ a) (h2 : inB p 0 a = true) (w : World) :
    Calls Try.prog 16 #[.int .i64 p, .int .i64 a] w (ShareRet p a w) := by
  have hfl := fun W => run_fl (P := Try.prog) .quo rfl 22 .f32 (floatOfInt .f32 p) (floatOfInt .f32 a) W
  go_enter Try.func16, Try.ntmps16
  go_wp2_with (go_at_call 49; refine (within_any _ _ _ _).mono ?_; rintro e w' ⟨rfl, rfl⟩; rw [h2])
  go_ret2
  exact ⟨_, _, rfl, abs_flR .quo rfl .f32 _ _ _, rfl⟩

theorem lawShareOfTail_any (p a : Int) (w : World) :
    Calls Try.prog 3 #[.int .i64 p, .int .i64 a] w fun e w' => e = .returned (.bool true) ∧ Below w.heap.size w w' := by
  have hup := fun b W => run_up (P := Try.prog) 22 26 (by kernel_rfl) Try.underlying26 b W
  have same := fun x y W => sameFloat_any x y (w := W)
  by_cases h : a < 1
  · go_enter Try.func3, Try.ntmps3
    go_wp2_with (first | (go_at_call 15; refine (specShare_no1 p a h _).mono ?_; rintro e w' ⟨rfl, rfl⟩) | (go_at_call 16; refine (implShare_no1 p a h _).mono ?_; rintro e w' ⟨rfl, rfl⟩) | (go_at_call 17; refine (sameFloat_any _ _ (by rw [abs_upR, abs_upR]) _).mono ?_; rintro e w' ⟨rfl, rfl⟩))
    go_ret
    exact ⟨rfl, below_drewN' _ (Below.refl _ _)⟩
  · cases h2 : inB p 0 a
    · go_enter Try.func3, Try.ntmps3
      go_wp2_with (first | (go_at_call 15; refine (specShare_no2 p a (by omega) h2 _).mono ?_; rintro e w' ⟨rfl, rfl⟩) | (go_at_call 16; refine (implShare_no2 p a (by omega) h2 _).mono ?_; rintro e w' ⟨rfl, rfl⟩) | (go_at_call 17; refine (sameFloat_any _ _ (by rw [abs_upR, abs_upR]) _).mono ?_; rintro e w' ⟨rfl, rfl⟩))
      go_ret
      exact ⟨rfl, below_drewN' _ (Below.refl _ _)⟩
    · go_enter Try.func3, Try.ntmps3
      go_wp2_with (first | (go_at_call 15; refine (specShare_ok p a (by omega) h2 _).mono ?_; rintro e w' ⟨b1, n1, rfl, ha1, rfl⟩; have H1 := Lib.hid ha1; clear ha1) | (go_at_call 16; refine (implShare_ok p a (by omega) h2 _).mono ?_; rintro e w' ⟨b2, n2, rfl, ha2, rfl⟩; have H2 := Lib.hid ha2; clear ha2) | (go_at_call 17; refine (sameFloat_any _ _ (by rw [abs_upR, abs_upR, H1.out, H2.out]) _).mono ?_; rintro e w' ⟨rfl, rfl⟩))
      go_ret
      exact ⟨rfl, below_drewN' _ (Below.refl _ _)⟩

/-! The row's step, and the statement. -/
section
open Go.ChangeShapes Go.WideShapes Go.ChangeAt Go.RowKit
set_option maxRecDepth 100000 in
theorem lawShareOfTail_lifted (os : Os) (started : os.Started) (H : Type) (enc : TypeId × Value → H) :
    ReturnsInHanded {} Try.checked os 3 .any (Rows.fnExactShareOfTailSpec.pre6 enc Try.prog Try.f3 Rows.fnExactShareOfTailRow.domain false) (Rows.fnExactShareOfTailSpec.post enc Try.prog Try.f3 false true false false) := by
  refine returnsInHanded_of_change (C := Try.checked) own_knob started (by kernel_rfl) Try.func3
    (ChangeSpec.witness6 (enc := enc) (C := Try.checked) false ⟨#[], #[.int .i64 0, .int .i64 0], []⟩ 8 (by kernel_rfl) (by kernel_rfl) (by kernel_rfl) (by kernel_rfl)) ?_
  intro W base args ds gs before hval0 hW hcnd _
  have hval : ∀ (j : Nat) t v, Try.f3.params[j]? = some t → args[j]? = some v → Value.okWide Try.prog W .any base t v := hval0
  have hW' := hW
  obtain ⟨p, q, hA0, hV, rfl, hfz, hnd⟩ := hW
  have hA : DataW.TrodAll enc Try.prog W 0 (fun _ => true) true Try.f3.params.toList args.toList ds p := hA0
  rw [Try.params3] at hA hval
  obtain ⟨v0, vs0, d0, ds0, p0, q0, hargs, rfl, rfl, h0, r0⟩ := trodAll_cons hA
  obtain ⟨v1, vs1, d1, ds1, p1, q1, rfl, rfl, rfl, h1, r1⟩ := trodAll_cons r0
  obtain ⟨rfl, rfl, rfl⟩ := trodAll_nil r1
  obtain rfl : args = #[v0, v1] := by cases args; simp_all
  obtain ⟨rfl, rfl⟩ := trodVars_none hV
  obtain ⟨p, rfl, rfl, rfl, w0⟩ := open_int Try.underlying2 (hval 0 2 v0 rfl rfl) h0
  obtain ⟨a, rfl, rfl, rfl, w1⟩ := open_int Try.underlying2 (hval 1 2 v1 rfl rfl) h1
  clear hA0 hval0
  simp only [List.append_nil] at hW'
  refine (lawShareOfTail_any p a W).mono fun e W' ⟨he, hg⟩ => ?_
  subst he
  exact ⟨_, rfl, post_below (pa := []) (pv := []) hW' (fun _ _ _ => (trodAll_cons_mk (shut_bool Try.underlying4 _) trodAll_mk0)) (fun sp _ => (trodAll_cons_mk (shut_int Try.underlying2 w0) (trodAll_cons_mk (shut_int Try.underlying2 w1) trodAll_mk0))) (fun _ _ => rfl) rfl
    hg (ok_one (by kernel_rfl) rfl (okWide_bool_mk Try.underlying4 _))⟩

theorem fnShareOfTail_holds : Rows.FnExactShareOfTailSaid :=
  OpenClaim.holds_of_wide 3 Try.f3 rfl rfl rfl rfl rfl rfl rfl ⟨rfl, rfl, rfl, rfl, rfl⟩ rfl rfl rfl rfl rfl (by kernel_rfl) Try.func3 (by kernel_rfl)
    (of_decide_eq_true (by kernel_rfl)) (by unfold Func.isWrapper; first | (rw [if_pos (by decide +kernel)]; kernel_rfl) | (rw [if_neg (by decide +kernel)]; exact ⟨rfl, rfl⟩))
    (fun os started H enc _ => lawShareOfTail_lifted os started H enc)
end
#print axioms fnShareOfTail_holds
end Go.Proofs.Ytepiioegiicebaa
