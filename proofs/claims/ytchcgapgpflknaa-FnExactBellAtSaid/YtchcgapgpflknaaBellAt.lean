/-
  For every part: the program's BellAt returns what the reference's returns. No condition.
-/
import Derived.Test.YtchcgapgpflknaaBells
import Derived.Test.YtchcgapgpflknaaLw
import Derived.Test.YtchcgapgpflknaaOpen
namespace Go.Proofs.Ytchcgapgpflknaa
open Go.RowKit
attribute [local go_sem] run_up_


set_option maxHeartbeats 3200000 in
theorem lawBellAt_any (x : Nat) (w : World)  :
    Calls Try.prog 5 #[.float .f32 x] w fun e w' => e = .returned (.bool true) ∧ Below w.heap.size w w' := by
  go_enter Try.func5, Try.ntmps5
  have hT := Below.refl w.heap.size w
  go_wp2_with fail
  refine (specBellAt_any x _ ).mono ?_
  rintro e w1 ⟨b_w_0, rfl, a_w_0, hb⟩
  have A_w_0 := Lib.hid a_w_0
  clear a_w_0
  have hs_w1 : w.heap.size ≤ w1.heap.size := hb.size
  replace hT := below_to hT hb hT.size
  clear hb
  go_wp2_with fail
  refine (implBellAt_any x _ ).mono ?_
  rintro e w2 ⟨b_g_0, rfl, a_g_0, hb⟩
  have A_g_0 := Lib.hid a_g_0
  clear a_g_0
  have hs_w2 : w1.heap.size ≤ w2.heap.size := hb.size
  replace hT := below_to hT hb hT.size
  clear hb
  go_wp2_with fail
  refine (sameFloat_any _ _ (by rw [abs_upR, abs_upR, A_g_0.out, A_w_0.out]) _).mono ?_
  rintro e zw3 ⟨rfl, rfl⟩
  generalize hg : World.drewN w2 _ = w3
  have hb : Below w2.heap.size w2 w3 := by rw [← hg]; exact below_drewN' _ (Below.refl _ _)
  clear hg
  have hs_w3 : w2.heap.size ≤ w3.heap.size := hb.size
  replace hT := below_to hT hb hT.size
  clear hb
  go_wp2
  go_ret
  exact ⟨rfl, hT⟩

/-! The row's step, and the statement. -/
section
open Go.ChangeShapes Go.WideShapes Go.ChangeAt Go.RowKit
set_option maxRecDepth 100000 in
theorem lawBellAt_lifted (os : Os) (started : os.Started) (H : Type) (enc : TypeId × Value → H) :
    ReturnsInHanded {} Try.checked os 5 .any (Rows.fnExactBellAtSpec.pre6 enc Try.prog Try.f5 Rows.fnExactBellAtRow.domain false) (Rows.fnExactBellAtSpec.post enc Try.prog Try.f5 false true false false) := by
  refine returnsInHanded_of_change (C := Try.checked) own_knob started (by kernel_rfl) Try.func5
    (ChangeSpec.witness6 (enc := enc) (C := Try.checked) false ⟨#[], #[.float .f32 0], []⟩ 8 (by kernel_rfl) (by kernel_rfl) (by kernel_rfl) (by kernel_rfl)) ?_
  intro W base args ds gs before hval0 hW hcnd _
  have hval : ∀ (j : Nat) t v, Try.f5.params[j]? = some t → args[j]? = some v → Value.okWide Try.prog W .any base t v := hval0
  have hW' := hW
  obtain ⟨p, q, hA0, hV, rfl, hfz, hnd⟩ := hW
  have hA : DataW.TrodAll enc Try.prog W 0 (fun _ => true) true Try.f5.params.toList args.toList ds p := hA0
  have hold := fun x hx => hW'.lt x hx
  rw [Try.params5] at hA hval
  have hl : laidOutB Try.prog = true := by kernel_rfl
  obtain ⟨v0, vs0, d0, ds0, p0, q0, hargs, rfl, rfl, h0, r0⟩ := trodAll_cons hA
  obtain ⟨rfl, rfl, rfl⟩ := trodAll_nil r0
  obtain rfl : args = #[v0] := by cases args; simp_all
  obtain ⟨rfl, rfl⟩ := trodVars_none hV
  obtain ⟨x, rfl, -, -, w0⟩ := open_float Try.underlying23 (hval 0 23 v0 rfl rfl) h0
  clear hA0 hval0
  refine (lawBellAt_any x W ).mono fun e W' ⟨he, hg⟩ => ?_
  subst he
  exact ⟨_, rfl, post_below (pa := _) (pv := []) hW' (fun _ _ _ => (trodAll_cons_mk (shut_bool Try.underlying4 _) trodAll_mk0)) (fun sp hsp => (trodAll_cons_mk (WideElems.Trod_stays hl (by kernel_rfl) (of_decide_eq_true (by kernel_rfl)) h0 (fun x hx => hg.same (hold x (by simp [hx]))) (fun x hx => hsp x (by simp [hx]))) trodAll_mk0)) (fun _ _ => rfl) rfl
    hg (ok_one (by kernel_rfl) rfl (okWide_bool_mk Try.underlying4 _))⟩

theorem fnBellAt_holds : Rows.FnExactBellAtSaid :=
  OpenClaim.holds_of_wide 5 Try.f5 rfl rfl rfl rfl rfl rfl rfl ⟨rfl, rfl, rfl, rfl, rfl⟩ rfl rfl rfl rfl rfl (by kernel_rfl) Try.func5 (by kernel_rfl)
    (of_decide_eq_true (by kernel_rfl)) (by unfold Func.isWrapper; first | (rw [if_pos (by decide +kernel)]; kernel_rfl) | (rw [if_neg (by decide +kernel)]; exact ⟨rfl, rfl⟩))
    (fun os started H enc _ => lawBellAt_lifted os started H enc)
end
#print axioms fnBellAt_holds
end Go.Proofs.Ytchcgapgpflknaa
