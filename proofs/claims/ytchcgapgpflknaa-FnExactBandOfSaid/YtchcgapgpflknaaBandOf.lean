/-
  For every list and share: the program's BandOf returns what the reference's returns. No condition.
-/
import Derived.Test.YtchcgapgpflknaaBandW
import Derived.Test.YtchcgapgpflknaaLw
import Derived.Test.YtchcgapgpflknaaOpen
namespace Go.Proofs.Ytchcgapgpflknaa
open Go.RowKit
attribute [local go_sem] run_up_


set_option maxHeartbeats 3200000 in
theorem lawBandOf_any (va : Value) (xa : List Nat) (sh : Nat) (w : World) (hra : Rd fV w va xa) :
    Calls Try.prog 3 #[va, .float .f32 sh] w fun e w' => e = .returned (.bool true) ∧ Below w.heap.size w w' := by
  have HRa := Lib.hid hra
  obtain ⟨Aa, capa, rfl, hcapa, hAa⟩ := hra
  clear hAa
  by_cases hna : 1048576 < xa.length
  · go_enter Try.func3, Try.ntmps3
    go_wp2
    go_ret
    exact ⟨rfl, Below.refl _ _⟩
  have hma : xa.length ≤ 1099511627776 := by omega
  go_enter Try.func3, Try.ntmps3
  have hT := Below.refl w.heap.size w
  go_wp2_with fail
  refine (toFloat32S_any _ xa _ (HRa.out.below hT) hma).mono ?_
  rintro e w1 ⟨v_ia, rfl, ia, hb, -⟩
  replace ia := ia.ranged
  have hs_w1 : w.heap.size ≤ w1.heap.size := hb.size
  replace hT := below_to hT hb hT.size
  clear hb
  go_wp2_with fail
  refine (specBandOf_any _ xa hma sh _ ia.rd).mono ?_
  rintro e w2 ⟨b_w_0, b_w_1, rfl, a_w_0, a_w_1, hb⟩
  have A_w_0 := Lib.hid a_w_0
  clear a_w_0
  have A_w_1 := Lib.hid a_w_1
  clear a_w_1
  replace ia := ia.below hb
  have hs_w2 : w1.heap.size ≤ w2.heap.size := hb.size
  replace hT := below_to hT hb hT.size
  clear hb
  clear ia
  go_wp2_with fail
  refine (toFloat32S_any _ xa _ (HRa.out.below hT) hma).mono ?_
  rintro e w3 ⟨v_x_a, rfl, x_a, hb, -⟩
  replace x_a := x_a.ranged
  have hs_w3 : w2.heap.size ≤ w3.heap.size := hb.size
  replace hT := below_to hT hb hT.size
  clear hb
  go_wp2_with fail
  refine (implBandOf_any _ xa hma sh _ x_a.rd).mono ?_
  rintro e w4 ⟨b_g_0, b_g_1, rfl, a_g_0, a_g_1, hb⟩
  have A_g_0 := Lib.hid a_g_0
  clear a_g_0
  have A_g_1 := Lib.hid a_g_1
  clear a_g_1
  replace x_a := x_a.below hb
  have hs_w4 : w3.heap.size ≤ w4.heap.size := hb.size
  replace hT := below_to hT hb hT.size
  clear hb
  go_wp2_with fail
  refine (sameFloat_any _ _ (by rw [abs_upR, abs_upR, A_g_0.out, A_w_0.out]) _).mono ?_
  rintro e zw5 ⟨rfl, rfl⟩
  generalize hg : World.drewN w4 _ = w5
  have hb : Below w4.heap.size w4 w5 := by rw [← hg]; exact below_drewN' _ (Below.refl _ _)
  clear hg
  replace x_a := x_a.below hb
  have hs_w5 : w4.heap.size ≤ w5.heap.size := hb.size
  replace hT := below_to hT hb hT.size
  clear hb
  go_wp2_with fail
  refine (sameFloat_any _ _ (by rw [abs_upR, abs_upR, A_g_1.out, A_w_1.out]) _).mono ?_
  rintro e zw6 ⟨rfl, rfl⟩
  generalize hg : World.drewN w5 _ = w6
  have hb : Below w5.heap.size w5 w6 := by rw [← hg]; exact below_drewN' _ (Below.refl _ _)
  clear hg
  replace x_a := x_a.below hb
  have hs_w6 : w5.heap.size ≤ w6.heap.size := hb.size
  replace hT := below_to hT hb hT.size
  clear hb
  go_wp2_with fail
  refine (toFloat32S_any _ xa _ (HRa.out.below hT) hma).mono ?_
  rintro e w7 ⟨v_t_a, rfl, t_a, hb, -⟩
  replace t_a := t_a.ranged
  replace x_a := x_a.below hb
  have hs_w7 : w6.heap.size ≤ w7.heap.size := hb.size
  replace hT := below_to hT hb hT.size
  clear hb
  go_wp2_with fail
  refine (eqFloat32S_any _ _ _ _ _ x_a.rd t_a.rd (hma) (hma) (rfl)).mono ?_
  rintro e w8 ⟨rfl, hd⟩
  have hb := below_of_drew hd
  clear hd
  replace x_a := x_a.below hb
  replace t_a := t_a.below hb
  have hs_w8 : w7.heap.size ≤ w8.heap.size := hb.size
  replace hT := below_to hT hb hT.size
  clear hb
  clear t_a
  go_wp2
  go_ret
  exact ⟨rfl, hT⟩

/-! The row's step, and the statement. -/
section
open Go.ChangeShapes Go.WideShapes Go.ChangeAt Go.RowKit
set_option maxRecDepth 100000 in
theorem lawBandOf_lifted (os : Os) (started : os.Started) (H : Type) (enc : TypeId × Value → H) :
    ReturnsInHanded {} Try.checked os 3 .any (Rows.fnExactBandOfSpec.pre6 enc Try.prog Try.f3 Rows.fnExactBandOfRow.domain false) (Rows.fnExactBandOfSpec.post enc Try.prog Try.f3 false true false false) := by
  refine returnsInHanded_of_change (C := Try.checked) own_knob started (by kernel_rfl) Try.func3
    (ChangeSpec.witness6 (enc := enc) (C := Try.checked) false ⟨#[], #[.slice none 0 0, .float .f32 0], []⟩ 8 (by kernel_rfl) (by kernel_rfl) (by kernel_rfl) (by kernel_rfl)) ?_
  intro W base args ds gs before hval0 hW hcnd _
  have hval : ∀ (j : Nat) t v, Try.f3.params[j]? = some t → args[j]? = some v → Value.okWide Try.prog W .any base t v := hval0
  have hW' := hW
  obtain ⟨p, q, hA0, hV, rfl, hfz, hnd⟩ := hW
  have hA : DataW.TrodAll enc Try.prog W 0 (fun _ => true) true Try.f3.params.toList args.toList ds p := hA0
  have hold := fun x hx => hW'.lt x hx
  rw [Try.params3] at hA hval
  have hl : laidOutB Try.prog = true := by kernel_rfl
  obtain ⟨v0, vs0, d0, ds0, p0, q0, hargs, rfl, rfl, h0, r0⟩ := trodAll_cons hA
  obtain ⟨v1, vs1, d1, ds1, p1, q1, rfl, rfl, rfl, h1, r1⟩ := trodAll_cons r0
  obtain ⟨rfl, rfl, rfl⟩ := trodAll_nil r1
  obtain rfl : args = #[v0, v1] := by cases args; simp_all
  obtain ⟨rfl, rfl⟩ := trodVars_none hV
  obtain ⟨A0, n0, c0, rfl⟩ := okWide_slice Try.underlying22 (hval 0 22 v0 rfl rfl)
  obtain ⟨xa, hr0⟩ := rd_of_trod fV Try.underlying22 (by kernel_rfl) (elem_float Try.underlying23) h0
  obtain ⟨sh, rfl, -, -, w1⟩ := open_float Try.underlying23 (hval 1 23 v1 rfl rfl) h1
  clear hA0 hval0
  refine (lawBandOf_any _ xa sh W hr0).mono fun e W' ⟨he, hg⟩ => ?_
  subst he
  exact ⟨_, rfl, post_below (pa := _) (pv := []) hW' (fun _ _ _ => (trodAll_cons_mk (shut_bool Try.underlying4 _) trodAll_mk0)) (fun sp hsp => (trodAll_cons_mk (WideElems.Trod_stays hl (by kernel_rfl) (of_decide_eq_true (by kernel_rfl)) h0 (fun x hx => hg.same (hold x (by simp [hx]))) (fun x hx => hsp x (by simp [hx]))) (trodAll_cons_mk (WideElems.Trod_stays hl (by kernel_rfl) (of_decide_eq_true (by kernel_rfl)) h1 (fun x hx => hg.same (hold x (by simp [hx]))) (fun x hx => hsp x (by simp [hx]))) trodAll_mk0))) (fun _ _ => rfl) rfl
    hg (ok_one (by kernel_rfl) rfl (okWide_bool_mk Try.underlying4 _))⟩

theorem fnBandOf_holds : Rows.FnExactBandOfSaid :=
  OpenClaim.holds_of_wide 3 Try.f3 rfl rfl rfl rfl rfl rfl rfl ⟨rfl, rfl, rfl, rfl, rfl⟩ rfl rfl rfl rfl rfl (by kernel_rfl) Try.func3 (by kernel_rfl)
    (of_decide_eq_true (by kernel_rfl)) (by unfold Func.isWrapper; first | (rw [if_pos (by decide +kernel)]; kernel_rfl) | (rw [if_neg (by decide +kernel)]; exact ⟨rfl, rfl⟩))
    (fun os started H enc _ => lawBandOf_lifted os started H enc)
end
#print axioms fnBandOf_holds
end Go.Proofs.Ytchcgapgpflknaa
