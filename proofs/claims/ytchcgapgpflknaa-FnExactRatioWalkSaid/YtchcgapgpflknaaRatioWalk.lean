/-
  For all bits and chances: the program's RatioWalk returns what the reference's returns. No condition.
-/
import Derived.Test.YtchcgapgpflknaaRatio
import Derived.Test.YtchcgapgpflknaaLw
import Derived.Test.YtchcgapgpflknaaOpen
namespace Go.Proofs.Ytchcgapgpflknaa
open Go.RowKit
attribute [local go_sem] run_up_


set_option maxHeartbeats 3200000 in
theorem lawRatioWalk_any (va : Value) (xa : List Bool) (lo : Nat) (hi : Nat) (w : World) (hra : Rd bV w va xa) :
    Calls Try.prog 6 #[va, .float .f32 lo, .float .f32 hi] w fun e w' => e = .returned (.bool true) ∧ Below w.heap.size w w' := by
  have HRa := Lib.hid hra
  obtain ⟨Aa, capa, rfl, hcapa, hAa⟩ := hra
  clear hAa
  by_cases hna : 1048576 < xa.length
  · go_enter Try.func6, Try.ntmps6
    go_wp2
    go_ret
    exact ⟨rfl, Below.refl _ _⟩
  have hma : xa.length ≤ 1099511627776 := by omega
  go_enter Try.func6, Try.ntmps6
  have hT := Below.refl w.heap.size w
  go_wp2_with fail
  refine (toBoolS_any _ xa _ (HRa.out.below hT) hma).mono ?_
  rintro e w1 ⟨v_ia, rfl, ia, hb, -⟩
  replace ia := ia.ranged
  have hs_w1 : w.heap.size ≤ w1.heap.size := hb.size
  replace hT := below_to hT hb hT.size
  clear hb
  go_wp2_with fail
  refine (specRatioWalk_any _ xa hma lo hi _ ia.rd).mono ?_
  rintro e w2 ⟨v_w_0, y_w_0, rfl, w_0, l_w_0, a_w_0, hb⟩
  have A_w_0 := Lib.hid a_w_0
  clear a_w_0
  replace w_0 := w_0.ranged
  replace ia := ia.below hb
  have hs_w2 : w1.heap.size ≤ w2.heap.size := hb.size
  replace hT := below_to hT hb hT.size
  clear hb
  clear ia
  go_wp2_with fail
  refine (toBoolS_any _ xa _ (HRa.out.below hT) hma).mono ?_
  rintro e w3 ⟨v_x_a, rfl, x_a, hb, -⟩
  replace x_a := x_a.ranged
  replace w_0 := w_0.below hb
  have hs_w3 : w2.heap.size ≤ w3.heap.size := hb.size
  replace hT := below_to hT hb hT.size
  clear hb
  go_wp2_with fail
  refine (implRatioWalk_any _ xa hma lo hi _ x_a.rd).mono ?_
  rintro e w4 ⟨v_g_0, y_g_0, rfl, g_0, l_g_0, a_g_0, hb⟩
  have A_g_0 := Lib.hid a_g_0
  clear a_g_0
  replace g_0 := g_0.ranged
  replace w_0 := w_0.below hb
  replace x_a := x_a.below hb
  have hs_w4 : w3.heap.size ≤ w4.heap.size := hb.size
  replace hT := below_to hT hb hT.size
  clear hb
  go_wp2_with fail
  refine (eqFloat32S_any _ _ _ _ _ g_0.rd w_0.rd (l_g_0) (l_w_0) (A_g_0.out.trans A_w_0.out.symm)).mono ?_
  rintro e w5 ⟨rfl, hd⟩
  have hb := below_of_drew hd
  clear hd
  replace w_0 := w_0.below hb
  replace x_a := x_a.below hb
  replace g_0 := g_0.below hb
  have hs_w5 : w4.heap.size ≤ w5.heap.size := hb.size
  replace hT := below_to hT hb hT.size
  clear hb
  go_wp2_with fail
  refine (toBoolS_any _ xa _ (HRa.out.below hT) hma).mono ?_
  rintro e w6 ⟨v_t_a, rfl, t_a, hb, -⟩
  replace t_a := t_a.ranged
  replace w_0 := w_0.below hb
  replace x_a := x_a.below hb
  replace g_0 := g_0.below hb
  have hs_w6 : w5.heap.size ≤ w6.heap.size := hb.size
  replace hT := below_to hT hb hT.size
  clear hb
  go_wp2_with fail
  refine (eqBoolS_any _ _ _ _ _ x_a.rd t_a.rd (hma) (hma) (rfl)).mono ?_
  rintro e w7 ⟨rfl, hd⟩
  have hb := below_of_drew hd
  clear hd
  replace w_0 := w_0.below hb
  replace x_a := x_a.below hb
  replace g_0 := g_0.below hb
  replace t_a := t_a.below hb
  have hs_w7 : w6.heap.size ≤ w7.heap.size := hb.size
  replace hT := below_to hT hb hT.size
  clear hb
  clear t_a
  go_wp2_with fail
  refine (markBoolS_any _ _ _ (by omega) (by omega) _ _ x_a.own (hma) (by omega)).mono ?_
  rintro e w8 ⟨rfl, om, hg⟩
  have ht := Touch.of_grown hg x_a.lt
  have hs_w8 : w7.heap.size ≤ w8.heap.size := ht.size
  have hb := Below.refl w7.heap.size w7
  replace w_0 := (w_0.below hb).touch ht (by omega)
  replace g_0 := (g_0.below hb).touch ht (by omega)
  replace hT := (below_to hT hb hT.size).trans (ht.below (by omega) (by omega))
  replace x_a := x_a.again om
  clear om hg ht hb
  clear x_a
  go_wp2_with fail
  refine (eqFloat32S_any _ _ _ _ _ g_0.rd w_0.rd (l_g_0) (l_w_0) (A_g_0.out.trans A_w_0.out.symm)).mono ?_
  rintro e w9 ⟨rfl, hd⟩
  have hb := below_of_drew hd
  clear hd
  replace w_0 := w_0.below hb
  replace g_0 := g_0.below hb
  have hs_w9 : w8.heap.size ≤ w9.heap.size := hb.size
  replace hT := below_to hT hb hT.size
  clear hb
  go_wp2_with fail
  refine (markFloat32S_any _ _ _ (by omega) (by omega) _ _ g_0.own (l_g_0) (by omega)).mono ?_
  rintro e w10 ⟨rfl, om, hg⟩
  have ht := Touch.of_grown hg g_0.lt
  have hs_w10 : w9.heap.size ≤ w10.heap.size := ht.size
  have hb := Below.refl w9.heap.size w9
  replace w_0 := (w_0.below hb).touch ht (by omega)
  replace hT := (below_to hT hb hT.size).trans (ht.below (by omega) (by omega))
  replace g_0 := g_0.again om
  clear om hg ht hb
  go_wp2_with fail
  refine (heldFloat32S_any _ (y_g_0).length _ (by omega) (by omega) _ g_0.rd (l_g_0)).mono ?_
  rintro e z11 ⟨rfl, rfl⟩
  go_wp2_with fail
  refine (toBoolS_any _ xa _ (HRa.out.below hT) hma).mono ?_
  rintro e w12 ⟨v_ja, rfl, ja, hb, -⟩
  replace ja := ja.ranged
  replace w_0 := w_0.below hb
  replace g_0 := g_0.below hb
  have hs_w12 : w10.heap.size ≤ w12.heap.size := hb.size
  replace hT := below_to hT hb hT.size
  clear hb
  go_wp2_with fail
  refine (implRatioWalk_any _ xa hma lo hi _ ja.rd).mono ?_
  rintro e w13 ⟨v_h_0, y_h_0, rfl, h_0, l_h_0, a_h_0, hb⟩
  have A_h_0 := Lib.hid a_h_0
  clear a_h_0
  replace h_0 := h_0.ranged
  replace w_0 := w_0.below hb
  replace g_0 := g_0.below hb
  replace ja := ja.below hb
  have hs_w13 : w12.heap.size ≤ w13.heap.size := hb.size
  replace hT := below_to hT hb hT.size
  clear hb
  clear ja
  go_wp2_with fail
  refine (eqFloat32S_any _ _ _ _ _ h_0.rd w_0.rd (l_h_0) (l_w_0) (A_h_0.out.trans A_w_0.out.symm)).mono ?_
  rintro e w14 ⟨rfl, hd⟩
  have hb := below_of_drew hd
  clear hd
  replace w_0 := w_0.below hb
  replace g_0 := g_0.below hb
  replace h_0 := h_0.below hb
  have hs_w14 : w13.heap.size ≤ w14.heap.size := hb.size
  replace hT := below_to hT hb hT.size
  clear hb
  go_wp2_with fail
  refine (heldFloat32S_any _ (y_g_0).length _ (by omega) (by omega) _ g_0.rd (l_g_0)).mono ?_
  rintro e z15 ⟨rfl, rfl⟩
  go_wp2
  go_ret
  exact ⟨rfl, hT⟩

/-! The row's step, and the statement. -/
section
open Go.ChangeShapes Go.WideShapes Go.ChangeAt Go.RowKit
set_option maxRecDepth 100000 in
theorem lawRatioWalk_lifted (os : Os) (started : os.Started) (H : Type) (enc : TypeId × Value → H) :
    ReturnsInHanded {} Try.checked os 6 .any (Rows.fnExactRatioWalkSpec.pre6 enc Try.prog Try.f6 Rows.fnExactRatioWalkRow.domain false) (Rows.fnExactRatioWalkSpec.post enc Try.prog Try.f6 false true false false) := by
  refine returnsInHanded_of_change (C := Try.checked) own_knob started (by kernel_rfl) Try.func6
    (ChangeSpec.witness6 (enc := enc) (C := Try.checked) false ⟨#[], #[.slice none 0 0, .float .f32 0, .float .f32 0], []⟩ 8 (by kernel_rfl) (by kernel_rfl) (by kernel_rfl) (by kernel_rfl)) ?_
  intro W base args ds gs before hval0 hW hcnd _
  have hval : ∀ (j : Nat) t v, Try.f6.params[j]? = some t → args[j]? = some v → Value.okWide Try.prog W .any base t v := hval0
  have hW' := hW
  obtain ⟨p, q, hA0, hV, rfl, hfz, hnd⟩ := hW
  have hA : DataW.TrodAll enc Try.prog W 0 (fun _ => true) true Try.f6.params.toList args.toList ds p := hA0
  have hold := fun x hx => hW'.lt x hx
  rw [Try.params6] at hA hval
  have hl : laidOutB Try.prog = true := by kernel_rfl
  obtain ⟨v0, vs0, d0, ds0, p0, q0, hargs, rfl, rfl, h0, r0⟩ := trodAll_cons hA
  obtain ⟨v1, vs1, d1, ds1, p1, q1, rfl, rfl, rfl, h1, r1⟩ := trodAll_cons r0
  obtain ⟨v2, vs2, d2, ds2, p2, q2, rfl, rfl, rfl, h2, r2⟩ := trodAll_cons r1
  obtain ⟨rfl, rfl, rfl⟩ := trodAll_nil r2
  obtain rfl : args = #[v0, v1, v2] := by cases args; simp_all
  obtain ⟨rfl, rfl⟩ := trodVars_none hV
  obtain ⟨A0, n0, c0, rfl⟩ := okWide_slice Try.underlying34 (hval 0 34 v0 rfl rfl)
  obtain ⟨xa, hr0⟩ := rd_of_trod bV Try.underlying34 (by kernel_rfl) (elem_bool Try.underlying4) h0
  obtain ⟨lo, rfl, -, -, w1⟩ := open_float Try.underlying23 (hval 1 23 v1 rfl rfl) h1
  obtain ⟨hi, rfl, -, -, w2⟩ := open_float Try.underlying23 (hval 2 23 v2 rfl rfl) h2
  clear hA0 hval0
  refine (lawRatioWalk_any _ xa lo hi W hr0).mono fun e W' ⟨he, hg⟩ => ?_
  subst he
  exact ⟨_, rfl, post_below (pa := _) (pv := []) hW' (fun _ _ _ => (trodAll_cons_mk (shut_bool Try.underlying4 _) trodAll_mk0)) (fun sp hsp => (trodAll_cons_mk (WideElems.Trod_stays hl (by kernel_rfl) (of_decide_eq_true (by kernel_rfl)) h0 (fun x hx => hg.same (hold x (by simp [hx]))) (fun x hx => hsp x (by simp [hx]))) (trodAll_cons_mk (WideElems.Trod_stays hl (by kernel_rfl) (of_decide_eq_true (by kernel_rfl)) h1 (fun x hx => hg.same (hold x (by simp [hx]))) (fun x hx => hsp x (by simp [hx]))) (trodAll_cons_mk (WideElems.Trod_stays hl (by kernel_rfl) (of_decide_eq_true (by kernel_rfl)) h2 (fun x hx => hg.same (hold x (by simp [hx]))) (fun x hx => hsp x (by simp [hx]))) trodAll_mk0)))) (fun _ _ => rfl) rfl
    hg (ok_one (by kernel_rfl) rfl (okWide_bool_mk Try.underlying4 _))⟩

theorem fnRatioWalk_holds : Rows.FnExactRatioWalkSaid :=
  OpenClaim.holds_of_wide 6 Try.f6 rfl rfl rfl rfl rfl rfl rfl ⟨rfl, rfl, rfl, rfl, rfl⟩ rfl rfl rfl rfl rfl (by kernel_rfl) Try.func6 (by kernel_rfl)
    (of_decide_eq_true (by kernel_rfl)) (by unfold Func.isWrapper; first | (rw [if_pos (by decide +kernel)]; kernel_rfl) | (rw [if_neg (by decide +kernel)]; exact ⟨rfl, rfl⟩))
    (fun os started H enc _ => lawRatioWalk_lifted os started H enc)
end
#print axioms fnRatioWalk_holds
end Go.Proofs.Ytchcgapgpflknaa
