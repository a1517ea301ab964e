/-
  For all bits, chances and bounds: the program's RatioStop returns what the reference's returns. No condition.
-/
import Derived.Test.YtchcgapgpflknaaRatStop
import Derived.Test.YtchcgapgpflknaaLw
import Derived.Test.YtchcgapgpflknaaOpen
namespace Go.Proofs.Ytchcgapgpflknaa
open Go.RowKit
attribute [local go_sem] run_up_


set_option maxHeartbeats 3200000 in
theorem lawRatioStop_any (va : Value) (xa : List Bool) (lo : Nat) (hi : Nat) (le : Nat) (ri : Nat) (w : World) (hra : Rd bV w va xa) :
    Calls Try.prog 7 #[va, .float .f32 lo, .float .f32 hi, .float .f32 le, .float .f32 ri] w fun e w' => e = .returned (.bool true) ∧ Below w.heap.size w w' := by
  have HRa := Lib.hid hra
  obtain ⟨Aa, capa, rfl, hcapa, hAa⟩ := hra
  clear hAa
  by_cases hna : 1048576 < xa.length
  · go_enter Try.func7, Try.ntmps7
    go_wp2
    go_ret
    exact ⟨rfl, Below.refl _ _⟩
  have hma : xa.length ≤ 1099511627776 := by omega
  go_enter Try.func7, Try.ntmps7
  have hT := Below.refl w.heap.size w
  go_wp2_with fail
  refine (toBoolS_any _ xa _ (HRa.out.below hT) hma).mono ?_
  rintro e w1 ⟨v_ia, rfl, ia, hb, -⟩
  replace ia := ia.ranged
  have hs_w1 : w.heap.size ≤ w1.heap.size := hb.size
  replace hT := below_to hT hb hT.size
  clear hb
  go_wp2_with fail
  refine (specRatioStop_any _ xa hma lo hi le ri _ ia.rd).mono ?_
  rintro e w2 ⟨rfl, hb⟩
  replace ia := ia.below hb
  have hs_w2 : w1.heap.size ≤ w2.heap.size := hb.size
  replace hT := below_to hT hb hT.size
  clear hb
  clear ia
  go_wp2_with fail
  refine (toBoolS_any _ xa _ (HRa.out.below hT) hma).mono ?_
  rintro e w3 ⟨v_x_a, rfl, x_a, hb, -⟩
  replace x_a := x_a.ranged
  have hs_w3 : w2.heap.size ≤ w3.heap.size := hb.size
  replace hT := below_to hT hb hT.size
  clear hb
  go_wp2_with fail
  refine (implRatioStop_any _ xa hma lo hi le ri _ x_a.rd).mono ?_
  rintro e w4 ⟨rfl, hb⟩
  replace x_a := x_a.below hb
  have hs_w4 : w3.heap.size ≤ w4.heap.size := hb.size
  replace hT := below_to hT hb hT.size
  clear hb
  go_wp2_with fail
  refine (toBoolS_any _ xa _ (HRa.out.below hT) hma).mono ?_
  rintro e w5 ⟨v_t_a, rfl, t_a, hb, -⟩
  replace t_a := t_a.ranged
  replace x_a := x_a.below hb
  have hs_w5 : w4.heap.size ≤ w5.heap.size := hb.size
  replace hT := below_to hT hb hT.size
  clear hb
  go_wp2_with fail
  refine (eqBoolS_any _ _ _ _ _ x_a.rd t_a.rd (hma) (hma) (rfl)).mono ?_
  rintro e w6 ⟨rfl, hd⟩
  have hb := below_of_drew hd
  clear hd
  replace x_a := x_a.below hb
  replace t_a := t_a.below hb
  have hs_w6 : w5.heap.size ≤ w6.heap.size := hb.size
  replace hT := below_to hT hb hT.size
  clear hb
  clear t_a
  go_wp2
  go_ret
  exact ⟨rfl, hT⟩

/-! The row's step, and the statement. -/
section
open Go.ChangeShapes Go.WideShapes Go.ChangeAt Go.RowKit
set_option maxRecDepth 100000 in
theorem lawRatioStop_lifted (os : Os) (started : os.Started) (H : Type) (enc : TypeId × Value → H) :
    ReturnsInHanded {} Try.checked os 7 .any (Rows.fnExactRatioStopSpec.pre6 enc Try.prog Try.f7 Rows.fnExactRatioStopRow.domain false) (Rows.fnExactRatioStopSpec.post enc Try.prog Try.f7 false true false false) := by
  refine returnsInHanded_of_change (C := Try.checked) own_knob started (by kernel_rfl) Try.func7
    (ChangeSpec.witness6 (enc := enc) (C := Try.checked) false ⟨#[], #[.slice none 0 0, .float .f32 0, .float .f32 0, .float .f32 0, .float .f32 0], []⟩ 8 (by kernel_rfl) (by kernel_rfl) (by kernel_rfl) (by kernel_rfl)) ?_
  intro W base args ds gs before hval0 hW hcnd _
  have hval : ∀ (j : Nat) t v, Try.f7.params[j]? = some t → args[j]? = some v → Value.okWide Try.prog W .any base t v := hval0
  have hW' := hW
  obtain ⟨p, q, hA0, hV, rfl, hfz, hnd⟩ := hW
  have hA : DataW.TrodAll enc Try.prog W 0 (fun _ => true) true Try.f7.params.toList args.toList ds p := hA0
  have hold := fun x hx => hW'.lt x hx
  rw [Try.params7] at hA hval
  have hl : laidOutB Try.prog = true := by kernel_rfl
  obtain ⟨v0, vs0, d0, ds0, p0, q0, hargs, rfl, rfl, h0, r0⟩ := trodAll_cons hA
  obtain ⟨v1, vs1, d1, ds1, p1, q1, rfl, rfl, rfl, h1, r1⟩ := trodAll_cons r0
  obtain ⟨v2, vs2, d2, ds2, p2, q2, rfl, rfl, rfl, h2, r2⟩ := trodAll_cons r1
  obtain ⟨v3, vs3, d3, ds3, p3, q3, rfl, rfl, rfl, h3, r3⟩ := trodAll_cons r2
  obtain ⟨v4, vs4, d4, ds4, p4, q4, rfl, rfl, rfl, h4, r4⟩ := trodAll_cons r3
  obtain ⟨rfl, rfl, rfl⟩ := trodAll_nil r4
  obtain rfl : args = #[v0, v1, v2, v3, v4] := by cases args; simp_all
  obtain ⟨rfl, rfl⟩ := trodVars_none hV
  obtain ⟨A0, n0, c0, rfl⟩ := okWide_slice Try.underlying34 (hval 0 34 v0 rfl rfl)
  obtain ⟨xa, hr0⟩ := rd_of_trod bV Try.underlying34 (by kernel_rfl) (elem_bool Try.underlying4) h0
  obtain ⟨lo, rfl, -, -, w1⟩ := open_float Try.underlying23 (hval 1 23 v1 rfl rfl) h1
  obtain ⟨hi, rfl, -, -, w2⟩ := open_float Try.underlying23 (hval 2 23 v2 rfl rfl) h2
  obtain ⟨le, rfl, -, -, w3⟩ := open_float Try.underlying23 (hval 3 23 v3 rfl rfl) h3
  obtain ⟨ri, rfl, -, -, w4⟩ := open_float Try.underlying23 (hval 4 23 v4 rfl rfl) h4
  clear hA0 hval0
  refine (lawRatioStop_any _ xa lo hi le ri W hr0).mono fun e W' ⟨he, hg⟩ => ?_
  subst he
  exact ⟨_, rfl, post_below (pa := _) (pv := []) hW' (fun _ _ _ => (trodAll_cons_mk (shut_bool Try.underlying4 _) trodAll_mk0)) (fun sp hsp => (trodAll_cons_mk (WideElems.Trod_stays hl (by kernel_rfl) (of_decide_eq_true (by kernel_rfl)) h0 (fun x hx => hg.same (hold x (by simp [hx]))) (fun x hx => hsp x (by simp [hx]))) (trodAll_cons_mk (WideElems.Trod_stays hl (by kernel_rfl) (of_decide_eq_true (by kernel_rfl)) h1 (fun x hx => hg.same (hold x (by simp [hx]))) (fun x hx => hsp x (by simp [hx]))) (trodAll_cons_mk (WideElems.Trod_stays hl (by kernel_rfl) (of_decide_eq_true (by kernel_rfl)) h2 (fun x hx => hg.same (hold x (by simp [hx]))) (fun x hx => hsp x (by simp [hx]))) (trodAll_cons_mk (WideElems.Trod_stays hl (by kernel_rfl) (of_decide_eq_true (by kernel_rfl)) h3 (fun x hx => hg.same (hold x (by simp [hx]))) (fun x hx => hsp x (by simp [hx]))) (trodAll_cons_mk (WideElems.Trod_stays hl (by kernel_rfl) (of_decide_eq_true (by kernel_rfl)) h4 (fun x hx => hg.same (hold x (by simp [hx]))) (fun x hx => hsp x (by simp [hx]))) trodAll_mk0)))))) (fun _ _ => rfl) rfl
    hg (ok_one (by kernel_rfl) rfl (okWide_bool_mk Try.underlying4 _))⟩

theorem fnRatioStop_holds : Rows.FnExactRatioStopSaid :=
  OpenClaim.holds_of_wide 7 Try.f7 rfl rfl rfl rfl rfl rfl rfl ⟨rfl, rfl, rfl, rfl, rfl⟩ rfl rfl rfl rfl rfl (by kernel_rfl) Try.func7 (by kernel_rfl)
    (of_decide_eq_true (by kernel_rfl)) (by unfold Func.isWrapper; first | (rw [if_pos (by decide +kernel)]; kernel_rfl) | (rw [if_neg (by decide +kernel)]; exact ⟨rfl, rfl⟩))
    (fun os started H enc _ => lawRatioStop_lifted os started H enc)
end
#print axioms fnRatioStop_holds
end Go.Proofs.Ytchcgapgpflknaa
