/-
  For every list of cycles and every number: the program's OrderOfCycles returns what the reference's returns. No condition.
-/
import Derived.Test.YthdnelfggmlalaaOrdS
import Derived.Test.YthdnelfggmlalaaSS
import Derived.Test.YthdnelfggmlalaaPost
import Derived.Test.YthdnelfggmlalaaOpen
namespace Go.Proofs.Ythdnelfggmlalaa
open Go.RowKit

set_option maxRecDepth 100000 in
set_option maxHeartbeats 1000000 in
theorem lawOrderOfCycles_any (va : Value) (XS : List (List Int)) (n : Int) (w : World) (hra : RdSS w va XS) (hx1 : XS.length ≤ 9223372036854775807) (hx2 : ∀ c ∈ XS, c.length ≤ 9223372036854775807) :
    Calls Try.prog 4 #[va, .int .i64 n] w fun e w' => e = .returned (.bool true) ∧ Below w.heap.size w w' := by
  have HRa := Lib.hid hra
  have HX2 := Lib.hid hx2
  obtain ⟨us, hr, hul, -⟩ := hra
  obtain ⟨Aa, capa, rfl, hcapa, -⟩ := hr
  rw [hul] at hcapa HRa ⊢
  clear hx2
  go_enter Try.func4, Try.ntmps4
  have hT := Below.refl w.heap.size w
  go_wp2_with fail
  refine (szInt64SS_any _ XS 1048576 (by omega) (by omega) w HRa.out hx1 HX2.out).mono ?_
  rintro e w0 ⟨r, rfl, hr, rfl⟩
  by_cases hneg : r < 0
  · go_wp2
    go_ret
    exact ⟨rfl, hT⟩
  have hX : XS.length ≤ 1048576 ∧ XS.flatten.length ≤ 1048576 := by omega
  obtain ⟨hX1, hX2⟩ := hX
  have hL := cycR_len XS n
  clear hr
  go_wp2_with fail
  refine (toInt64SS_any _ XS (by omega) (by omega) _ (HRa.out.below hT)).mono ?_
  rintro e w1 ⟨via, rfl, ia, hb⟩
  have hs1 := hb.size
  replace hT := below_to hT hb hT.size
  clear hb
  go_wp2_with fail
  refine (specCyc_any _ XS n (by omega) (by omega) _ ia.rd).mono ?_
  rintro e w2 ⟨vow, rfl, ow, hb⟩
  replace ow := ow.ranged
  have hs2 := hb.size
  replace ia := ia.below hb
  replace hT := below_to hT hb hT.size
  clear hb
  clear ia
  go_wp2_with fail
  refine (toInt64SS_any _ XS (by omega) (by omega) _ (HRa.out.below hT)).mono ?_
  rintro e w3 ⟨vxa, rfl, xa, hb⟩
  have hs3 := hb.size
  replace ow := ow.below hb
  replace hT := below_to hT hb hT.size
  clear hb
  go_wp2_with fail
  refine (implCyc_any _ XS n (by omega) (by omega) _ xa.rd).mono ?_
  rintro e w4 ⟨vog, rfl, og, hb⟩
  replace og := og.ranged
  have hs4 := hb.size
  replace ow := ow.below hb
  replace xa := xa.below hb
  replace hT := below_to hT hb hT.size
  clear hb
  go_wp2_with fail
  refine (eqInt64S_any _ _ _ _ _ og.rd ow.rd (by omega) (by omega) rfl).mono ?_
  rintro e w5 ⟨rfl, hd⟩
  have hb := below_of_drew hd
  clear hd
  have hs5 := hb.size
  replace ow := ow.below hb
  replace og := og.below hb
  replace xa := xa.below hb
  replace hT := below_to hT hb hT.size
  clear hb
  go_wp2_with fail
  refine (toInt64SS_any _ XS (by omega) (by omega) _ (HRa.out.below hT)).mono ?_
  rintro e w6 ⟨vta, rfl, ta, hb⟩
  have hs6 := hb.size
  replace ow := ow.below hb
  replace og := og.below hb
  replace xa := xa.below hb
  replace hT := below_to hT hb hT.size
  clear hb
  go_wp2_with fail
  refine (eqInt64SS_any _ _ XS (by omega) (by omega) _ xa.rd ta.rd).mono ?_
  rintro e w7 ⟨rfl, hb⟩
  have hs7 := hb.size
  replace ow := ow.below hb
  replace og := og.below hb
  replace xa := xa.below hb
  replace ta := ta.below hb
  replace hT := below_to hT hb hT.size
  clear hb
  clear ta
  go_wp2_with fail
  refine (markInt64SS_any _ XS 1 _ _ (by omega) (by omega) (by omega) (by omega) _ xa).mono ?_
  rintro e w8 ⟨q, rfl, hq, ht⟩
  have hs8 := ht.size
  replace ow := ow.touch ht (.inl (by omega))
  replace og := og.touch ht (.inr (by omega))
  replace hT := hT.trans (ht.below (by omega) (by omega))
  clear ht xa
  go_wp2_with fail
  refine (eqInt64S_any _ _ _ _ _ og.rd ow.rd (by omega) (by omega) rfl).mono ?_
  rintro e w9 ⟨rfl, hd⟩
  have hb := below_of_drew hd
  clear hd
  have hs9 := hb.size
  replace ow := ow.below hb
  replace og := og.below hb
  replace hT := below_to hT hb hT.size
  clear hb
  go_wp2_with fail
  refine (markInt64S_any _ _ 1 (by omega) (by omega) _ _ og.own (by omega) (by omega)).mono ?_
  rintro e w10 ⟨rfl, om, hg⟩
  have ht := Touch.of_grown hg og.lt
  have hs10 := ht.size
  replace ow := ow.touch ht (.inl (by omega))
  replace hT := hT.trans (ht.below (by omega) (by omega))
  replace og := og.again om
  clear om hg ht
  go_wp2_with fail
  refine (heldInt64S_any _ (cycR XS n).length 1 (by omega) (by omega) _ og.rd (by omega)).mono ?_
  rintro e z11 ⟨rfl, rfl⟩
  go_wp2_with fail
  refine (toInt64SS_any _ XS (by omega) (by omega) _ (HRa.out.below hT)).mono ?_
  rintro e w12 ⟨vja, rfl, ja, hb⟩
  have hs12 := hb.size
  replace ow := ow.below hb
  replace og := og.below hb
  replace hT := below_to hT hb hT.size
  clear hb
  go_wp2_with fail
  refine (implCyc_any _ XS n (by omega) (by omega) _ ja.rd).mono ?_
  rintro e w13 ⟨voh, rfl, oh, hb⟩
  replace oh := oh.ranged
  have hs13 := hb.size
  replace ow := ow.below hb
  replace og := og.below hb
  replace ja := ja.below hb
  replace hT := below_to hT hb hT.size
  clear hb
  clear ja
  go_wp2_with fail
  refine (eqInt64S_any _ _ _ _ _ oh.rd ow.rd (by omega) (by omega) rfl).mono ?_
  rintro e w14 ⟨rfl, hd⟩
  have hb := below_of_drew hd
  clear hd
  have hs14 := hb.size
  replace ow := ow.below hb
  replace og := og.below hb
  replace oh := oh.below hb
  replace hT := below_to hT hb hT.size
  clear hb
  go_wp2_with fail
  refine (heldInt64S_any _ (cycR XS n).length 1 (by omega) (by omega) _ og.rd (by omega)).mono ?_
  rintro e z15 ⟨rfl, rfl⟩
  go_wp2
  go_ret
  exact ⟨rfl, hT⟩

/-! The row's step, and the statement. -/
section
open Go.ChangeShapes Go.WideShapes Go.ChangeAt Go.RowKit
set_option maxRecDepth 100000 in
theorem lawOrderOfCycles_lifted (os : Os) (started : os.Started) (H : Type) (enc : TypeId × Value → H) :
    ReturnsInHanded {} Try.checked os 4 .any (Rows.fnExactOrderOfCyclesSpec.pre6 enc Try.prog Try.f4 Rows.fnExactOrderOfCyclesRow.domain false) (Rows.fnExactOrderOfCyclesSpec.post enc Try.prog Try.f4 false true false false) := by
  refine returnsInHanded_of_change (C := Try.checked) own_knob started (by kernel_rfl) Try.func4
    (ChangeSpec.witness6 (enc := enc) (C := Try.checked) false ⟨#[], #[.slice none 0 0, .int .i64 0], []⟩ 8 (by kernel_rfl) (by kernel_rfl) (by kernel_rfl) (by kernel_rfl)) ?_
  intro W base args ds gs before hval0 hW hcnd _
  have hval : ∀ (j : Nat) t v, Try.f4.params[j]? = some t → args[j]? = some v → Value.okWide Try.prog W .any base t v := hval0
  have hW' := hW
  obtain ⟨p, q, hA0, hV, rfl, hfz, hnd⟩ := hW
  have hA : DataW.TrodAll enc Try.prog W 0 (fun _ => true) true Try.f4.params.toList args.toList ds p := hA0
  have hold := fun x hx => hW'.lt x hx
  rw [Try.params4] at hA hval
  have hl : laidOutB Try.prog = true := by kernel_rfl
  obtain ⟨v0, vs0, d0, ds0, p0, q0, hargs, rfl, rfl, h0, r0⟩ := trodAll_cons hA
  obtain ⟨v1, vs1, d1, ds1, p1, q1, rfl, rfl, rfl, h1, r1⟩ := trodAll_cons r0
  obtain ⟨rfl, rfl, rfl⟩ := trodAll_nil r1
  obtain rfl : args = #[v0, v1] := by cases args; simp_all
  obtain ⟨rfl, rfl⟩ := trodVars_none hV
  obtain ⟨A0, n0, c0, rfl⟩ := okWide_slice Try.underlying34 (hval 0 34 v0 rfl rfl)
  obtain ⟨xa, hr0, hx1, hx2⟩ := rdSS_of_trod Try.underlying34 (by kernel_rfl) Try.underlying36 (by kernel_rfl) Try.underlying2 h0
  obtain ⟨n, rfl, -, -, w1⟩ := open_int Try.underlying2 (hval 1 2 v1 rfl rfl) h1
  clear hA0 hval0
  refine (lawOrderOfCycles_any _ xa n W hr0 hx1 hx2).mono fun e W' ⟨he, hg⟩ => ?_
  subst he
  exact ⟨_, rfl, post_below (pa := _) (pv := []) hW' (fun _ _ _ => (trodAll_cons_mk (shut_bool Try.underlying4 _) trodAll_mk0)) (fun sp hsp => (trodAll_cons_mk (WideElems.Trod_stays hl (by kernel_rfl) (of_decide_eq_true (by kernel_rfl)) h0 (fun x hx => hg.same (hold x (by simp [hx]))) (fun x hx => hsp x (by simp [hx]))) (trodAll_cons_mk (WideElems.Trod_stays hl (by kernel_rfl) (of_decide_eq_true (by kernel_rfl)) h1 (fun x hx => hg.same (hold x (by simp [hx]))) (fun x hx => hsp x (by simp [hx]))) trodAll_mk0))) (fun _ _ => rfl) rfl
    hg (ok_one (by kernel_rfl) rfl (okWide_bool_mk Try.underlying4 _))⟩

theorem fnOrderOfCycles_holds : Rows.FnExactOrderOfCyclesSaid :=
  OpenClaim.holds_of_wide 4 Try.f4 rfl rfl rfl rfl rfl rfl rfl ⟨rfl, rfl, rfl, rfl, rfl⟩ rfl rfl rfl rfl rfl (by kernel_rfl) Try.func4 (by kernel_rfl)
    (of_decide_eq_true (by kernel_rfl)) (by unfold Func.isWrapper; first | (rw [if_pos (by decide +kernel)]; kernel_rfl) | (rw [if_neg (by decide +kernel)]; exact ⟨rfl, rfl⟩))
    (fun os started H enc _ => lawOrderOfCycles_lifted os started H enc)
end
#print axioms fnOrderOfCycles_holds
end Go.Proofs.Ythdnelfggmlalaa
