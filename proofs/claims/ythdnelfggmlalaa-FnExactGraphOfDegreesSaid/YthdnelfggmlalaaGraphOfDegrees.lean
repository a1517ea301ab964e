/-
  For every list: the program's GraphOfDegrees returns what the reference's returns. No condition.
-/
import Derived.Test.YthdnelfggmlalaaGrC
import Derived.Test.YthdnelfggmlalaaPost
import Derived.Test.YthdnelfggmlalaaOpen
namespace Go.Proofs.Ythdnelfggmlalaa
open Go.RowKit

set_option maxHeartbeats 1000000 in
theorem lawGraphOfDegrees_any (va : Value) (xa : List Int) (w : World) (hra : Rd iV w va xa) :
    Calls Try.prog 9 #[va] w fun e w' => e = .returned (.bool true) ∧ Below w.heap.size w w' := by
  have HRa := Lib.hid hra
  obtain ⟨Aa, capa, rfl, hcapa, hAa⟩ := hra
  clear hAa
  by_cases hna : 1048576 < xa.length
  · go_enter Try.func9, Try.ntmps9
    go_wp2
    go_ret
    exact ⟨rfl, Below.refl _ _⟩
  have hma : xa.length ≤ 1099511627776 := by omega
  go_enter Try.func9, Try.ntmps9
  have hT := Below.refl w.heap.size w
  go_wp2_with fail
  refine (toInt64S_any _ xa _ (HRa.out.below hT) hma).mono ?_
  rintro e w1 ⟨via, rfl, ia, hb, hform⟩
  clear hform
  replace ia := ia.base_ hT.size
  replace hT := below_to hT hb hT.size
  clear hb
  go_wp2_with fail
  refine (specGraph_any _ xa hma _ ia.rd).mono ?_
  rintro e w2 ⟨vow0, rfl, ow0, hb⟩
  have AP_ia_ow0 := Lib.hid (Own.apart ia (Nat.le_refl _) ow0)
  replace ow0 := ow0.base_ hT.size
  replace ia := ia.below hb
  replace hT := below_to hT hb hT.size
  clear hb
  clear ia
  go_wp2_with fail
  refine (toInt64S_any _ xa _ (HRa.out.below hT) hma).mono ?_
  rintro e w3 ⟨vxa_, rfl, xa_, hb, hform⟩
  clear hform
  have AP_ow0_xa_ := Lib.hid (Own.apart ow0 (Nat.le_refl _) xa_)
  replace xa_ := xa_.base_ hT.size
  replace ow0 := ow0.below hb
  replace hT := below_to hT hb hT.size
  clear hb
  go_wp2_with fail
  refine (implGraph_any _ xa hma _ xa_.rd).mono ?_
  rintro e w4 ⟨vog0, rfl, og0, hb⟩
  have AP_ow0_og0 := Lib.hid (Own.apart ow0 (Nat.le_refl _) og0)
  have AP_xa__og0 := Lib.hid (Own.apart xa_ (Nat.le_refl _) og0)
  replace og0 := og0.base_ hT.size
  replace ow0 := ow0.below hb
  replace xa_ := xa_.below hb
  replace hT := below_to hT hb hT.size
  clear hb
  go_wp2_with fail
  refine (eqInt64S_any _ _ _ _ _ og0.rd ow0.rd (by have := graphR_len xa; omega) (by have := graphR_len xa; omega) rfl).mono ?_
  rintro e w5 ⟨rfl, hd⟩
  have hb := below_of_drew hd
  clear hd
  replace ow0 := ow0.below hb
  replace xa_ := xa_.below hb
  replace og0 := og0.below hb
  replace hT := below_to hT hb hT.size
  clear hb
  go_wp2_with fail
  refine (toInt64S_any _ xa _ (HRa.out.below hT) hma).mono ?_
  rintro e w6 ⟨vta, rfl, ta, hb, hform⟩
  clear hform
  have AP_ow0_ta := Lib.hid (Own.apart ow0 (Nat.le_refl _) ta)
  have AP_xa__ta := Lib.hid (Own.apart xa_ (Nat.le_refl _) ta)
  have AP_og0_ta := Lib.hid (Own.apart og0 (Nat.le_refl _) ta)
  replace ta := ta.base_ hT.size
  replace ow0 := ow0.below hb
  replace xa_ := xa_.below hb
  replace og0 := og0.below hb
  replace hT := below_to hT hb hT.size
  clear hb
  go_wp2_with fail
  refine (eqInt64S_any _ _ _ _ _ xa_.rd ta.rd (by omega) (by omega) rfl).mono ?_
  rintro e w7 ⟨rfl, hd⟩
  have hb := below_of_drew hd
  clear hd
  replace ow0 := ow0.below hb
  replace xa_ := xa_.below hb
  replace og0 := og0.below hb
  replace ta := ta.below hb
  replace hT := below_to hT hb hT.size
  clear hb
  clear ta
  go_wp2_with fail
  refine (markInt64S_any _ _ 1 (by omega) (by omega) w.heap.size _ xa_ (by omega) hT.size).mono ?_
  rintro e w8 ⟨rfl, om, hg⟩
  replace ow0 := ow0.kept hg AP_ow0_xa_.out
  replace og0 := og0.kept hg (apart_symm AP_xa__og0.out)
  replace hT := below_mark hT hg xa_.lt (Nat.le_refl _)
  clear xa_ hg
  have xa_ := om
  clear om
  go_wp2_with fail
  refine (eqInt64S_any _ _ _ _ _ og0.rd ow0.rd (by have := graphR_len xa; omega) (by have := graphR_len xa; omega) rfl).mono ?_
  rintro e w9 ⟨rfl, hd⟩
  have hb := below_of_drew hd
  clear hd
  replace ow0 := ow0.below hb
  replace xa_ := xa_.below hb
  replace og0 := og0.below hb
  replace hT := below_to hT hb hT.size
  clear hb
  go_wp2_with fail
  refine (markInt64S_any _ _ 1 (by omega) (by omega) w.heap.size _ og0 (by have := graphR_len xa; omega) hT.size).mono ?_
  rintro e w10 ⟨rfl, om, hg⟩
  replace ow0 := ow0.kept hg AP_ow0_og0.out
  replace xa_ := xa_.kept hg AP_xa__og0.out
  replace hT := below_mark hT hg og0.lt (Nat.le_refl _)
  clear og0 hg
  have og0 := om
  clear om
  go_wp2_with fail
  refine (heldInt64S_any _ (graphR xa).length 1 (by omega) (by omega) _ og0.rd (by have := graphR_len xa; omega)).mono ?_
  rintro e w11 ⟨rfl, rfl⟩
  go_wp2_with fail
  refine (toInt64S_any _ xa _ (HRa.out.below hT) hma).mono ?_
  rintro e w12 ⟨vja, rfl, ja, hb, hform⟩
  clear hform
  have AP_ow0_ja := Lib.hid (Own.apart ow0 (Nat.le_refl _) ja)
  have AP_xa__ja := Lib.hid (Own.apart xa_ (Nat.le_refl _) ja)
  have AP_og0_ja := Lib.hid (Own.apart og0 (Nat.le_refl _) ja)
  replace ja := ja.base_ hT.size
  replace ow0 := ow0.below hb
  replace xa_ := xa_.below hb
  replace og0 := og0.below hb
  replace hT := below_to hT hb hT.size
  clear hb
  go_wp2_with fail
  refine (implGraph_any _ xa hma _ ja.rd).mono ?_
  rintro e w13 ⟨voh0, rfl, oh0, hb⟩
  have AP_ow0_oh0 := Lib.hid (Own.apart ow0 (Nat.le_refl _) oh0)
  have AP_xa__oh0 := Lib.hid (Own.apart xa_ (Nat.le_refl _) oh0)
  have AP_og0_oh0 := Lib.hid (Own.apart og0 (Nat.le_refl _) oh0)
  have AP_ja_oh0 := Lib.hid (Own.apart ja (Nat.le_refl _) oh0)
  replace oh0 := oh0.base_ hT.size
  replace ow0 := ow0.below hb
  replace xa_ := xa_.below hb
  replace og0 := og0.below hb
  replace ja := ja.below hb
  replace hT := below_to hT hb hT.size
  clear hb
  clear ja
  go_wp2_with fail
  refine (eqInt64S_any _ _ _ _ _ oh0.rd ow0.rd (by have := graphR_len xa; omega) (by have := graphR_len xa; omega) rfl).mono ?_
  rintro e w14 ⟨rfl, hd⟩
  have hb := below_of_drew hd
  clear hd
  replace ow0 := ow0.below hb
  replace xa_ := xa_.below hb
  replace og0 := og0.below hb
  replace oh0 := oh0.below hb
  replace hT := below_to hT hb hT.size
  clear hb
  go_wp2_with fail
  refine (heldInt64S_any _ (graphR xa).length 1 (by omega) (by omega) _ og0.rd (by have := graphR_len xa; omega)).mono ?_
  rintro e w15 ⟨rfl, rfl⟩
  go_wp2
  go_ret
  exact ⟨rfl, hT⟩

/-! The row's step, and the statement. -/
section
open Go.ChangeShapes Go.WideShapes Go.ChangeAt Go.RowKit
set_option maxRecDepth 100000 in
theorem lawGraphOfDegrees_lifted (os : Os) (started : os.Started) (H : Type) (enc : TypeId × Value → H) :
    ReturnsInHanded {} Try.checked os 9 .any (Rows.fnExactGraphOfDegreesSpec.pre6 enc Try.prog Try.f9 Rows.fnExactGraphOfDegreesRow.domain false) (Rows.fnExactGraphOfDegreesSpec.post enc Try.prog Try.f9 false true false false) := by
  refine returnsInHanded_of_change (C := Try.checked) own_knob started (by kernel_rfl) Try.func9
    (ChangeSpec.witness6 (enc := enc) (C := Try.checked) false ⟨#[], #[.slice none 0 0], []⟩ 8 (by kernel_rfl) (by kernel_rfl) (by kernel_rfl) (by kernel_rfl)) ?_
  intro W base args ds gs before hval0 hW hcnd _
  have hval : ∀ (j : Nat) t v, Try.f9.params[j]? = some t → args[j]? = some v → Value.okWide Try.prog W .any base t v := hval0
  have hW' := hW
  obtain ⟨p, q, hA0, hV, rfl, hfz, hnd⟩ := hW
  have hA : DataW.TrodAll enc Try.prog W 0 (fun _ => true) true Try.f9.params.toList args.toList ds p := hA0
  have hold := fun x hx => hW'.lt x hx
  rw [Try.params9] at hA hval
  have hl : laidOutB Try.prog = true := by kernel_rfl
  obtain ⟨v0, vs0, d0, ds0, p0, q0, hargs, rfl, rfl, h0, r0⟩ := trodAll_cons hA
  obtain ⟨rfl, rfl, rfl⟩ := trodAll_nil r0
  obtain rfl : args = #[v0] := by cases args; simp_all
  obtain ⟨rfl, rfl⟩ := trodVars_none hV
  obtain ⟨A0, n0, c0, rfl⟩ := okWide_slice Try.underlying36 (hval 0 36 v0 rfl rfl)
  obtain ⟨xa, hr0⟩ := rd_of_trod iV Try.underlying36 (by kernel_rfl) (elem_int Try.underlying2) h0
  clear hA0 hval0
  refine (lawGraphOfDegrees_any _ xa W hr0).mono fun e W' ⟨he, hg⟩ => ?_
  subst he
  exact ⟨_, rfl, post_below (pa := _) (pv := []) hW' (fun _ _ _ => (trodAll_cons_mk (shut_bool Try.underlying4 _) trodAll_mk0)) (fun sp hsp => (trodAll_cons_mk (WideElems.Trod_stays hl (by kernel_rfl) (of_decide_eq_true (by kernel_rfl)) h0 (fun x hx => hg.same (hold x (by simp [hx]))) (fun x hx => hsp x (by simp [hx]))) trodAll_mk0)) (fun _ _ => rfl) rfl
    hg (ok_one (by kernel_rfl) rfl (okWide_bool_mk Try.underlying4 _))⟩

theorem fnGraphOfDegrees_holds : Rows.FnExactGraphOfDegreesSaid :=
  OpenClaim.holds_of_wide 9 Try.f9 rfl rfl rfl rfl rfl rfl rfl ⟨rfl, rfl, rfl, rfl, rfl⟩ rfl rfl rfl rfl rfl (by kernel_rfl) Try.func9 (by kernel_rfl)
    (of_decide_eq_true (by kernel_rfl)) (by unfold Func.isWrapper; first | (rw [if_pos (by decide +kernel)]; kernel_rfl) | (rw [if_neg (by decide +kernel)]; exact ⟨rfl, rfl⟩))
    (fun os started H enc _ => lawGraphOfDegrees_lifted os started H enc)
end
#print axioms fnGraphOfDegrees_holds
end Go.Proofs.Ythdnelfggmlalaa
