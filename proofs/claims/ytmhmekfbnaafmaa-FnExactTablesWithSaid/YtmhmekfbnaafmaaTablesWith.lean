/-
  For every two lists: the program's TablesWith returns what the reference's returns. No condition.
-/
import Derived.Test.YtmhmekfbnaafmaaTblM
import Derived.Test.YtmhmekfbnaafmaaTblV
import Derived.Test.YtmhmekfbnaafmaaPost
import Derived.Test.YtmhmekfbnaafmaaOpen
namespace Go.Proofs.Ytmhmekfbnaafmaa
open Go.RowKit

theorem specTabl_any (u : Value) (xs : List Int) (hx : xs.length ≤ 1099511627776) (v : Value) (ys : List Int) (hy : ys.length ≤ 1099511627776) (w : World) (hr : Rd iV w u xs) (hs : Rd iV w v ys) :
    Calls Try.prog 24 #[u, v] w (RetTab xs ys w) := specTab_any u v xs ys hx hy w hr hs
theorem implTabl_any (u : Value) (xs : List Int) (hx : xs.length ≤ 1099511627776) (v : Value) (ys : List Int) (hy : ys.length ≤ 1099511627776) (w : World) (hr : Rd iV w u xs) (hs : Rd iV w v ys) :
    Calls Try.prog 25 #[u, v] w (RetTab xs ys w) := implTab_any u v xs ys hx hy w hr hs

set_option maxHeartbeats 1000000 in
theorem lawTablesWith_any (va : Value) (xa : List Int) (vb : Value) (xb : List Int) (w : World) (hra : Rd iV w va xa) (hrb : Rd iV w vb xb) :
    Calls Try.prog 7 #[va, vb] w fun e w' => e = .returned (.bool true) ∧ Below w.heap.size w w' := by
  have HRa := Lib.hid hra
  obtain ⟨Aa, capa, rfl, hcapa, hAa⟩ := hra
  clear hAa
  have HRb := Lib.hid hrb
  obtain ⟨Ab, capb, rfl, hcapb, hAb⟩ := hrb
  clear hAb
  by_cases hna : 1048576 < xa.length
  · go_enter Try.func7, Try.ntmps7
    go_wp2
    go_ret
    exact ⟨rfl, Below.refl _ _⟩
  have hma : xa.length ≤ 1099511627776 := by omega
  by_cases hnb : 1048576 < xb.length
  · go_enter Try.func7, Try.ntmps7
    go_wp2
    go_ret
    exact ⟨rfl, Below.refl _ _⟩
  have hmb : xb.length ≤ 1099511627776 := by omega
  go_enter Try.func7, Try.ntmps7
  have hT := Below.refl w.heap.size w
  go_wp2_with fail
  refine (toInt64S_any _ xa _ (HRa.out.below hT) hma).mono ?_
  rintro e w1 ⟨via, rfl, ia, hb, hform⟩
  clear hform
  replace ia := ia.base_ hT.size
  replace hT := below_to hT hb hT.size
  clear hb
  go_wp2_with fail
  refine (toInt64S_any _ xb _ (HRb.out.below hT) hmb).mono ?_
  rintro e w2 ⟨vib, rfl, ib, hb, hform⟩
  clear hform
  have AP_ia_ib := Lib.hid (Own.apart ia (Nat.le_refl _) ib)
  replace ib := ib.base_ hT.size
  replace ia := ia.below hb
  replace hT := below_to hT hb hT.size
  clear hb
  go_wp2_with fail
  refine (specTabl_any _ xa hma _ xb hmb _ ia.rd ib.rd).mono ?_
  rintro e w3 ⟨rfl, hb⟩
  replace ia := ia.below hb
  replace ib := ib.below hb
  replace hT := below_to hT hb hT.size
  clear hb
  clear ia
  clear ib
  go_wp2_with fail
  refine (toInt64S_any _ xa _ (HRa.out.below hT) hma).mono ?_
  rintro e w4 ⟨vxa_, rfl, xa_, hb, hform⟩
  clear hform
  replace xa_ := xa_.base_ hT.size
  replace hT := below_to hT hb hT.size
  clear hb
  go_wp2_with fail
  refine (toInt64S_any _ xb _ (HRb.out.below hT) hmb).mono ?_
  rintro e w5 ⟨vxb_, rfl, xb_, hb, hform⟩
  clear hform
  have AP_xa__xb_ := Lib.hid (Own.apart xa_ (Nat.le_refl _) xb_)
  replace xb_ := xb_.base_ hT.size
  replace xa_ := xa_.below hb
  replace hT := below_to hT hb hT.size
  clear hb
  go_wp2_with fail
  refine (implTabl_any _ xa hma _ xb hmb _ xa_.rd xb_.rd).mono ?_
  rintro e w6 ⟨rfl, hb⟩
  replace xa_ := xa_.below hb
  replace xb_ := xb_.below hb
  replace hT := below_to hT hb hT.size
  clear hb
  go_wp2_with fail
  refine (toInt64S_any _ xa _ (HRa.out.below hT) hma).mono ?_
  rintro e w7 ⟨vta, rfl, ta, hb, hform⟩
  clear hform
  have AP_xa__ta := Lib.hid (Own.apart xa_ (Nat.le_refl _) ta)
  have AP_xb__ta := Lib.hid (Own.apart xb_ (Nat.le_refl _) ta)
  replace ta := ta.base_ hT.size
  replace xa_ := xa_.below hb
  replace xb_ := xb_.below hb
  replace hT := below_to hT hb hT.size
  clear hb
  go_wp2_with fail
  refine (eqInt64S_any _ _ _ _ _ xa_.rd ta.rd (by omega) (by omega) rfl).mono ?_
  rintro e w8 ⟨rfl, hd⟩
  have hb := below_of_drew hd
  clear hd
  replace xa_ := xa_.below hb
  replace xb_ := xb_.below hb
  replace ta := ta.below hb
  replace hT := below_to hT hb hT.size
  clear hb
  clear ta
  go_wp2_with fail
  refine (toInt64S_any _ xb _ (HRb.out.below hT) hmb).mono ?_
  rintro e w9 ⟨vtb, rfl, tb, hb, hform⟩
  clear hform
  have AP_xa__tb := Lib.hid (Own.apart xa_ (Nat.le_refl _) tb)
  have AP_xb__tb := Lib.hid (Own.apart xb_ (Nat.le_refl _) tb)
  replace tb := tb.base_ hT.size
  replace xa_ := xa_.below hb
  replace xb_ := xb_.below hb
  replace hT := below_to hT hb hT.size
  clear hb
  go_wp2_with fail
  refine (eqInt64S_any _ _ _ _ _ xb_.rd tb.rd (by omega) (by omega) rfl).mono ?_
  rintro e w10 ⟨rfl, hd⟩
  have hb := below_of_drew hd
  clear hd
  replace xa_ := xa_.below hb
  replace xb_ := xb_.below hb
  replace tb := tb.below hb
  replace hT := below_to hT hb hT.size
  clear hb
  clear tb
  go_wp2
  go_ret
  exact ⟨rfl, hT⟩

/-! The row's step, and the statement. -/
section
open Go.ChangeShapes Go.WideShapes Go.ChangeAt Go.RowKit
set_option maxRecDepth 100000 in
theorem lawTablesWith_lifted (os : Os) (started : os.Started) (H : Type) (enc : TypeId × Value → H) :
    ReturnsInHanded {} Try.checked os 7 .any (Rows.fnExactTablesWithSpec.pre6 enc Try.prog Try.f7 Rows.fnExactTablesWithRow.domain false) (Rows.fnExactTablesWithSpec.post enc Try.prog Try.f7 false true false false) := by
  refine returnsInHanded_of_change (C := Try.checked) own_knob started (by kernel_rfl) Try.func7
    (ChangeSpec.witness6 (enc := enc) (C := Try.checked) false ⟨#[], #[.slice none 0 0, .slice none 0 0], []⟩ 8 (by kernel_rfl) (by kernel_rfl) (by kernel_rfl) (by kernel_rfl)) ?_
  intro W base args ds gs before hval0 hW hcnd _
  have hval : ∀ (j : Nat) t v, Try.f7.params[j]? = some t → args[j]? = some v → Value.okWide Try.prog W .any base t v := hval0
  have hW' := hW
  obtain ⟨p, q, hA0, hV, rfl, hfz, hnd⟩ := hW
  have hA : DataW.TrodAll enc Try.prog W 0 (fun _ => true) true Try.f7.params.toList args.toList ds p := hA0
  have hold := fun x hx => hW'.lt x hx
  rw [Try.params7] at hA hval
  have hl : laidOutB Try.prog = true := by kernel_rfl
  obtain ⟨v0, vs0, d0, ds0, p0, q0, hargs, rfl, rfl, h0, r0⟩ := trodAll_cons hA
  obtain ⟨v1, vs1, d1, ds1, p1, q1, rfl, rfl, rfl, h1, r1⟩ := trodAll_cons r0
  obtain ⟨rfl, rfl, rfl⟩ := trodAll_nil r1
  obtain rfl : args = #[v0, v1] := by cases args; simp_all
  obtain ⟨rfl, rfl⟩ := trodVars_none hV
  obtain ⟨A0, n0, c0, rfl⟩ := okWide_slice Try.underlying22 (hval 0 22 v0 rfl rfl)
  obtain ⟨xa, hr0⟩ := rd_of_trod iV Try.underlying22 (by kernel_rfl) (elem_int Try.underlying2) h0
  obtain ⟨A1, n1, c1, rfl⟩ := okWide_slice Try.underlying22 (hval 1 22 v1 rfl rfl)
  obtain ⟨xb, hr1⟩ := rd_of_trod iV Try.underlying22 (by kernel_rfl) (elem_int Try.underlying2) h1
  clear hA0 hval0
  refine (lawTablesWith_any _ xa _ xb W hr0 hr1).mono fun e W' ⟨he, hg⟩ => ?_
  subst he
  exact ⟨_, rfl, post_below (pa := _) (pv := []) hW' (fun _ _ _ => (trodAll_cons_mk (shut_bool Try.underlying4 _) trodAll_mk0)) (fun sp hsp => (trodAll_cons_mk (WideElems.Trod_stays hl (by kernel_rfl) (of_decide_eq_true (by kernel_rfl)) h0 (fun x hx => hg.same (hold x (by simp [hx]))) (fun x hx => hsp x (by simp [hx]))) (trodAll_cons_mk (WideElems.Trod_stays hl (by kernel_rfl) (of_decide_eq_true (by kernel_rfl)) h1 (fun x hx => hg.same (hold x (by simp [hx]))) (fun x hx => hsp x (by simp [hx]))) trodAll_mk0))) (fun _ _ => rfl) rfl
    hg (ok_one (by kernel_rfl) rfl (okWide_bool_mk Try.underlying4 _))⟩

theorem fnTablesWith_holds : Rows.FnExactTablesWithSaid :=
  OpenClaim.holds_of_wide 7 Try.f7 rfl rfl rfl rfl rfl rfl rfl ⟨rfl, rfl, rfl, rfl, rfl⟩ rfl rfl rfl rfl rfl (by kernel_rfl) Try.func7 (by kernel_rfl)
    (of_decide_eq_true (by kernel_rfl)) (by unfold Func.isWrapper; first | (rw [if_pos (by decide +kernel)]; kernel_rfl) | (rw [if_neg (by decide +kernel)]; exact ⟨rfl, rfl⟩))
    (fun os started H enc _ => lawTablesWith_lifted os started H enc)
end
#print axioms fnTablesWith_holds
end Go.Proofs.Ytmhmekfbnaafmaa
