/-
  For every input: the program's ValidTable returns what the reference's returns. No condition.
-/
import Derived.Test.YtepiioegiicebaaValidTab
import Derived.Test.YtepiioegiicebaaTabOpen
import Derived.Deep.RegionHeld3
import Derived.Lib.SmallJoins
namespace Go.Proofs.Ytepiioegiicebaa
open Go.RowKit

set_option maxHeartbeats 1600000 in
theorem lawValidTable_any (ra ca : Int) (sa : Value) (xa : List Int) (w : World) (hra : Rd iV w sa xa) (hxa : xa.length ≤ 9223372036854775807) :
    Calls Try.prog 8 #[tabV ra ca sa] w fun e w' => e = .returned (.bool true) ∧ Below w.heap.size w w' := by
  have HRa := Lib.hid hra
  obtain ⟨Aa, capa, rfl, hcapa, hAa⟩ := hra
  clear hAa
  go_enter Try.func8, Try.ntmps8
  go_wp2_with fail
  have hT : Below w.heap.size w (w.alloc (.cells #[.int .i64 ra, .int .i64 ca, .slice Aa xa.length capa] 36)) := below1 _ _
  have B_a := tabAt_new w ra ca (.slice Aa xa.length capa) 36
  generalize hW0 : w.alloc _ = W0
  rw [hW0] at hT B_a
  clear hW0
  have ⟨l_a, k0_a, k1_a, k2_a⟩ := B_a
  refine (szTable_any _ _ _ xa (1048576) (by omega) (by omega) _ (HRa.out.below hT) hxa).mono ?_
  rintro e w1 ⟨rfl, hb⟩
  replace B_a := B_a.below hb
  replace hT := below_to hT hb hT.size
  clear hb
  clear l_a k0_a k1_a k2_a
  have ⟨l_a, k0_a, k1_a, k2_a⟩ := B_a
  by_cases hna : 1048576 < (xa.length : Int)
  · rw [if_pos hna]
    go_wp2
    go_ret
    exact ⟨rfl, hT⟩
  rw [if_neg hna]
  have hma : xa.length ≤ 1099511627776 := by omega
  have hd := Int.not_lt.1 hna
  clear hna
  go_wp2_with fail
  refine (toTable_any _ _ _ xa hma _ (HRa.out.below hT)).mono ?_
  rintro e w2 ⟨s_ia, rfl, ia, hb⟩
  obtain ⟨A_ia, cap_ia, rfl, hc_ia, -⟩ := ia.rd
  have NE_ia_a := Lib.hid (Own.ne_lt ia (k := w.heap.size) (by first | exact l_a | (simp at l_a ⊢; omega)))
  replace ia := ia.base_ hT.size
  replace B_a := B_a.below hb
  replace hT := below_to hT hb hT.size
  clear hb
  clear l_a k0_a k1_a k2_a
  have ⟨l_a, k0_a, k1_a, k2_a⟩ := B_a
  go_wp2_with fail
  refine (specValidTable_any _ _ _ xa hma _ ia.rd).mono ?_
  rintro e w3 ⟨rfl, hb⟩
  replace ia := ia.below hb
  replace B_a := B_a.below hb
  replace hT := below_to hT hb hT.size
  clear hb
  clear l_a k0_a k1_a k2_a
  have ⟨l_a, k0_a, k1_a, k2_a⟩ := B_a
  clear ia
  go_wp2_with fail
  refine (toTable_any _ _ _ xa hma _ (HRa.out.below hT)).mono ?_
  rintro e w4 ⟨s_ya, rfl, ya, hb⟩
  obtain ⟨A_ya, cap_ya, rfl, hc_ya, -⟩ := ya.rd
  have NE_ya_a := Lib.hid (Own.ne_lt ya (k := w.heap.size) (by first | exact l_a | (simp at l_a ⊢; omega)))
  replace ya := ya.base_ hT.size
  replace B_a := B_a.below hb
  replace hT := below_to hT hb hT.size
  clear hb
  clear l_a k0_a k1_a k2_a
  have ⟨l_a, k0_a, k1_a, k2_a⟩ := B_a
  go_wp2_with fail
  have hb : Below w4.heap.size w4 (w4.alloc (.cells #[.int .i64 ra, .int .i64 ca, .slice A_ya xa.length cap_ya] 39)) := below1 _ _
  have B_za := tabAt_new w4 ra ca (.slice A_ya xa.length cap_ya) 39
  have NE_ya_za := Lib.hid (Own.ne_ge ya (Nat.le_refl _))
  generalize hW5 : w4.alloc _ = w5
  rw [hW5] at hb B_za
  clear hW5
  replace ya := ya.below hb
  replace B_a := B_a.below hb
  replace hT := below_to hT hb hT.size
  clear hb
  clear l_a k0_a k1_a k2_a
  have ⟨l_a, k0_a, k1_a, k2_a⟩ := B_a
  clear l_a k0_a k1_a k2_a
  have ⟨l_a, k0_a, k1_a, k2_a⟩ := B_a
  have ⟨l_za, k0_za, k1_za, k2_za⟩ := B_za
  go_wp2_with fail
  refine (implValidTable_any _ _ _ xa hma _ ya.rd).mono ?_
  rintro e w6 ⟨rfl, hb⟩
  replace ya := ya.below hb
  replace B_a := B_a.below hb
  replace B_za := B_za.below hb
  replace hT := below_to hT hb hT.size
  clear hb
  clear l_a k0_a k1_a k2_a l_za k0_za k1_za k2_za
  have ⟨l_a, k0_a, k1_a, k2_a⟩ := B_a
  have ⟨l_za, k0_za, k1_za, k2_za⟩ := B_za
  go_wp2
  go_region_held3 (fun w' => w'.cell? ⟨w4.heap.size, 0, none⟩ = some (.int .i64 ra) ∧ w'.cell? ⟨w4.heap.size, 1, none⟩ = some (.int .i64 ca) ∧ w'.cell? ⟨w4.heap.size, 2, none⟩ = some (.slice A_ya xa.length cap_ya) ∧ w'.cell? ⟨w.heap.size, 0, none⟩ = some (.int .i64 ra) ∧ w'.cell? ⟨w.heap.size, 1, none⟩ = some (.int .i64 ca) ∧ w'.cell? ⟨w.heap.size, 2, none⟩ = some (.slice Aa xa.length capa))
    (first
      | go_keep
      | (go_split_ands; refine ⟨?_, ?_, ?_, ?_, ?_, ?_⟩ <;> (rw [hb8.cell (by have z0 := hb7.size; simp at z0 ⊢; omega)]; assumption))
      | (go_split_ands; refine ⟨?_, ?_, ?_, ?_, ?_, ?_⟩ <;> (rw [hb7.cell (by  try simp; omega)]; assumption)))
    (first
      | (go_at_call 26; refine (toTable_any _ _ _ xa hma _ ?_).mono ?_; (exact HRa.out.below hT.drew); rintro e w7 ⟨s_t, rfl, i_t, hb7⟩)
      | (go_at_call 28; refine (eqTable_any _ _ _ _ xa hma _ ?_ ?_).mono ?_; (exact (Own.below (Own.below ya ((Below.refl _ _).drew)) hb7).rd); (exact i_t.rd); rintro e w8 ⟨rfl, hb8⟩))
  have hb : Below w6.heap.size w6 w8 := below_to (below_to ((Below.refl w6.heap.size w6).drew) hb7 (by simp)) hb8 (by have z0 := hb7.size; simp at z0 ⊢; omega)
  clear i_t hb7 hb8
  replace ya := ya.below hb
  replace B_a := B_a.below hb
  replace B_za := B_za.below hb
  replace hT := below_to hT hb hT.size
  clear hb
  clear l_a k0_a k1_a k2_a l_za k0_za k1_za k2_za
  have ⟨l_a, k0_a, k1_a, k2_a⟩ := B_a
  have ⟨l_za, k0_za, k1_za, k2_za⟩ := B_za
  go_wp2
  go_ret
  exact ⟨rfl, hT⟩

/-! The row's step, and the statement. -/
section
open Go.ChangeShapes Go.WideShapes Go.ChangeAt Go.RowKit
set_option maxRecDepth 100000 in
theorem lawValidTable_lifted (os : Os) (started : os.Started) (H : Type) (enc : TypeId × Value → H) :
    ReturnsInHanded {} Try.checked os 8 .any (Rows.fnExactValidTableSpec.pre6 enc Try.prog Try.f8 Rows.fnExactValidTableRow.domain false) (Rows.fnExactValidTableSpec.post enc Try.prog Try.f8 false true false false) := by
  refine returnsInHanded_of_change (C := Try.checked) own_knob started (by kernel_rfl) Try.func8
    (ChangeSpec.witness6 (enc := enc) (C := Try.checked) false ⟨#[], #[.agg #[.int .i64 0, .int .i64 0, .slice none 0 0]], []⟩ 8 (by kernel_rfl) (by kernel_rfl) (by kernel_rfl) (by kernel_rfl)) ?_
  intro W base args ds gs before hval0 hW hcnd _
  have hval : ∀ (j : Nat) t v, Try.f8.params[j]? = some t → args[j]? = some v → Value.okWide Try.prog W .any base t v := hval0
  have hW' := hW
  obtain ⟨p, q, hA0, hV, rfl, hfz, hnd⟩ := hW
  have hA : DataW.TrodAll enc Try.prog W 0 (fun _ => true) true Try.f8.params.toList args.toList ds p := hA0
  have hold := fun x hx => hW'.lt x hx
  rw [Try.params8] at hA hval
  have hl : laidOutB Try.prog = true := by kernel_rfl
  obtain ⟨v0, vs0, d0, ds0, p0, q0, hargs, rfl, rfl, h0, r0⟩ := trodAll_cons hA
  obtain ⟨rfl, rfl, rfl⟩ := trodAll_nil r0
  obtain rfl : args = #[v0] := by cases args; simp_all
  obtain ⟨rfl, rfl⟩ := trodVars_none hV
  obtain ⟨ra, ca, sa, xa, rfl, hr0, hx0⟩ := open_table (hval 0 36 v0 rfl rfl) h0
  clear hA0 hval0
  refine (lawValidTable_any ra ca sa xa W hr0 hx0).mono fun e W' ⟨he, hg⟩ => ?_
  subst he
  exact ⟨_, rfl, post_below (pa := _) (pv := []) hW' (fun _ _ _ => (trodAll_cons_mk (shut_bool Try.underlying4 _) trodAll_mk0)) (fun sp hsp => (trodAll_cons_mk (WideElems.Trod_stays hl (by kernel_rfl) (of_decide_eq_true (by kernel_rfl)) h0 (fun x hx => hg.same (hold x (by simp [hx]))) (fun x hx => hsp x (by simp [hx]))) trodAll_mk0)) (fun _ _ => rfl) rfl
    hg (ok_one (by kernel_rfl) rfl (okWide_bool_mk Try.underlying4 _))⟩

theorem fnValidTable_holds : Rows.FnExactValidTableSaid :=
  OpenClaim.holds_of_wide 8 Try.f8 rfl rfl rfl rfl rfl rfl rfl ⟨rfl, rfl, rfl, rfl, rfl⟩ rfl rfl rfl rfl rfl (by kernel_rfl) Try.func8 (by kernel_rfl)
    (of_decide_eq_true (by kernel_rfl)) (by unfold Func.isWrapper; first | (rw [if_pos (by decide +kernel)]; kernel_rfl) | (rw [if_neg (by decide +kernel)]; exact ⟨rfl, rfl⟩))
    (fun os started H enc _ => lawValidTable_lifted os started H enc)
end
#print axioms fnValidTable_holds
end Go.Proofs.Ytepiioegiicebaa
