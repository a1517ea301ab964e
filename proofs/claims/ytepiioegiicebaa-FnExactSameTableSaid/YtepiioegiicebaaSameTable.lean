/-
  For every input: the program's SameTable returns what the reference's returns. No condition.
-/
import Derived.Test.YtepiioegiicebaaSameTab
import Derived.Test.YtepiioegiicebaaTabOpen
import Derived.Deep.RegionHeld3
import Derived.Lib.SmallJoins
namespace Go.Proofs.Ytepiioegiicebaa
open Go.RowKit

set_option maxHeartbeats 1600000 in
theorem lawSameTable_any (ra ca : Int) (sa : Value) (xa : List Int) (rb cb : Int) (sb : Value) (xb : List Int) (w : World) (hra : Rd iV w sa xa) (hxa : xa.length ≤ 9223372036854775807) (hrb : Rd iV w sb xb) (hxb : xb.length ≤ 9223372036854775807) :
    Calls Try.prog 7 #[tabV ra ca sa, tabV rb cb sb] w fun e w' => e = .returned (.bool true) ∧ Below w.heap.size w w' := by
  have HRa := Lib.hid hra
  obtain ⟨Aa, capa, rfl, hcapa, hAa⟩ := hra
  clear hAa
  have HRb := Lib.hid hrb
  obtain ⟨Ab, capb, rfl, hcapb, hAb⟩ := hrb
  clear hAb
  go_enter Try.func7, Try.ntmps7
  go_wp2_with fail
  have hT : Below w.heap.size w ((w.alloc (.cells #[.int .i64 ra, .int .i64 ca, .slice Aa xa.length capa] 36)).alloc (.cells #[.int .i64 rb, .int .i64 cb, .slice Ab xb.length capb] 36)) := below2 _ _ _
  have B_a := (tabAt_new w ra ca (.slice Aa xa.length capa) 36).below (below1 _ (.cells #[.int .i64 rb, .int .i64 cb, .slice Ab xb.length capb] 36))
  have B_b := tabAt_new (w.alloc (.cells #[.int .i64 ra, .int .i64 ca, .slice Aa xa.length capa] 36)) rb cb (.slice Ab xb.length capb) 36
  rw [show (w.alloc (.cells #[.int .i64 ra, .int .i64 ca, .slice Aa xa.length capa] 36)).heap.size = w.heap.size + 1 by simp] at B_b
  generalize hW0 : (w.alloc _).alloc _ = W0
  rw [hW0] at hT B_a B_b
  clear hW0
  have ⟨l_a, k0_a, k1_a, k2_a⟩ := B_a
  have ⟨l_b, k0_b, k1_b, k2_b⟩ := B_b
  refine (szTable_any _ _ _ xa (1048576) (by omega) (by omega) _ (HRa.out.below hT) hxa).mono ?_
  rintro e w1 ⟨rfl, hb⟩
  replace B_a := B_a.below hb
  replace B_b := B_b.below hb
  replace hT := below_to hT hb hT.size
  clear hb
  clear l_a k0_a k1_a k2_a l_b k0_b k1_b k2_b
  have ⟨l_a, k0_a, k1_a, k2_a⟩ := B_a
  have ⟨l_b, k0_b, k1_b, k2_b⟩ := B_b
  by_cases hna : 1048576 < (xa.length : Int)
  · rw [if_pos hna]
    go_wp2
    go_ret
    exact ⟨rfl, hT⟩
  rw [if_neg hna]
  go_wp2_with fail
  refine (szTable_any _ _ _ xb (1048576 - (xa.length : Int)) (by omega) (by omega) _ (HRb.out.below hT) hxb).mono ?_
  rintro e w2 ⟨rfl, hb⟩
  replace B_a := B_a.below hb
  replace B_b := B_b.below hb
  replace hT := below_to hT hb hT.size
  clear hb
  clear l_a k0_a k1_a k2_a l_b k0_b k1_b k2_b
  have ⟨l_a, k0_a, k1_a, k2_a⟩ := B_a
  have ⟨l_b, k0_b, k1_b, k2_b⟩ := B_b
  by_cases hnb : 1048576 - (xa.length : Int) < (xb.length : Int)
  · rw [if_pos hnb]
    go_wp2
    go_ret
    exact ⟨rfl, hT⟩
  rw [if_neg hnb]
  have hma : xa.length ≤ 1099511627776 := by omega
  have hmb : xb.length ≤ 1099511627776 := by omega
  have hd := Int.not_lt.1 hnb
  clear hna
  clear hnb
  go_wp2
  go_region_held3 (fun w' => w'.cell? ⟨w.heap.size, 0, none⟩ = some (.int .i64 ra) ∧ w'.cell? ⟨w.heap.size, 1, none⟩ = some (.int .i64 ca) ∧ w'.cell? ⟨w.heap.size, 2, none⟩ = some (.slice Aa xa.length capa) ∧ w'.cell? ⟨w.heap.size + 1, 0, none⟩ = some (.int .i64 rb) ∧ w'.cell? ⟨w.heap.size + 1, 1, none⟩ = some (.int .i64 cb) ∧ w'.cell? ⟨w.heap.size + 1, 2, none⟩ = some (.slice Ab xb.length capb))
    (first
      | go_keep
      | (go_split_ands; refine ⟨?_, ?_, ?_, ?_, ?_, ?_⟩ <;> (rw [hb5.cell (by have z0 := hb3.size; have z1 := hb4.size; simp at z0 z1 ⊢; omega)]; assumption))
      | (go_split_ands; refine ⟨?_, ?_, ?_, ?_, ?_, ?_⟩ <;> (rw [hb4.cell (by have z0 := hb3.size; simp at z0 ⊢; omega)]; assumption))
      | (go_split_ands; refine ⟨?_, ?_, ?_, ?_, ?_, ?_⟩ <;> (rw [hb3.cell (by  try simp; omega)]; assumption)))
    (first
      | (go_at_call 26; refine (toTable_any _ _ _ xa hma _ ?_).mono ?_; (exact HRa.out.below (hT.drew)); rintro e w3 ⟨s_ia, rfl, ia, hb3⟩)
      | (go_at_call 26; refine (toTable_any _ _ _ xb hmb _ ?_).mono ?_; (exact HRb.out.below (below_to (hT.drew) hb3 (by have := hT.size; try simp;  omega))); rintro e w4 ⟨s_ib, rfl, ib, hb4⟩)
      | (go_at_call 25; refine (specSameTable_any _ _ _ xa hma _ _ _ xb hmb _ ((((ia)).below hb4)).rd ((ib)).rd).mono ?_; rintro e w5 ⟨rfl, hb5⟩))
  have hb : Below w2.heap.size w2 w5 := below_to (below_to (below_to ((Below.refl w2.heap.size w2).drew) hb3 (by simp)) hb4 (by have z0 := hb3.size; simp at z0 ⊢; omega)) hb5 (by have z0 := hb3.size; have z1 := hb4.size; simp at z0 z1 ⊢; omega)
  clear ia ib hb3 hb4 hb5
  replace B_a := B_a.below hb
  replace B_b := B_b.below hb
  replace hT := below_to hT hb hT.size
  clear hb
  clear l_a k0_a k1_a k2_a l_b k0_b k1_b k2_b
  have ⟨l_a, k0_a, k1_a, k2_a⟩ := B_a
  have ⟨l_b, k0_b, k1_b, k2_b⟩ := B_b
  go_wp2_with fail
  refine (toTable_any _ _ _ xa hma _ (HRa.out.below hT)).mono ?_
  rintro e w6 ⟨s_ya, rfl, ya, hb⟩
  obtain ⟨A_ya, cap_ya, rfl, hc_ya, -⟩ := ya.rd
  have NE_ya_a := Lib.hid (Own.ne_lt ya (k := w.heap.size) (by first | exact l_a | (simp at l_a ⊢; omega)))
  have NE_ya_b := Lib.hid (Own.ne_lt ya (k := w.heap.size + 1) (by first | exact l_b | (simp at l_b ⊢; omega)))
  replace ya := ya.base_ hT.size
  replace B_a := B_a.below hb
  replace B_b := B_b.below hb
  replace hT := below_to hT hb hT.size
  clear hb
  clear l_a k0_a k1_a k2_a l_b k0_b k1_b k2_b
  have ⟨l_a, k0_a, k1_a, k2_a⟩ := B_a
  have ⟨l_b, k0_b, k1_b, k2_b⟩ := B_b
  go_wp2_with fail
  have hb : Below w6.heap.size w6 (w6.alloc (.cells #[.int .i64 ra, .int .i64 ca, .slice A_ya xa.length cap_ya] 39)) := below1 _ _
  have B_za := tabAt_new w6 ra ca (.slice A_ya xa.length cap_ya) 39
  have NE_ya_za := Lib.hid (Own.ne_ge ya (Nat.le_refl _))
  generalize hW7 : w6.alloc _ = w7
  rw [hW7] at hb B_za
  clear hW7
  replace ya := ya.below hb
  replace B_a := B_a.below hb
  replace B_b := B_b.below hb
  replace hT := below_to hT hb hT.size
  clear hb
  clear l_a k0_a k1_a k2_a l_b k0_b k1_b k2_b
  have ⟨l_a, k0_a, k1_a, k2_a⟩ := B_a
  have ⟨l_b, k0_b, k1_b, k2_b⟩ := B_b
  clear l_a k0_a k1_a k2_a l_b k0_b k1_b k2_b
  have ⟨l_a, k0_a, k1_a, k2_a⟩ := B_a
  have ⟨l_b, k0_b, k1_b, k2_b⟩ := B_b
  have ⟨l_za, k0_za, k1_za, k2_za⟩ := B_za
  go_wp2_with fail
  refine (toTable_any _ _ _ xb hmb _ (HRb.out.below hT)).mono ?_
  rintro e w8 ⟨s_yb, rfl, yb, hb⟩
  obtain ⟨A_yb, cap_yb, rfl, hc_yb, -⟩ := yb.rd
  have AP_ya_yb := Lib.hid (Own.apart ya (Nat.le_refl _) yb)
  have NE_yb_a := Lib.hid (Own.ne_lt yb (k := w.heap.size) (by first | exact l_a | (simp at l_a ⊢; omega)))
  have NE_yb_b := Lib.hid (Own.ne_lt yb (k := w.heap.size + 1) (by first | exact l_b | (simp at l_b ⊢; omega)))
  have NE_yb_za := Lib.hid (Own.ne_lt yb (k := w6.heap.size) (by first | exact l_za | (simp at l_za ⊢; omega)))
  replace yb := yb.base_ hT.size
  replace ya := ya.below hb
  replace B_a := B_a.below hb
  replace B_b := B_b.below hb
  replace B_za := B_za.below hb
  replace hT := below_to hT hb hT.size
  clear hb
  clear l_a k0_a k1_a k2_a l_b k0_b k1_b k2_b l_za k0_za k1_za k2_za
  have ⟨l_a, k0_a, k1_a, k2_a⟩ := B_a
  have ⟨l_b, k0_b, k1_b, k2_b⟩ := B_b
  have ⟨l_za, k0_za, k1_za, k2_za⟩ := B_za
  go_wp2_with fail
  have hb : Below w8.heap.size w8 (w8.alloc (.cells #[.int .i64 rb, .int .i64 cb, .slice A_yb xb.length cap_yb] 39)) := below1 _ _
  have B_zb := tabAt_new w8 rb cb (.slice A_yb xb.length cap_yb) 39
  have NE_ya_zb := Lib.hid (Own.ne_ge ya (Nat.le_refl _))
  have NE_yb_zb := Lib.hid (Own.ne_ge yb (Nat.le_refl _))
  generalize hW9 : w8.alloc _ = w9
  rw [hW9] at hb B_zb
  clear hW9
  replace ya := ya.below hb
  replace yb := yb.below hb
  replace B_a := B_a.below hb
  replace B_b := B_b.below hb
  replace B_za := B_za.below hb
  replace hT := below_to hT hb hT.size
  clear hb
  clear l_a k0_a k1_a k2_a l_b k0_b k1_b k2_b l_za k0_za k1_za k2_za
  have ⟨l_a, k0_a, k1_a, k2_a⟩ := B_a
  have ⟨l_b, k0_b, k1_b, k2_b⟩ := B_b
  have ⟨l_za, k0_za, k1_za, k2_za⟩ := B_za
  clear l_a k0_a k1_a k2_a l_b k0_b k1_b k2_b l_za k0_za k1_za k2_za
  have ⟨l_a, k0_a, k1_a, k2_a⟩ := B_a
  have ⟨l_b, k0_b, k1_b, k2_b⟩ := B_b
  have ⟨l_za, k0_za, k1_za, k2_za⟩ := B_za
  have ⟨l_zb, k0_zb, k1_zb, k2_zb⟩ := B_zb
  go_wp2_with fail
  refine (implSameTable_any _ _ _ xa hma _ _ _ xb hmb _ ya.rd yb.rd).mono ?_
  rintro e w10 ⟨rfl, hb⟩
  replace ya := ya.below hb
  replace yb := yb.below hb
  replace B_a := B_a.below hb
  replace B_b := B_b.below hb
  replace B_za := B_za.below hb
  replace B_zb := B_zb.below hb
  replace hT := below_to hT hb hT.size
  clear hb
  clear l_a k0_a k1_a k2_a l_b k0_b k1_b k2_b l_za k0_za k1_za k2_za l_zb k0_zb k1_zb k2_zb
  have ⟨l_a, k0_a, k1_a, k2_a⟩ := B_a
  have ⟨l_b, k0_b, k1_b, k2_b⟩ := B_b
  have ⟨l_za, k0_za, k1_za, k2_za⟩ := B_za
  have ⟨l_zb, k0_zb, k1_zb, k2_zb⟩ := B_zb
  go_wp2
  go_region_held3 (fun w' => w'.cell? ⟨w6.heap.size, 0, none⟩ = some (.int .i64 ra) ∧ w'.cell? ⟨w6.heap.size, 1, none⟩ = some (.int .i64 ca) ∧ w'.cell? ⟨w6.heap.size, 2, none⟩ = some (.slice A_ya xa.length cap_ya) ∧ w'.cell? ⟨w.heap.size, 0, none⟩ = some (.int .i64 ra) ∧ w'.cell? ⟨w.heap.size, 1, none⟩ = some (.int .i64 ca) ∧ w'.cell? ⟨w.heap.size, 2, none⟩ = some (.slice Aa xa.length capa))
    (first
      | go_keep
      | (go_split_ands; refine ⟨?_, ?_, ?_, ?_, ?_, ?_⟩ <;> (rw [hb12.cell (by have z0 := hb11.size; simp at z0 ⊢; omega)]; assumption))
      | (go_split_ands; refine ⟨?_, ?_, ?_, ?_, ?_, ?_⟩ <;> (rw [hb11.cell (by  try simp; omega)]; assumption)))
    (first
      | (go_at_call 26; refine (toTable_any _ _ _ xa hma _ ?_).mono ?_; (exact HRa.out.below hT.drew); rintro e w11 ⟨s_t, rfl, i_t, hb11⟩)
      | (go_at_call 28; refine (eqTable_any _ _ _ _ xa hma _ ?_ ?_).mono ?_; (exact (Own.below (Own.below ya ((Below.refl _ _).drew)) hb11).rd); (exact i_t.rd); rintro e w12 ⟨rfl, hb12⟩))
  have hb : Below w10.heap.size w10 w12 := below_to (below_to ((Below.refl w10.heap.size w10).drew) hb11 (by simp)) hb12 (by have z0 := hb11.size; simp at z0 ⊢; omega)
  clear i_t hb11 hb12
  replace ya := ya.below hb
  replace yb := yb.below hb
  replace B_a := B_a.below hb
  replace B_b := B_b.below hb
  replace B_za := B_za.below hb
  replace B_zb := B_zb.below hb
  replace hT := below_to hT hb hT.size
  clear hb
  clear l_a k0_a k1_a k2_a l_b k0_b k1_b k2_b l_za k0_za k1_za k2_za l_zb k0_zb k1_zb k2_zb
  have ⟨l_a, k0_a, k1_a, k2_a⟩ := B_a
  have ⟨l_b, k0_b, k1_b, k2_b⟩ := B_b
  have ⟨l_za, k0_za, k1_za, k2_za⟩ := B_za
  have ⟨l_zb, k0_zb, k1_zb, k2_zb⟩ := B_zb
  go_wp2
  go_region_held3 (fun w' => w'.cell? ⟨w8.heap.size, 0, none⟩ = some (.int .i64 rb) ∧ w'.cell? ⟨w8.heap.size, 1, none⟩ = some (.int .i64 cb) ∧ w'.cell? ⟨w8.heap.size, 2, none⟩ = some (.slice A_yb xb.length cap_yb) ∧ w'.cell? ⟨w.heap.size + 1, 0, none⟩ = some (.int .i64 rb) ∧ w'.cell? ⟨w.heap.size + 1, 1, none⟩ = some (.int .i64 cb) ∧ w'.cell? ⟨w.heap.size + 1, 2, none⟩ = some (.slice Ab xb.length capb))
    (first
      | go_keep
      | (go_split_ands; refine ⟨?_, ?_, ?_, ?_, ?_, ?_⟩ <;> (rw [hb14.cell (by have z0 := hb13.size; simp at z0 ⊢; omega)]; assumption))
      | (go_split_ands; refine ⟨?_, ?_, ?_, ?_, ?_, ?_⟩ <;> (rw [hb13.cell (by  try simp; omega)]; assumption)))
    (first
      | (go_at_call 26; refine (toTable_any _ _ _ xb hmb _ ?_).mono ?_; (exact HRb.out.below hT.drew); rintro e w13 ⟨s_t, rfl, i_t, hb13⟩)
      | (go_at_call 28; refine (eqTable_any _ _ _ _ xb hmb _ ?_ ?_).mono ?_; (exact (Own.below (Own.below yb ((Below.refl _ _).drew)) hb13).rd); (exact i_t.rd); rintro e w14 ⟨rfl, hb14⟩))
  have hb : Below w12.heap.size w12 w14 := below_to (below_to ((Below.refl w12.heap.size w12).drew) hb13 (by simp)) hb14 (by have z0 := hb13.size; simp at z0 ⊢; omega)
  clear i_t hb13 hb14
  replace ya := ya.below hb
  replace yb := yb.below hb
  replace B_a := B_a.below hb
  replace B_b := B_b.below hb
  replace B_za := B_za.below hb
  replace B_zb := B_zb.below hb
  replace hT := below_to hT hb hT.size
  clear hb
  clear l_a k0_a k1_a k2_a l_b k0_b k1_b k2_b l_za k0_za k1_za k2_za l_zb k0_zb k1_zb k2_zb
  have ⟨l_a, k0_a, k1_a, k2_a⟩ := B_a
  have ⟨l_b, k0_b, k1_b, k2_b⟩ := B_b
  have ⟨l_za, k0_za, k1_za, k2_za⟩ := B_za
  have ⟨l_zb, k0_zb, k1_zb, k2_zb⟩ := B_zb
  go_wp2
  go_ret
  exact ⟨rfl, hT⟩

/-! The row's step, and the statement. -/
section
open Go.ChangeShapes Go.WideShapes Go.ChangeAt Go.RowKit
set_option maxRecDepth 100000 in
theorem lawSameTable_lifted (os : Os) (started : os.Started) (H : Type) (enc : TypeId × Value → H) :
    ReturnsInHanded {} Try.checked os 7 .any (Rows.fnExactSameTableSpec.pre6 enc Try.prog Try.f7 Rows.fnExactSameTableRow.domain false) (Rows.fnExactSameTableSpec.post enc Try.prog Try.f7 false true false false) := by
  refine returnsInHanded_of_change (C := Try.checked) own_knob started (by kernel_rfl) Try.func7
    (ChangeSpec.witness6 (enc := enc) (C := Try.checked) false ⟨#[], #[.agg #[.int .i64 0, .int .i64 0, .slice none 0 0], .agg #[.int .i64 0, .int .i64 0, .slice none 0 0]], []⟩ 8 (by kernel_rfl) (by kernel_rfl) (by kernel_rfl) (by kernel_rfl)) ?_
  intro W base args ds gs before hval0 hW hcnd _
  have hval : ∀ (j : Nat) t v, Try.f7.params[j]? = some t → args[j]? = some v → Value.okWide Try.prog W .any base t v := hval0
  have hW' := hW
  obtain ⟨p, q, hA0, hV, rfl, hfz, hnd⟩ := hW
  have hA : DataW.TrodAll enc Try.prog W 0 (fun _ => true) true Try.f7.params.toList args.toList ds p := hA0
  have hold := fun x hx => hW'.lt x hx
  rw [Try.params7] at hA hval
  have hl : laidOutB Try.prog = true := by kernel_rfl
  obtain ⟨v0, vs0, d0, ds0, p0, q0, hargs, rfl, rfl, h0, r0⟩ := trodAll_cons hA
  obtain ⟨v1, vs1, d1, ds1, p1, q1, rfl, rfl, rfl, h1, r1⟩ := trodAll_cons r0
  obtain ⟨rfl, rfl, rfl⟩ := trodAll_nil r1
  obtain rfl : args = #[v0, v1] := by cases args; simp_all
  obtain ⟨rfl, rfl⟩ := trodVars_none hV
  obtain ⟨ra, ca, sa, xa, rfl, hr0, hx0⟩ := open_table (hval 0 36 v0 rfl rfl) h0
  obtain ⟨rb, cb, sb, xb, rfl, hr1, hx1⟩ := open_table (hval 1 36 v1 rfl rfl) h1
  clear hA0 hval0
  refine (lawSameTable_any ra ca sa xa rb cb sb xb W hr0 hx0 hr1 hx1).mono fun e W' ⟨he, hg⟩ => ?_
  subst he
  exact ⟨_, rfl, post_below (pa := _) (pv := []) hW' (fun _ _ _ => (trodAll_cons_mk (shut_bool Try.underlying4 _) trodAll_mk0)) (fun sp hsp => (trodAll_cons_mk (WideElems.Trod_stays hl (by kernel_rfl) (of_decide_eq_true (by kernel_rfl)) h0 (fun x hx => hg.same (hold x (by simp [hx]))) (fun x hx => hsp x (by simp [hx]))) (trodAll_cons_mk (WideElems.Trod_stays hl (by kernel_rfl) (of_decide_eq_true (by kernel_rfl)) h1 (fun x hx => hg.same (hold x (by simp [hx]))) (fun x hx => hsp x (by simp [hx]))) trodAll_mk0))) (fun _ _ => rfl) rfl
    hg (ok_one (by kernel_rfl) rfl (okWide_bool_mk Try.underlying4 _))⟩

theorem fnSameTable_holds : Rows.FnExactSameTableSaid :=
  OpenClaim.holds_of_wide 7 Try.f7 rfl rfl rfl rfl rfl rfl rfl ⟨rfl, rfl, rfl, rfl, rfl⟩ rfl rfl rfl rfl rfl (by kernel_rfl) Try.func7 (by kernel_rfl)
    (of_decide_eq_true (by kernel_rfl)) (by unfold Func.isWrapper; first | (rw [if_pos (by decide +kernel)]; kernel_rfl) | (rw [if_neg (by decide +kernel)]; exact ⟨rfl, rfl⟩))
    (fun os started H enc _ => lawSameTable_lifted os started H enc)
end
#print axioms fnSameTable_holds
end Go.Proofs.Ytepiioegiicebaa
