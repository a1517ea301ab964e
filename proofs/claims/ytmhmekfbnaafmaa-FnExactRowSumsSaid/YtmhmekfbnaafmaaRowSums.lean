/-
  For every input: the program's RowSums returns what the reference's returns. No condition.
-/
import Derived.Test.YtmhmekfbnaafmaaRowSum
import Derived.Test.YtmhmekfbnaafmaaTabOpen
import Derived.Deep.RegionHeld3
import Derived.Lib.SmallJoins
namespace Go.Proofs.Ytmhmekfbnaafmaa
open Go.RowKit

set_option maxHeartbeats 1600000 in
theorem lawRowSums_any (ra ca : Int) (sa : Value) (xa : List Int) (w : World) (hra : Rd iV w sa xa) (hxa : xa.length ≤ 9223372036854775807) :
    Calls Try.prog 4 #[tabV ra ca sa] w fun e w' => e = .returned (.bool true) ∧ Below w.heap.size w w' := by
  have HRa := Lib.hid hra
  obtain ⟨Aa, capa, rfl, hcapa, hAa⟩ := hra
  clear hAa
  go_enter Try.func4, Try.ntmps4
  go_wp2_with fail
  have hT : Below w.heap.size w (w.alloc (.cells #[.int .i64 ra, .int .i64 ca, .slice Aa xa.length capa] 24)) := below1 _ _
  have B_a := tabAt_new w ra ca (.slice Aa xa.length capa) 24
  generalize hW0 : w.alloc _ = W0
  rw [hW0] at hT B_a
  clear hW0
  have ⟨l_a, k0_a, k1_a, k2_a⟩ := B_a
  refine (szTable_any _ _ _ xa (1048576) (by omega) (by omega) _ (HRa.out.below hT) hxa).mono ?_
  rintro e w1 ⟨rfl, hb⟩
  replace B_a := B_a.below hb
  replace hT := below_to hT hb hT.size
  clear hb
  clear l_a k0_a k1_a k2_a
  have ⟨l_a, k0_a, k1_a, k2_a⟩ := B_a
  by_cases hna : 1048576 < (xa.length : Int)
  · rw [if_pos hna]
    go_wp2
    go_ret
    exact ⟨rfl, hT⟩
  rw [if_neg hna]
  have hma : xa.length ≤ 1099511627776 := by omega
  have hd := Int.not_lt.1 hna
  clear hna
  go_wp2_with fail
  refine (toTable_any _ _ _ xa hma _ (HRa.out.below hT)).mono ?_
  rintro e w2 ⟨s_ia, rfl, ia, hb⟩
  obtain ⟨A_ia, cap_ia, rfl, hc_ia, -⟩ := ia.rd
  have NE_ia_a := Lib.hid (Own.ne_lt ia (k := w.heap.size) (by first | exact l_a | (simp at l_a ⊢; omega)))
  replace ia := ia.base_ hT.size
  replace B_a := B_a.below hb
  replace hT := below_to hT hb hT.size
  clear hb
  clear l_a k0_a k1_a k2_a
  have ⟨l_a, k0_a, k1_a, k2_a⟩ := B_a
  go_wp2_with fail
  refine (specRowSums_any _ _ _ xa hma _ ia.rd).mono ?_
  rintro e w3 ⟨vow0, rfl, ow0, hb⟩
  have AP_ia_ow0 := Lib.hid (Own.apart ia (Nat.le_refl _) ow0)
  have NE_ow0_a := Lib.hid (Own.ne_lt ow0 (k := w.heap.size) (by first | exact l_a | (simp at l_a ⊢; omega)))
  replace ow0 := ow0.base_ hT.size
  replace ia := ia.below hb
  replace B_a := B_a.below hb
  replace hT := below_to hT hb hT.size
  clear hb
  clear l_a k0_a k1_a k2_a
  have ⟨l_a, k0_a, k1_a, k2_a⟩ := B_a
  clear ia
  go_wp2_with fail
  refine (toTable_any _ _ _ xa hma _ (HRa.out.below hT)).mono ?_
  rintro e w4 ⟨s_ya, rfl, ya, hb⟩
  obtain ⟨A_ya, cap_ya, rfl, hc_ya, -⟩ := ya.rd
  have AP_ow0_ya := Lib.hid (Own.apart ow0 (Nat.le_refl _) ya)
  have NE_ya_a := Lib.hid (Own.ne_lt ya (k := w.heap.size) (by first | exact l_a | (simp at l_a ⊢; omega)))
  replace ya := ya.base_ hT.size
  replace ow0 := ow0.below hb
  replace B_a := B_a.below hb
  replace hT := below_to hT hb hT.size
  clear hb
  clear l_a k0_a k1_a k2_a
  have ⟨l_a, k0_a, k1_a, k2_a⟩ := B_a
  go_wp2_with fail
  have hb : Below w4.heap.size w4 (w4.alloc (.cells #[.int .i64 ra, .int .i64 ca, .slice A_ya xa.length cap_ya] 28)) := below1 _ _
  have B_za := tabAt_new w4 ra ca (.slice A_ya xa.length cap_ya) 28
  have NE_ow0_za := Lib.hid (Own.ne_ge ow0 (Nat.le_refl _))
  have NE_ya_za := Lib.hid (Own.ne_ge ya (Nat.le_refl _))
  generalize hW5 : w4.alloc _ = w5
  rw [hW5] at hb B_za
  clear hW5
  replace ow0 := ow0.below hb
  replace ya := ya.below hb
  replace B_a := B_a.below hb
  replace hT := below_to hT hb hT.size
  clear hb
  clear l_a k0_a k1_a k2_a
  have ⟨l_a, k0_a, k1_a, k2_a⟩ := B_a
  clear l_a k0_a k1_a k2_a
  have ⟨l_a, k0_a, k1_a, k2_a⟩ := B_a
  have ⟨l_za, k0_za, k1_za, k2_za⟩ := B_za
  go_wp2_with fail
  refine (implRowSums_any _ _ _ xa hma _ ya.rd).mono ?_
  rintro e w6 ⟨vog0, rfl, og0, hb⟩
  have AP_ow0_og0 := Lib.hid (Own.apart ow0 (Nat.le_refl _) og0)
  have AP_ya_og0 := Lib.hid (Own.apart ya (Nat.le_refl _) og0)
  have NE_og0_a := Lib.hid (Own.ne_lt og0 (k := w.heap.size) (by first | exact l_a | (simp at l_a ⊢; omega)))
  have NE_og0_za := Lib.hid (Own.ne_lt og0 (k := w4.heap.size) (by first | exact l_za | (simp at l_za ⊢; omega)))
  replace og0 := og0.base_ hT.size
  replace ow0 := ow0.below hb
  replace ya := ya.below hb
  replace B_a := B_a.below hb
  replace B_za := B_za.below hb
  replace hT := below_to hT hb hT.size
  clear hb
  clear l_a k0_a k1_a k2_a l_za k0_za k1_za k2_za
  have ⟨l_a, k0_a, k1_a, k2_a⟩ := B_a
  have ⟨l_za, k0_za, k1_za, k2_za⟩ := B_za
  go_wp2_with fail
  refine (eqInt64S_any _ _ _ _ _ og0.rd ow0.rd (rowR_len _ _ _) (rowR_len _ _ _) rfl).mono ?_
  rintro e w7 ⟨rfl, hd⟩
  have hb := below_of_drew hd
  clear hd
  replace ow0 := ow0.below hb
  replace ya := ya.below hb
  replace og0 := og0.below hb
  replace B_a := B_a.below hb
  replace B_za := B_za.below hb
  replace hT := below_to hT hb hT.size
  clear hb
  clear l_a k0_a k1_a k2_a l_za k0_za k1_za k2_za
  have ⟨l_a, k0_a, k1_a, k2_a⟩ := B_a
  have ⟨l_za, k0_za, k1_za, k2_za⟩ := B_za
  go_wp2
  go_region_held3 (fun w' => w'.cell? ⟨w4.heap.size, 0, none⟩ = some (.int .i64 ra) ∧ w'.cell? ⟨w4.heap.size, 1, none⟩ = some (.int .i64 ca) ∧ w'.cell? ⟨w4.heap.size, 2, none⟩ = some (.slice A_ya xa.length cap_ya) ∧ w'.cell? ⟨w.heap.size, 0, none⟩ = some (.int .i64 ra) ∧ w'.cell? ⟨w.heap.size, 1, none⟩ = some (.int .i64 ca) ∧ w'.cell? ⟨w.heap.size, 2, none⟩ = some (.slice Aa xa.length capa))
    (first
      | go_keep
      | (go_split_ands; refine ⟨?_, ?_, ?_, ?_, ?_, ?_⟩ <;> (rw [hb9.cell (by have z0 := hb8.size; simp at z0 ⊢; omega)]; assumption))
      | (go_split_ands; refine ⟨?_, ?_, ?_, ?_, ?_, ?_⟩ <;> (rw [hb8.cell (by  try simp; omega)]; assumption)))
    (first
      | (go_at_call 10; refine (toTable_any _ _ _ xa hma _ ?_).mono ?_; (exact HRa.out.below hT.drew); rintro e w8 ⟨s_t, rfl, i_t, hb8⟩)
      | (go_at_call 13; refine (eqTable_any _ _ _ _ xa hma _ ?_ ?_).mono ?_; (exact (Own.below (Own.below ya ((Below.refl _ _).drew)) hb8).rd); (exact i_t.rd); rintro e w9 ⟨rfl, hb9⟩))
  have hb : Below w7.heap.size w7 w9 := below_to (below_to ((Below.refl w7.heap.size w7).drew) hb8 (by simp)) hb9 (by have z0 := hb8.size; simp at z0 ⊢; omega)
  clear i_t hb8 hb9
  replace ow0 := ow0.below hb
  replace ya := ya.below hb
  replace og0 := og0.below hb
  replace B_a := B_a.below hb
  replace B_za := B_za.below hb
  replace hT := below_to hT hb hT.size
  clear hb
  clear l_a k0_a k1_a k2_a l_za k0_za k1_za k2_za
  have ⟨l_a, k0_a, k1_a, k2_a⟩ := B_a
  have ⟨l_za, k0_za, k1_za, k2_za⟩ := B_za
  go_wp2_with fail
  refine (markTable_any _ _ _ _ 1 (by omega) (by omega) w.heap.size _ ya hma hT.size).mono ?_
  rintro e w10 ⟨rfl, o10, hg⟩
  have hb := below1 w9 o10
  replace ow0 := ow0.below hb
  replace ya := ya.below hb
  replace og0 := og0.below hb
  replace B_a := B_a.below hb
  replace B_za := B_za.below hb
  replace hT := below_to hT hb hT.size
  clear hb
  replace ow0 := ow0.kept hg AP_ow0_ya.out
  replace og0 := og0.kept hg (apart_symm AP_ya_og0.out)
  replace B_a := B_a.kept hg NE_ya_a.out
  replace B_za := B_za.kept hg NE_ya_za.out
  replace hT := below_mark hT hg ya.lt (Nat.le_refl _)
  clear ya hg
  clear NE_ya_a NE_ya_za
  clear l_a k0_a k1_a k2_a l_za k0_za k1_za k2_za
  have ⟨l_a, k0_a, k1_a, k2_a⟩ := B_a
  have ⟨l_za, k0_za, k1_za, k2_za⟩ := B_za
  go_wp2_with fail
  refine (eqInt64S_any _ _ _ _ _ og0.rd ow0.rd (rowR_len _ _ _) (rowR_len _ _ _) rfl).mono ?_
  rintro e w11 ⟨rfl, hd⟩
  have hb := below_of_drew hd
  clear hd
  replace ow0 := ow0.below hb
  replace og0 := og0.below hb
  replace B_a := B_a.below hb
  replace B_za := B_za.below hb
  replace hT := below_to hT hb hT.size
  clear hb
  clear l_a k0_a k1_a k2_a l_za k0_za k1_za k2_za
  have ⟨l_a, k0_a, k1_a, k2_a⟩ := B_a
  have ⟨l_za, k0_za, k1_za, k2_za⟩ := B_za
  go_wp2_with fail
  refine (markInt64S_any _ _ 1 (by omega) (by omega) w.heap.size _ og0 (rowR_len _ _ _) hT.size).mono ?_
  rintro e w12 ⟨rfl, om, hg⟩
  replace ow0 := ow0.kept hg AP_ow0_og0.out
  replace B_a := B_a.kept hg NE_og0_a.out
  replace B_za := B_za.kept hg NE_og0_za.out
  replace hT := below_mark hT hg og0.lt (Nat.le_refl _)
  clear og0 hg
  have og0 := om
  clear om
  clear l_a k0_a k1_a k2_a l_za k0_za k1_za k2_za
  have ⟨l_a, k0_a, k1_a, k2_a⟩ := B_a
  have ⟨l_za, k0_za, k1_za, k2_za⟩ := B_za
  go_wp2_with fail
  refine (heldInt64S_any _ (rowR ra ca xa).length 1 (by omega) (by omega) _ og0.rd (rowR_len _ _ _)).mono ?_
  rintro e w13 ⟨rfl, rfl⟩
  go_wp2_with fail
  refine (toTable_any _ _ _ xa hma _ (HRa.out.below hT)).mono ?_
  rintro e w14 ⟨s_ja, rfl, ja, hb⟩
  obtain ⟨A_ja, cap_ja, rfl, hc_ja, -⟩ := ja.rd
  have AP_ow0_ja := Lib.hid (Own.apart ow0 (Nat.le_refl _) ja)
  have AP_og0_ja := Lib.hid (Own.apart og0 (Nat.le_refl _) ja)
  have NE_ja_a := Lib.hid (Own.ne_lt ja (k := w.heap.size) (by first | exact l_a | (simp at l_a ⊢; omega)))
  have NE_ja_za := Lib.hid (Own.ne_lt ja (k := w4.heap.size) (by first | exact l_za | (simp at l_za ⊢; omega)))
  replace ja := ja.base_ hT.size
  replace ow0 := ow0.below hb
  replace og0 := og0.below hb
  replace B_a := B_a.below hb
  replace B_za := B_za.below hb
  replace hT := below_to hT hb hT.size
  clear hb
  clear l_a k0_a k1_a k2_a l_za k0_za k1_za k2_za
  have ⟨l_a, k0_a, k1_a, k2_a⟩ := B_a
  have ⟨l_za, k0_za, k1_za, k2_za⟩ := B_za
  go_wp2_with fail
  refine (implRowSums_any _ _ _ xa hma _ ja.rd).mono ?_
  rintro e w15 ⟨voh0, rfl, oh0, hb⟩
  have AP_ow0_oh0 := Lib.hid (Own.apart ow0 (Nat.le_refl _) oh0)
  have AP_og0_oh0 := Lib.hid (Own.apart og0 (Nat.le_refl _) oh0)
  have AP_ja_oh0 := Lib.hid (Own.apart ja (Nat.le_refl _) oh0)
  have NE_oh0_a := Lib.hid (Own.ne_lt oh0 (k := w.heap.size) (by first | exact l_a | (simp at l_a ⊢; omega)))
  have NE_oh0_za := Lib.hid (Own.ne_lt oh0 (k := w4.heap.size) (by first | exact l_za | (simp at l_za ⊢; omega)))
  replace oh0 := oh0.base_ hT.size
  replace ow0 := ow0.below hb
  replace og0 := og0.below hb
  replace ja := ja.below hb
  replace B_a := B_a.below hb
  replace B_za := B_za.below hb
  replace hT := below_to hT hb hT.size
  clear hb
  clear l_a k0_a k1_a k2_a l_za k0_za k1_za k2_za
  have ⟨l_a, k0_a, k1_a, k2_a⟩ := B_a
  have ⟨l_za, k0_za, k1_za, k2_za⟩ := B_za
  clear ja
  go_wp2_with fail
  refine (eqInt64S_any _ _ _ _ _ oh0.rd ow0.rd (rowR_len _ _ _) (rowR_len _ _ _) rfl).mono ?_
  rintro e w16 ⟨rfl, hd⟩
  have hb := below_of_drew hd
  clear hd
  replace ow0 := ow0.below hb
  replace og0 := og0.below hb
  replace oh0 := oh0.below hb
  replace B_a := B_a.below hb
  replace B_za := B_za.below hb
  replace hT := below_to hT hb hT.size
  clear hb
  clear l_a k0_a k1_a k2_a l_za k0_za k1_za k2_za
  have ⟨l_a, k0_a, k1_a, k2_a⟩ := B_a
  have ⟨l_za, k0_za, k1_za, k2_za⟩ := B_za
  go_wp2_with fail
  refine (heldInt64S_any _ (rowR ra ca xa).length 1 (by omega) (by omega) _ og0.rd (rowR_len _ _ _)).mono ?_
  rintro e w17 ⟨rfl, rfl⟩
  go_wp2
  go_ret
  exact ⟨rfl, hT⟩

/-! The row's step, and the statement. -/
section
open Go.ChangeShapes Go.WideShapes Go.ChangeAt Go.RowKit
set_option maxRecDepth 100000 in
theorem lawRowSums_lifted (os : Os) (started : os.Started) (H : Type) (enc : TypeId × Value → H) :
    ReturnsInHanded {} Try.checked os 4 .any (Rows.fnExactRowSumsSpec.pre6 enc Try.prog Try.f4 Rows.fnExactRowSumsRow.domain false) (Rows.fnExactRowSumsSpec.post enc Try.prog Try.f4 false true false false) := by
  refine returnsInHanded_of_change (C := Try.checked) own_knob started (by kernel_rfl) Try.func4
    (ChangeSpec.witness6 (enc := enc) (C := Try.checked) false ⟨#[], #[.agg #[.int .i64 0, .int .i64 0, .slice none 0 0]], []⟩ 8 (by kernel_rfl) (by kernel_rfl) (by kernel_rfl) (by kernel_rfl)) ?_
  intro W base args ds gs before hval0 hW hcnd _
  have hval : ∀ (j : Nat) t v, Try.f4.params[j]? = some t → args[j]? = some v → Value.okWide Try.prog W .any base t v := hval0
  have hW' := hW
  obtain ⟨p, q, hA0, hV, rfl, hfz, hnd⟩ := hW
  have hA : DataW.TrodAll enc Try.prog W 0 (fun _ => true) true Try.f4.params.toList args.toList ds p := hA0
  have hold := fun x hx => hW'.lt x hx
  rw [Try.params4] at hA hval
  have hl : laidOutB Try.prog = true := by kernel_rfl
  obtain ⟨v0, vs0, d0, ds0, p0, q0, hargs, rfl, rfl, h0, r0⟩ := trodAll_cons hA
  obtain ⟨rfl, rfl, rfl⟩ := trodAll_nil r0
  obtain rfl : args = #[v0] := by cases args; simp_all
  obtain ⟨rfl, rfl⟩ := trodVars_none hV
  obtain ⟨ra, ca, sa, xa, rfl, hr0, hx0⟩ := open_table (hval 0 24 v0 rfl rfl) h0
  clear hA0 hval0
  refine (lawRowSums_any ra ca sa xa W hr0 hx0).mono fun e W' ⟨he, hg⟩ => ?_
  subst he
  exact ⟨_, rfl, post_below (pa := _) (pv := []) hW' (fun _ _ _ => (trodAll_cons_mk (shut_bool Try.underlying4 _) trodAll_mk0)) (fun sp hsp => (trodAll_cons_mk (WideElems.Trod_stays hl (by kernel_rfl) (of_decide_eq_true (by kernel_rfl)) h0 (fun x hx => hg.same (hold x (by simp [hx]))) (fun x hx => hsp x (by simp [hx]))) trodAll_mk0)) (fun _ _ => rfl) rfl
    hg (ok_one (by kernel_rfl) rfl (okWide_bool_mk Try.underlying4 _))⟩

theorem fnRowSums_holds : Rows.FnExactRowSumsSaid :=
  OpenClaim.holds_of_wide 4 Try.f4 rfl rfl rfl rfl rfl rfl rfl ⟨rfl, rfl, rfl, rfl, rfl⟩ rfl rfl rfl rfl rfl (by kernel_rfl) Try.func4 (by kernel_rfl)
    (of_decide_eq_true (by kernel_rfl)) (by unfold Func.isWrapper; first | (rw [if_pos (by decide +kernel)]; kernel_rfl) | (rw [if_neg (by decide +kernel)]; exact ⟨rfl, rfl⟩))
    (fun os started H enc _ => lawRowSums_lifted os started H enc)
end
#print axioms fnRowSums_holds
end Go.Proofs.Ytmhmekfbnaafmaa
