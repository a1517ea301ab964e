/-
  For every seed and n: the program's SimplexPoint returns what the reference's returns. No condition.
-/
import Derived.Test.YthdnelfggmlalaaSimpI
import Derived.Test.YthdnelfggmlalaaF32s
import Derived.Test.YthdnelfggmlalaaLw
import Derived.Test.YthdnelfggmlalaaSeedT
namespace Go.Proofs.Ythdnelfggmlalaa
open Go.RowKit
attribute [local go_sem] run_up_

theorem sim_parts (k a b n : Int) : ∃ K A B : Int, simSeed k a b n = sdV K A B := by
  unfold simSeed
  split
  · exact ⟨_, _, _, rfl⟩
  · exact ⟨_, _, _, rfl⟩

set_option maxHeartbeats 3200000 in
theorem lawSimplexPoint_any (k a b : Int) (hb0 : 0 ≤ b) (n : Int) (w : World) :
    Calls Try.prog 3 #[sdV k a b, .int .i64 n] w fun e w' => e = .returned (.bool true) ∧ Below w.heap.size w w' := by
  obtain ⟨K, A, B, hsd⟩ := sim_parts k a b n
  have HSD := Lib.hid hsd
  clear hsd
  go_enter Try.func3, Try.ntmps3
  go_wp2_with fail
  have Bs := BoxAt.new w [.int .i64 k, u64V a, u64V b] 24
  have hT := below_alloc w (.cells ([.int .i64 k, u64V a, u64V b] : List Value).toArray 24)
  have hsz : (w.alloc (.cells ([.int .i64 k, u64V a, u64V b] : List Value).toArray 24)).heap.size = w.heap.size + 1 := size_alloc _ _
  generalize hg : World.alloc w _ = W0 at *
  clear hg
  refine (toSeed_any k a b _).mono ?_
  rintro e w1 ⟨rfl, hb⟩
  have hs1 := hb.size
  replace Bs := Bs.below hb
  replace hT := below_to hT hb hT.size
  clear hb
  go_wp2_with fail
  refine (specSimplexPoint_any k a b hb0 n _).mono ?_
  rintro e w2 ⟨v, y, rfl, o, l, ab, hb⟩
  rw [HSD.out]
  have AB := Lib.hid ab
  have hs2 := hb.size
  replace o := o.ranged
  replace Bs := Bs.below hb
  replace hT := below_to hT hb hT.size
  clear hb ab
  go_upto_region 2 with fail
  have BW := BoxAt.new w2 [.int .i64 K, u64V A, u64V B] 25
  have hb := below_alloc w2 (.cells ([.int .i64 K, u64V A, u64V B] : List Value).toArray 25)
  have hz_w3 : (w2.alloc (.cells ([.int .i64 K, u64V A, u64V B] : List Value).toArray 25)).heap.size = w2.heap.size + 1 := size_alloc _ _
  generalize hg : World.alloc w2 _ = w3 at *
  clear hg
  replace Bs := Bs.below hb
  replace o := o.below hb
  replace hT := below_to hT hb hT.size
  clear hb
  have d0 := Bs.cell 0 _ rfl
  have d1 := Bs.cell 1 _ rfl
  have d2 := Bs.cell 2 _ rfl
  go_wp2_with fail
  refine (toSeed_any k a b _).mono ?_
  rintro e w4 ⟨rfl, hb⟩
  clear d0 d1 d2
  replace Bs := Bs.below hb
  replace o := o.below hb
  replace BW := BW.below hb
  have hs_w4 : w3.heap.size ≤ w4.heap.size := hb.size
  replace hT := below_to hT hb hT.size
  clear hb
  go_wp2_with fail
  refine (implSimplexPoint_any k a b hb0 n _).mono ?_
  rintro e w5 ⟨vg, yg, rfl, g, lg, ab, hb⟩
  rw [HSD.out]
  have Ag := Lib.hid ab
  clear ab
  replace g := g.ranged
  replace Bs := Bs.below hb
  replace o := o.below hb
  replace BW := BW.below hb
  have hs_w5 : w4.heap.size ≤ w5.heap.size := hb.size
  replace hT := below_to hT hb hT.size
  clear hb
  go_upto_region 3 with fail
  have BG := BoxAt.new w5 [.int .i64 K, u64V A, u64V B] 25
  have hb := below_alloc w5 (.cells ([.int .i64 K, u64V A, u64V B] : List Value).toArray 25)
  have hz_w6 : (w5.alloc (.cells ([.int .i64 K, u64V A, u64V B] : List Value).toArray 25)).heap.size = w5.heap.size + 1 := size_alloc _ _
  generalize hg : World.alloc w5 _ = w6 at *
  clear hg
  replace Bs := Bs.below hb
  replace o := o.below hb
  replace BW := BW.below hb
  replace g := g.below hb
  replace hT := below_to hT hb hT.size
  clear hb
  have c0 := BW.cell 0 _ rfl
  have c1 := BW.cell 1 _ rfl
  have c2 := BW.cell 2 _ rfl
  have d0 := BG.cell 0 _ rfl
  have d1 := BG.cell 1 _ rfl
  have d2 := BG.cell 2 _ rfl
  go_wp2_with fail
  refine (eqSeed_any K A B _).mono ?_
  rintro e w7 ⟨rfl, hb⟩
  clear c0 c1 c2 d0 d1 d2
  replace Bs := Bs.below hb
  replace o := o.below hb
  replace BW := BW.below hb
  replace g := g.below hb
  replace BG := BG.below hb
  have hs_w7 : w6.heap.size ≤ w7.heap.size := hb.size
  replace hT := below_to hT hb hT.size
  clear hb
  go_wp2_with fail
  refine (eqFloat32S_any _ _ _ _ _ g.rd o.rd lg l (Ag.out.trans AB.out.symm)).mono ?_
  rintro e w8 ⟨rfl, hd⟩
  have hb := below_of_drew hd
  clear hd
  replace Bs := Bs.below hb
  replace o := o.below hb
  replace BW := BW.below hb
  replace g := g.below hb
  replace BG := BG.below hb
  have hs_w8 : w7.heap.size ≤ w8.heap.size := hb.size
  replace hT := below_to hT hb hT.size
  clear hb
  go_wp2_with fail
  refine (markFloat32S_any _ _ _ (by omega) (by omega) _ _ g.own lg (by omega)).mono ?_
  rintro e w9 ⟨rfl, om, hg⟩
  have ht := Touch.of_grown hg g.lt
  have hs_w9 : w8.heap.size ≤ w9.heap.size := ht.size
  replace o := o.touch ht (by omega)
  replace Bs := Bs.touch ht (.inl (by omega))
  replace BW := BW.touch ht (.inl (by omega))
  replace hT := hT.trans (ht.below (by omega) (by omega))
  replace g := g.again om
  clear om hg ht BG
  go_wp2_with fail
  refine (heldFloat32S_any _ (yg).length _ (by omega) (by omega) _ g.rd lg).mono ?_
  rintro e z9 ⟨rfl, rfl⟩
  go_upto_region 13 with fail
  have d0 := Bs.cell 0 _ rfl
  have d1 := Bs.cell 1 _ rfl
  have d2 := Bs.cell 2 _ rfl
  go_wp2_with fail
  refine (toSeed_any k a b _).mono ?_
  rintro e w10 ⟨rfl, hb⟩
  clear d0 d1 d2
  replace Bs := Bs.below hb
  replace o := o.below hb
  replace BW := BW.below hb
  replace g := g.below hb
  have hs_w10 : w9.heap.size ≤ w10.heap.size := hb.size
  replace hT := below_to hT hb hT.size
  clear hb
  go_wp2_with fail
  refine (implSimplexPoint_any k a b hb0 n _).mono ?_
  rintro e w11 ⟨vh, yh, rfl, h, lh, ab, hb⟩
  rw [HSD.out]
  have Ah := Lib.hid ab
  clear ab
  replace h := h.ranged
  replace Bs := Bs.below hb
  replace o := o.below hb
  replace BW := BW.below hb
  replace g := g.below hb
  have hs_w11 : w10.heap.size ≤ w11.heap.size := hb.size
  replace hT := below_to hT hb hT.size
  clear hb
  go_upto_region 14 with fail
  have BH := BoxAt.new w11 [.int .i64 K, u64V A, u64V B] 25
  have hb := below_alloc w11 (.cells ([.int .i64 K, u64V A, u64V B] : List Value).toArray 25)
  have hz_w12 : (w11.alloc (.cells ([.int .i64 K, u64V A, u64V B] : List Value).toArray 25)).heap.size = w11.heap.size + 1 := size_alloc _ _
  generalize hg : World.alloc w11 _ = w12 at *
  clear hg
  replace Bs := Bs.below hb
  replace o := o.below hb
  replace BW := BW.below hb
  replace g := g.below hb
  replace h := h.below hb
  replace hT := below_to hT hb hT.size
  clear hb
  have c0 := BW.cell 0 _ rfl
  have c1 := BW.cell 1 _ rfl
  have c2 := BW.cell 2 _ rfl
  have d0 := BH.cell 0 _ rfl
  have d1 := BH.cell 1 _ rfl
  have d2 := BH.cell 2 _ rfl
  go_wp2_with fail
  refine (eqSeed_any K A B _).mono ?_
  rintro e w13 ⟨rfl, hb⟩
  clear c0 c1 c2 d0 d1 d2
  replace Bs := Bs.below hb
  replace o := o.below hb
  replace BW := BW.below hb
  replace g := g.below hb
  replace h := h.below hb
  replace BH := BH.below hb
  have hs_w13 : w12.heap.size ≤ w13.heap.size := hb.size
  replace hT := below_to hT hb hT.size
  clear hb
  go_wp2_with fail
  refine (eqFloat32S_any _ _ _ _ _ h.rd o.rd lh l (Ah.out.trans AB.out.symm)).mono ?_
  rintro e w14 ⟨rfl, hd⟩
  have hb := below_of_drew hd
  clear hd
  replace Bs := Bs.below hb
  replace o := o.below hb
  replace BW := BW.below hb
  replace g := g.below hb
  replace h := h.below hb
  replace BH := BH.below hb
  have hs_w14 : w13.heap.size ≤ w14.heap.size := hb.size
  replace hT := below_to hT hb hT.size
  clear hb
  go_wp2_with fail
  refine (heldFloat32S_any _ (yg).length _ (by omega) (by omega) _ g.rd lg).mono ?_
  rintro e z15 ⟨rfl, rfl⟩
  go_wp2
  go_ret
  exact ⟨rfl, hT⟩

/-! The row's step, and the statement. -/
section
open Go.ChangeShapes Go.WideShapes Go.ChangeAt Go.RowKit
set_option maxRecDepth 100000 in
theorem lawSimplexPoint_lifted (os : Os) (started : os.Started) (H : Type) (enc : TypeId × Value → H) :
    ReturnsInHanded {} Try.checked os 3 .any (Rows.fnExactSimplexPointSpec.pre6 enc Try.prog Try.f3 Rows.fnExactSimplexPointRow.domain false) (Rows.fnExactSimplexPointSpec.post enc Try.prog Try.f3 false true false false) := by
  refine returnsInHanded_of_change (C := Try.checked) own_knob started (by kernel_rfl) Try.func3
    (ChangeSpec.witness6 (enc := enc) (C := Try.checked) false ⟨#[], #[.agg #[.int .i64 0, .int .u64 0, .int .u64 0], .int .i64 0], []⟩ 8 (by kernel_rfl) (by kernel_rfl) (by kernel_rfl) (by kernel_rfl)) ?_
  intro W base args ds gs before hval0 hW hcnd _
  have hval : ∀ (j : Nat) t v, Try.f3.params[j]? = some t → args[j]? = some v → Value.okWide Try.prog W .any base t v := hval0
  have hW' := hW
  obtain ⟨p, q, hA0, hV, rfl, hfz, hnd⟩ := hW
  have hA : DataW.TrodAll enc Try.prog W 0 (fun _ => true) true Try.f3.params.toList args.toList ds p := hA0
  have hold := fun x hx => hW'.lt x hx
  rw [Try.params3] at hA hval
  have hl : laidOutB Try.prog = true := by kernel_rfl
  obtain ⟨v0, vs0, d0, ds0, p0, q0, hargs, rfl, rfl, h0, r0⟩ := trodAll_cons hA
  obtain ⟨v1, vs1, d1, ds1, p1, q1, rfl, rfl, rfl, h1, r1⟩ := trodAll_cons r0
  obtain ⟨rfl, rfl, rfl⟩ := trodAll_nil r1
  obtain rfl : args = #[v0, v1] := by cases args; simp_all
  obtain ⟨rfl, rfl⟩ := trodVars_none hV
  obtain ⟨kq, aq, bq, rfl, hb0⟩ := open_seed (hval 0 24 v0 rfl rfl) h0
  obtain ⟨n, rfl, -, -, w1⟩ := open_int Try.underlying2 (hval 1 2 v1 rfl rfl) h1
  clear hA0 hval0
  refine (lawSimplexPoint_any kq aq bq hb0 n W ).mono fun e W' ⟨he, hg⟩ => ?_
  subst he
  exact ⟨_, rfl, post_below (pa := _) (pv := []) hW' (fun _ _ _ => (trodAll_cons_mk (shut_bool Try.underlying4 _) trodAll_mk0)) (fun sp hsp => (trodAll_cons_mk (WideElems.Trod_stays hl (by kernel_rfl) (of_decide_eq_true (by kernel_rfl)) h0 (fun x hx => hg.same (hold x (by simp [hx]))) (fun x hx => hsp x (by simp [hx]))) (trodAll_cons_mk (WideElems.Trod_stays hl (by kernel_rfl) (of_decide_eq_true (by kernel_rfl)) h1 (fun x hx => hg.same (hold x (by simp [hx]))) (fun x hx => hsp x (by simp [hx]))) trodAll_mk0))) (fun _ _ => rfl) rfl
    hg (ok_one (by kernel_rfl) rfl (okWide_bool_mk Try.underlying4 _))⟩

theorem fnSimplexPoint_holds : Rows.FnExactSimplexPointSaid :=
  OpenClaim.holds_of_wide 3 Try.f3 rfl rfl rfl rfl rfl rfl rfl ⟨rfl, rfl, rfl, rfl, rfl⟩ rfl rfl rfl rfl rfl (by kernel_rfl) Try.func3 (by kernel_rfl)
    (of_decide_eq_true (by kernel_rfl)) (by unfold Func.isWrapper; first | (rw [if_pos (by decide +kernel)]; kernel_rfl) | (rw [if_neg (by decide +kernel)]; exact ⟨rfl, rfl⟩))
    (fun os started H enc _ => lawSimplexPoint_lifted os started H enc)
end
#print axioms fnSimplexPoint_holds
end Go.Proofs.Ythdnelfggmlalaa
