/-
  For all shares and parts: the program's MixShares returns what the reference's returns. No condition.
-/
import Derived.Test.YtkohhhmllekokaaMix
import Derived.Test.YtkohhhmllekokaaShareOpen
import Derived.Deep.RegionHeld3
import Derived.Test.YtkohhhmllekokaaShTwo
import Derived.Deep.DeepCutAuto
namespace Go.Proofs.Ytkohhhmllekokaa
open Go.RowKit
attribute [local go_sem] run_up_


set_option maxHeartbeats 3200000 in
set_option maxRecDepth 100000 in
theorem lawMixShares_any (sa0 : Value) (xa0 : List Nat) (sa1 : Value) (xa1 : List Nat) (sb0 : Value) (xb0 : List Nat) (sb1 : Value) (xb1 : List Nat) (part : Nat) (w : World) (hra0 : Rd fV w sa0 xa0) (hxa0 : xa0.length ≤ 9223372036854775807) (hra1 : Rd fV w sa1 xa1) (hxa1 : xa1.length ≤ 9223372036854775807) (hrb0 : Rd fV w sb0 xb0) (hxb0 : xb0.length ≤ 9223372036854775807) (hrb1 : Rd fV w sb1 xb1) (hxb1 : xb1.length ≤ 9223372036854775807) :
    Calls Try.prog 8 #[shV sa0 sa1, shV sb0 sb1, .float .f32 part] w fun e w' => e = .returned (.bool true) ∧ Below w.heap.size w w' := by
  have HRa0 := Lib.hid hra0
  obtain ⟨Aa0, capa0, rfl, hcapa0, hAa0⟩ := hra0
  clear hAa0
  have HRa1 := Lib.hid hra1
  obtain ⟨Aa1, capa1, rfl, hcapa1, hAa1⟩ := hra1
  clear hAa1
  have HRb0 := Lib.hid hrb0
  obtain ⟨Ab0, capb0, rfl, hcapb0, hAb0⟩ := hrb0
  clear hAb0
  have HRb1 := Lib.hid hrb1
  obtain ⟨Ab1, capb1, rfl, hcapb1, hAb1⟩ := hrb1
  clear hAb1
  go_enter Try.func8, Try.ntmps8
  go_wp2_with fail
  have B_ba : BoxAt ((w.alloc (.cells ([.slice Aa0 xa0.length capa0, .slice Aa1 xa1.length capa1] : List Value).toArray 24)).alloc (.cells ([.slice Ab0 xb0.length capb0, .slice Ab1 xb1.length capb1] : List Value).toArray 24)) (w.heap.size) [.slice Aa0 xa0.length capa0, .slice Aa1 xa1.length capa1] := by
    have := ((BoxAt.new w [.slice Aa0 xa0.length capa0, .slice Aa1 xa1.length capa1] 24).alloc (.cells ([.slice Ab0 xb0.length capb0, .slice Ab1 xb1.length capb1] : List Value).toArray 24))
    exact this
  have B_bb : BoxAt ((w.alloc (.cells ([.slice Aa0 xa0.length capa0, .slice Aa1 xa1.length capa1] : List Value).toArray 24)).alloc (.cells ([.slice Ab0 xb0.length capb0, .slice Ab1 xb1.length capb1] : List Value).toArray 24)) (w.heap.size + 1) [.slice Ab0 xb0.length capb0, .slice Ab1 xb1.length capb1] := by
    have := (BoxAt.new (w.alloc (.cells ([.slice Aa0 xa0.length capa0, .slice Aa1 xa1.length capa1] : List Value).toArray 24)) [.slice Ab0 xb0.length capb0, .slice Ab1 xb1.length capb1] 24)
    rwa [size_alloc] at this
  have hT : Below w.heap.size w ((w.alloc (.cells ([.slice Aa0 xa0.length capa0, .slice Aa1 xa1.length capa1] : List Value).toArray 24)).alloc (.cells ([.slice Ab0 xb0.length capb0, .slice Ab1 xb1.length capb1] : List Value).toArray 24)) := ((Below.refl w.heap.size w).alloc (by exact Nat.le_refl _) _).alloc (by simp; try omega) _
  have hs_W0 : w.heap.size + 2 ≤ ((w.alloc (.cells ([.slice Aa0 xa0.length capa0, .slice Aa1 xa1.length capa1] : List Value).toArray 24)).alloc (.cells ([.slice Ab0 xb0.length capb0, .slice Ab1 xb1.length capb1] : List Value).toArray 24)).heap.size := by simp; try omega
  generalize hg : ((w.alloc (.cells ([.slice Aa0 xa0.length capa0, .slice Aa1 xa1.length capa1] : List Value).toArray 24)).alloc (.cells ([.slice Ab0 xb0.length capb0, .slice Ab1 xb1.length capb1] : List Value).toArray 24)) = W0 at *
  clear hg
  refine (szShare_any _ xa0 _ xa1 (1048576) (by omega) (by omega) _ (HRa0.out.below hT) (HRa1.out.below hT) hxa0 hxa1).mono ?_
  rintro e w1 ⟨rfl, hb⟩
  replace B_ba := B_ba.below hb
  replace B_bb := B_bb.below hb
  have hs_w1 : W0.heap.size ≤ w1.heap.size := hb.size
  replace hT := below_to hT hb hT.size
  clear hb
  by_cases hna : 1048576 < (xa0.length : Int) + (xa1.length : Int)
  · rw [if_pos hna]
    have l_ba := B_ba.lt
    have k_ba_0 := B_ba.cell 0 _ rfl
    have k_ba_1 := B_ba.cell 1 _ rfl
    have l_bb := B_bb.lt
    have k_bb_0 := B_bb.cell 0 _ rfl
    have k_bb_1 := B_bb.cell 1 _ rfl
    go_wp2
    go_ret
    exact ⟨rfl, hT⟩
  rw [if_neg hna]
  have l_ba := B_ba.lt
  have k_ba_0 := B_ba.cell 0 _ rfl
  have k_ba_1 := B_ba.cell 1 _ rfl
  have l_bb := B_bb.lt
  have k_bb_0 := B_bb.cell 0 _ rfl
  have k_bb_1 := B_bb.cell 1 _ rfl
  go_wp2_with fail
  refine (szShare_any _ xb0 _ xb1 (1048576 - ((xa0.length : Int) + (xa1.length : Int))) (by omega) (by omega) _ (HRb0.out.below hT) (HRb1.out.below hT) hxb0 hxb1).mono ?_
  rintro e w2 ⟨rfl, hb⟩
  replace B_ba := B_ba.below hb
  replace B_bb := B_bb.below hb
  have hs_w2 : w1.heap.size ≤ w2.heap.size := hb.size
  replace hT := below_to hT hb hT.size
  clear hb
  by_cases hnb : 1048576 - ((xa0.length : Int) + (xa1.length : Int)) < (xb0.length : Int) + (xb1.length : Int)
  · rw [if_pos hnb]
    clear l_ba k_ba_0 k_ba_1 l_bb k_bb_0 k_bb_1
    have l_ba := B_ba.lt
    have k_ba_0 := B_ba.cell 0 _ rfl
    have k_ba_1 := B_ba.cell 1 _ rfl
    have l_bb := B_bb.lt
    have k_bb_0 := B_bb.cell 0 _ rfl
    have k_bb_1 := B_bb.cell 1 _ rfl
    go_wp2
    go_ret
    exact ⟨rfl, hT⟩
  rw [if_neg hnb]
  have hma0 : xa0.length ≤ 1099511627776 := by omega
  have hma1 : xa1.length ≤ 1099511627776 := by omega
  have hmb0 : xb0.length ≤ 1099511627776 := by omega
  have hmb1 : xb1.length ≤ 1099511627776 := by omega
  have hd := Int.not_lt.1 hnb
  clear hna
  clear hnb
  clear l_ba k_ba_0 k_ba_1 l_bb k_bb_0 k_bb_1
  have l_ba := B_ba.lt
  have k_ba_0 := B_ba.cell 0 _ rfl
  have k_ba_1 := B_ba.cell 1 _ rfl
  have l_bb := B_bb.lt
  have k_bb_0 := B_bb.cell 0 _ rfl
  have k_bb_1 := B_bb.cell 1 _ rfl
  have hlt_ba := B_ba.lt
  have hlt_bb := B_bb.lt
  go_upto_region 8 with fail
  go_cut [8, 9] (fun sp so w3 => Got (mixOk xa0 xa1 xb0 xb1 part) (absL ((gatS (xa0 ++ xb0) (mixC part xa1 xb1)).map Prod.fst)) ((gatS (xa0 ++ xb0) (mixC part xa1 xb1)).map Prod.snd) w2 w3 sp so)
  case first =>
    go_region_held3 (fun w' => w'.cell? ⟨w.heap.size, 0, none⟩ = some (.slice Aa0 xa0.length capa0) ∧ w'.cell? ⟨w.heap.size, 1, none⟩ = some (.slice Aa1 xa1.length capa1) ∧ w'.cell? ⟨w.heap.size + 1, 0, none⟩ = some (.slice Ab0 xb0.length capb0) ∧ w'.cell? ⟨w.heap.size + 1, 1, none⟩ = some (.slice Ab1 xb1.length capb1))
      (first
        | go_keep
        | (refine ⟨?_, ?_, ?_, ?_⟩ <;> (rw [Below.cell (hc4.alloc hc4.size _) (by dsimp only; omega)]; assumption))
        | (refine ⟨?_, ?_, ?_, ?_⟩ <;> (rw [Below.cell (hc4) (by dsimp only; omega)]; assumption))
        | (refine ⟨?_, ?_, ?_, ?_⟩ <;> (rw [Below.cell (hc3.alloc hc3.size _) (by dsimp only; omega)]; assumption))
        | (refine ⟨?_, ?_, ?_, ?_⟩ <;> (rw [Below.cell (hc3) (by dsimp only; omega)]; assumption))
        | (refine ⟨?_, ?_, ?_, ?_⟩ <;> (rw [Below.cell (hc2.alloc hc2.size _) (by dsimp only; omega)]; assumption))
        | (refine ⟨?_, ?_, ?_, ?_⟩ <;> (rw [Below.cell (hc2) (by dsimp only; omega)]; assumption))
        | (refine ⟨?_, ?_, ?_, ?_⟩ <;> (rw [Below.cell (Below.setCell (p := ⟨w2.heap.size, 1, none⟩) (Below.setCell (p := ⟨w2.heap.size, 0, none⟩) (hc4) (Nat.le_refl _) (.slice E0 y0.length c0)) (Nat.le_refl _) (.slice E1 y1.length c1)) (by dsimp only; omega)]; assumption))
        | (refine ⟨?_, ?_, ?_, ?_⟩ <;> (rw [Below.cell (Below.setCell (p := ⟨wp2.heap.size, 1, none⟩) (Below.setCell (p := ⟨wp2.heap.size, 0, none⟩) (hc4) (hc2.size) (.slice E0 y0.length c0)) (hc2.size) (.slice E1 y1.length c1)) (by dsimp only; omega)]; assumption))
        | (refine ⟨?_, ?_, ?_, ?_⟩ <;> (rw [Below.cell (Below.setCell (p := ⟨wp3.heap.size, 1, none⟩) (Below.setCell (p := ⟨wp3.heap.size, 0, none⟩) (hc4) (hc3.size) (.slice E0 y0.length c0)) (hc3.size) (.slice E1 y1.length c1)) (by dsimp only; omega)]; assumption)))
      (first
        | (go_at_call 14; refine (toShare_any _ xa0 _ xa1 hma0 hma1 _ ?_ ?_).mono ?_; (exact HRa0.out.below (by first | exact hT.drew | exact (hT.alloc hT.size _).drew | exact hT.drew.alloc hT.size _)); (exact HRa1.out.below (by first | exact hT.drew | exact (hT.alloc hT.size _).drew | exact hT.drew.alloc hT.size _)); rintro e wp2 ⟨ua0, ua1, ma1, rfl, ia0, ia1, -, -, hq2⟩; have hc2 : Below w2.heap.size w2 wp2 := (by first | exact below_to (Below.refl w2.heap.size w2).drew hq2 (by simp) | exact below_to ((Below.refl w2.heap.size w2).alloc (Nat.le_refl _) _).drew hq2 (by simp)); (try have KB2 : BoxAt wp2 w2.heap.size [.slice none 0 0, .slice none 0 0] := ((BoxAt.new w2 _ _).below (Below.refl _ _).drew).below hq2))
        | (go_at_call 14; refine (toShare_any _ xb0 _ xb1 hmb0 hmb1 _ ?_ ?_).mono ?_; (exact HRb0.out.below (by first | exact hT.trans (hc2.mono hT.size) | exact (hT.trans (hc2.mono hT.size)).alloc (by have := hT.size; have := hc2.size; omega) _)); (exact HRb1.out.below (by first | exact hT.trans (hc2.mono hT.size) | exact (hT.trans (hc2.mono hT.size)).alloc (by have := hT.size; have := hc2.size; omega) _)); rintro e wp3 ⟨ub0, ub1, mb1, rfl, ib0, ib1, -, -, hq3⟩; have hc3 : Below w2.heap.size w2 wp3 := (by first | exact below_to hc2 hq3 hc2.size | exact below_to (hc2.alloc hc2.size _) hq3 (by have := hc2.size; simp; omega)); have hd3 : Below wp2.heap.size wp2 wp3 := (by first | exact hq3 | exact below_to (below_alloc wp2 _) hq3 (by simp)); (try first | (have KB3 := KB2.below hq3) | (have KB3 : BoxAt wp3 wp2.heap.size [.slice none 0 0, .slice none 0 0] := (BoxAt.new wp2 _ _).below hq3)))
        | (go_at_call 33; refine (specMixShares_any _ xa0 _ xa1 hma0 hma1 _ xb0 _ xb1 hmb0 hmb1 part _ ?_ ?_ ?_ ?_).mono ?_; (first | exact (ia0.below hd3).rd | exact (ia0.below hd3).rd.below (below_alloc _ _)); (first | exact (ia1.below hd3).rd | exact (ia1.below hd3).rd.below (below_alloc _ _)); (first | exact ib0.rd | exact ib0.rd.below (below_alloc _ _)); (first | exact ib1.rd | exact ib1.rd.below (below_alloc _ _)); rintro e wp4 ⟨v0, y0, v1, y1, rfl, o0, o1, ap, l0, l1, a0, a1, hq4⟩; obtain ⟨E0, c0, rfl, -, -⟩ := o0.rd; obtain ⟨E1, c1, rfl, -, -⟩ := o1.rd; have HG := Lib.hid (And.intro o0 (And.intro o1 (And.intro ap (And.intro l0 (And.intro l1 (And.intro a0 a1)))))); clear o0 o1 ap l0 l1 a0 a1; have hc4 : Below w2.heap.size w2 wp4 := (by first | exact below_to hc3 hq4 hc3.size | exact below_to (hc3.alloc hc3.size _) hq4 (by have := hc3.size; simp; omega)); (try first | (have KB4 := KB3.below hq4) | (have KB4 : BoxAt wp4 wp3.heap.size [.slice none 0 0, .slice none 0 0] := (BoxAt.new wp3 _ _).below hq4)); (try (have k0 := KB4.cell 0 _ rfl; have k1 := KB4.cell 1 _ rfl; have k2 := KB4.free 0; have k3 := KB4.free 1))))
    all_goals (go_wp2_with fail)
    all_goals go_meet
    all_goals
      first
      | exact got_set (S := wp3.heap.size) KB4 hc4 hc3.size (by first | exact KB3.lt | (simp; done) | (simp; omega)) (by first | exact hc3.size | (have := hc3.size; simp; omega)) hq4 HG.out.1 HG.out.2.1 HG.out.2.2.1 HG.out.2.2.2.1 HG.out.2.2.2.2.1 HG.out.2.2.2.2.2.1 HG.out.2.2.2.2.2.2
      | exact got_set (S := wp2.heap.size) KB4 hc4 hc2.size (by first | exact KB3.lt | (simp; done) | (simp; omega)) (by first | exact hc3.size | (have := hc3.size; simp; omega)) hq4 HG.out.1 HG.out.2.1 HG.out.2.2.1 HG.out.2.2.2.1 HG.out.2.2.2.2.1 HG.out.2.2.2.2.2.1 HG.out.2.2.2.2.2.2
      | exact got_set (S := w2.heap.size) KB4 hc4 (Nat.le_refl _) (by first | exact KB3.lt | (simp; done) | (simp; omega)) (by first | exact hc3.size | (have := hc3.size; simp; omega)) hq4 HG.out.1 HG.out.2.1 HG.out.2.2.1 HG.out.2.2.2.1 HG.out.2.2.2.2.1 HG.out.2.2.2.2.2.1 HG.out.2.2.2.2.2.2
      | exact got_last hc4 (by first | exact hc3.size | (have := hc3.size; simp; omega)) hq4 HG.out.1 HG.out.2.1 HG.out.2.2.1 HG.out.2.2.2.1 HG.out.2.2.2.2.1 HG.out.2.2.2.2.2.1 HG.out.2.2.2.2.2.2
  obtain ⟨w3, hwc⟩ : ∃ W, W = wc := ⟨_, rfl⟩
  subst hwc
  obtain ⟨S_w_0, A_vw_0_0, c_w_0_0, A_vw_0_1, c_w_0_1, y_w_0_0, y_w_0_1, lo_w_0_0, hi_w_0_0, lo_w_0_1, hi_w_0_1, rfl, rfl, B_zw_0, hb, w_0_0, w_0_1, l_w_0_0, l_w_0_1, a_w_0_0, a_w_0_1, q_w_01, q_w_02, q_w_03, q_w_04, q_w_05, q_w_06, q_w_07, q_w_08, q_w_09⟩ := hcut
  have q_w_00 := B_zw_0.lt
  have A_w_0_0 := Lib.hid a_w_0_0
  clear a_w_0_0
  have A_w_0_1 := Lib.hid a_w_0_1
  clear a_w_0_1
  clear hlt_ba
  clear hlt_bb
  replace B_ba := B_ba.below hb
  replace B_bb := B_bb.below hb
  have hs_w3 : w2.heap.size ≤ w3.heap.size := hb.size
  replace hT := below_to hT hb hT.size
  clear hb
  clear l_ba k_ba_0 k_ba_1 l_bb k_bb_0 k_bb_1
  have l_ba := B_ba.lt
  have k_ba_0 := B_ba.cell 0 _ rfl
  have k_ba_1 := B_ba.cell 1 _ rfl
  have l_bb := B_bb.lt
  have k_bb_0 := B_bb.cell 0 _ rfl
  have k_bb_1 := B_bb.cell 1 _ rfl
  have l_zw_0 := B_zw_0.lt
  have k_zw_0_0 := B_zw_0.cell 0 _ rfl
  have k_zw_0_1 := B_zw_0.cell 1 _ rfl
  go_wp2_with fail
  refine (toShare_any _ xa0 _ xa1 hma0 hma1 _ (HRa0.out.below hT) (HRa1.out.below hT)).mono ?_
  rintro e w4 ⟨v_x_a_0, v_x_a_1, m_x_a1, rfl, x_a_0, x_a_1, q_x_a0, q_x_a1, hb⟩
  obtain ⟨A_x_a_0, c_x_a_0, rfl, -, -⟩ := x_a_0.rd
  obtain ⟨A_x_a_1, c_x_a_1, rfl, -, -⟩ := x_a_1.rd
  replace w_0_0 := w_0_0.below hb
  replace w_0_1 := w_0_1.below hb
  replace B_ba := B_ba.below hb
  replace B_bb := B_bb.below hb
  replace B_zw_0 := B_zw_0.below hb
  have hs_w4 : w3.heap.size ≤ w4.heap.size := hb.size
  replace hT := below_to hT hb hT.size
  clear hb
  clear l_ba k_ba_0 k_ba_1 l_bb k_bb_0 k_bb_1 l_zw_0 k_zw_0_0 k_zw_0_1
  have l_ba := B_ba.lt
  have k_ba_0 := B_ba.cell 0 _ rfl
  have k_ba_1 := B_ba.cell 1 _ rfl
  have l_bb := B_bb.lt
  have k_bb_0 := B_bb.cell 0 _ rfl
  have k_bb_1 := B_bb.cell 1 _ rfl
  have l_zw_0 := B_zw_0.lt
  have k_zw_0_0 := B_zw_0.cell 0 _ rfl
  have k_zw_0_1 := B_zw_0.cell 1 _ rfl
  go_wp2_with fail
  have hb : Below w4.heap.size w4 (w4.alloc (.cells ([(.slice A_x_a_0 xa0.length c_x_a_0), (.slice A_x_a_1 xa1.length c_x_a_1)] : List Value).toArray 27)) := below_alloc _ _
  have B_zx_a : BoxAt (w4.alloc (.cells ([(.slice A_x_a_0 xa0.length c_x_a_0), (.slice A_x_a_1 xa1.length c_x_a_1)] : List Value).toArray 27)) w4.heap.size [(.slice A_x_a_0 xa0.length c_x_a_0), (.slice A_x_a_1 xa1.length c_x_a_1)] := BoxAt.new _ _ _
  have hz_zx_a : (w4.alloc (.cells ([(.slice A_x_a_0 xa0.length c_x_a_0), (.slice A_x_a_1 xa1.length c_x_a_1)] : List Value).toArray 27)).heap.size = w4.heap.size + 1 := size_alloc _ _
  generalize hg_zx_a : World.alloc w4 _ = w5 at *
  clear hg_zx_a
  replace w_0_0 := w_0_0.below hb
  replace w_0_1 := w_0_1.below hb
  replace x_a_0 := x_a_0.below hb
  replace x_a_1 := x_a_1.below hb
  replace B_ba := B_ba.below hb
  replace B_bb := B_bb.below hb
  replace B_zw_0 := B_zw_0.below hb
  have hs_w5 : w4.heap.size ≤ w5.heap.size := hb.size
  replace hT := below_to hT hb hT.size
  clear hb
  clear l_ba k_ba_0 k_ba_1 l_bb k_bb_0 k_bb_1 l_zw_0 k_zw_0_0 k_zw_0_1
  have l_ba := B_ba.lt
  have k_ba_0 := B_ba.cell 0 _ rfl
  have k_ba_1 := B_ba.cell 1 _ rfl
  have l_bb := B_bb.lt
  have k_bb_0 := B_bb.cell 0 _ rfl
  have k_bb_1 := B_bb.cell 1 _ rfl
  have l_zw_0 := B_zw_0.lt
  have k_zw_0_0 := B_zw_0.cell 0 _ rfl
  have k_zw_0_1 := B_zw_0.cell 1 _ rfl
  have l_zx_a := B_zx_a.lt
  have k_zx_a_0 := B_zx_a.cell 0 _ rfl
  have k_zx_a_1 := B_zx_a.cell 1 _ rfl
  go_wp2_with fail
  refine (toShare_any _ xb0 _ xb1 hmb0 hmb1 _ (HRb0.out.below hT) (HRb1.out.below hT)).mono ?_
  rintro e w6 ⟨v_x_b_0, v_x_b_1, m_x_b1, rfl, x_b_0, x_b_1, q_x_b0, q_x_b1, hb⟩
  obtain ⟨A_x_b_0, c_x_b_0, rfl, -, -⟩ := x_b_0.rd
  obtain ⟨A_x_b_1, c_x_b_1, rfl, -, -⟩ := x_b_1.rd
  replace w_0_0 := w_0_0.below hb
  replace w_0_1 := w_0_1.below hb
  replace x_a_0 := x_a_0.below hb
  replace x_a_1 := x_a_1.below hb
  replace B_ba := B_ba.below hb
  replace B_bb := B_bb.below hb
  replace B_zw_0 := B_zw_0.below hb
  replace B_zx_a := B_zx_a.below hb
  have hs_w6 : w5.heap.size ≤ w6.heap.size := hb.size
  replace hT := below_to hT hb hT.size
  clear hb
  clear l_ba k_ba_0 k_ba_1 l_bb k_bb_0 k_bb_1 l_zw_0 k_zw_0_0 k_zw_0_1 l_zx_a k_zx_a_0 k_zx_a_1
  have l_ba := B_ba.lt
  have k_ba_0 := B_ba.cell 0 _ rfl
  have k_ba_1 := B_ba.cell 1 _ rfl
  have l_bb := B_bb.lt
  have k_bb_0 := B_bb.cell 0 _ rfl
  have k_bb_1 := B_bb.cell 1 _ rfl
  have l_zw_0 := B_zw_0.lt
  have k_zw_0_0 := B_zw_0.cell 0 _ rfl
  have k_zw_0_1 := B_zw_0.cell 1 _ rfl
  have l_zx_a := B_zx_a.lt
  have k_zx_a_0 := B_zx_a.cell 0 _ rfl
  have k_zx_a_1 := B_zx_a.cell 1 _ rfl
  go_wp2_with fail
  have hb : Below w6.heap.size w6 (w6.alloc (.cells ([(.slice A_x_b_0 xb0.length c_x_b_0), (.slice A_x_b_1 xb1.length c_x_b_1)] : List Value).toArray 27)) := below_alloc _ _
  have B_zx_b : BoxAt (w6.alloc (.cells ([(.slice A_x_b_0 xb0.length c_x_b_0), (.slice A_x_b_1 xb1.length c_x_b_1)] : List Value).toArray 27)) w6.heap.size [(.slice A_x_b_0 xb0.length c_x_b_0), (.slice A_x_b_1 xb1.length c_x_b_1)] := BoxAt.new _ _ _
  have hz_zx_b : (w6.alloc (.cells ([(.slice A_x_b_0 xb0.length c_x_b_0), (.slice A_x_b_1 xb1.length c_x_b_1)] : List Value).toArray 27)).heap.size = w6.heap.size + 1 := size_alloc _ _
  generalize hg_zx_b : World.alloc w6 _ = w7 at *
  clear hg_zx_b
  replace w_0_0 := w_0_0.below hb
  replace w_0_1 := w_0_1.below hb
  replace x_a_0 := x_a_0.below hb
  replace x_a_1 := x_a_1.below hb
  replace x_b_0 := x_b_0.below hb
  replace x_b_1 := x_b_1.below hb
  replace B_ba := B_ba.below hb
  replace B_bb := B_bb.below hb
  replace B_zw_0 := B_zw_0.below hb
  replace B_zx_a := B_zx_a.below hb
  have hs_w7 : w6.heap.size ≤ w7.heap.size := hb.size
  replace hT := below_to hT hb hT.size
  clear hb
  clear l_ba k_ba_0 k_ba_1 l_bb k_bb_0 k_bb_1 l_zw_0 k_zw_0_0 k_zw_0_1 l_zx_a k_zx_a_0 k_zx_a_1
  have l_ba := B_ba.lt
  have k_ba_0 := B_ba.cell 0 _ rfl
  have k_ba_1 := B_ba.cell 1 _ rfl
  have l_bb := B_bb.lt
  have k_bb_0 := B_bb.cell 0 _ rfl
  have k_bb_1 := B_bb.cell 1 _ rfl
  have l_zw_0 := B_zw_0.lt
  have k_zw_0_0 := B_zw_0.cell 0 _ rfl
  have k_zw_0_1 := B_zw_0.cell 1 _ rfl
  have l_zx_a := B_zx_a.lt
  have k_zx_a_0 := B_zx_a.cell 0 _ rfl
  have k_zx_a_1 := B_zx_a.cell 1 _ rfl
  have l_zx_b := B_zx_b.lt
  have k_zx_b_0 := B_zx_b.cell 0 _ rfl
  have k_zx_b_1 := B_zx_b.cell 1 _ rfl
  go_wp2_with fail
  refine (implMixShares_any _ xa0 _ xa1 hma0 hma1 _ xb0 _ xb1 hmb0 hmb1 part _ x_a_0.rd x_a_1.rd x_b_0.rd x_b_1.rd).mono ?_
  rintro e w8 ⟨v_g_0_0, y_g_0_0, v_g_0_1, y_g_0_1, rfl, g_0_0, g_0_1, p_g_001, l_g_0_0, l_g_0_1, a_g_0_0, a_g_0_1, hb⟩
  have A_g_0_0 := Lib.hid a_g_0_0
  clear a_g_0_0
  have A_g_0_1 := Lib.hid a_g_0_1
  clear a_g_0_1
  obtain ⟨lo_g_0_0, hi_g_0_0, lo_g_0_1, hi_g_0_1, r_g_0_0, r_g_0_1, q_g_01, q_g_02, q_g_03, q_g_04, q_g_05, q_g_06, q_g_07⟩ := own_pt2 g_0_0 g_0_1 p_g_001 hb.size
  clear g_0_0 g_0_1 p_g_001
  have g_0_0 := r_g_0_0
  have g_0_1 := r_g_0_1
  clear r_g_0_0 r_g_0_1
  obtain ⟨A_vg_0_0, c_g_0_0, rfl, -, -⟩ := g_0_0.rd
  obtain ⟨A_vg_0_1, c_g_0_1, rfl, -, -⟩ := g_0_1.rd
  replace w_0_0 := w_0_0.below hb
  replace w_0_1 := w_0_1.below hb
  replace x_a_0 := x_a_0.below hb
  replace x_a_1 := x_a_1.below hb
  replace x_b_0 := x_b_0.below hb
  replace x_b_1 := x_b_1.below hb
  replace B_ba := B_ba.below hb
  replace B_bb := B_bb.below hb
  replace B_zw_0 := B_zw_0.below hb
  replace B_zx_a := B_zx_a.below hb
  replace B_zx_b := B_zx_b.below hb
  have hs_w8 : w7.heap.size ≤ w8.heap.size := hb.size
  replace hT := below_to hT hb hT.size
  clear hb
  clear l_ba k_ba_0 k_ba_1 l_bb k_bb_0 k_bb_1 l_zw_0 k_zw_0_0 k_zw_0_1 l_zx_a k_zx_a_0 k_zx_a_1 l_zx_b k_zx_b_0 k_zx_b_1
  have l_ba := B_ba.lt
  have k_ba_0 := B_ba.cell 0 _ rfl
  have k_ba_1 := B_ba.cell 1 _ rfl
  have l_bb := B_bb.lt
  have k_bb_0 := B_bb.cell 0 _ rfl
  have k_bb_1 := B_bb.cell 1 _ rfl
  have l_zw_0 := B_zw_0.lt
  have k_zw_0_0 := B_zw_0.cell 0 _ rfl
  have k_zw_0_1 := B_zw_0.cell 1 _ rfl
  have l_zx_a := B_zx_a.lt
  have k_zx_a_0 := B_zx_a.cell 0 _ rfl
  have k_zx_a_1 := B_zx_a.cell 1 _ rfl
  have l_zx_b := B_zx_b.lt
  have k_zx_b_0 := B_zx_b.cell 0 _ rfl
  have k_zx_b_1 := B_zx_b.cell 1 _ rfl
  go_wp2_with fail
  have hb : Below w8.heap.size w8 (w8.alloc (.cells ([(.slice A_vg_0_0 y_g_0_0.length c_g_0_0), (.slice A_vg_0_1 y_g_0_1.length c_g_0_1)] : List Value).toArray 27)) := below_alloc _ _
  have B_zg_0 : BoxAt (w8.alloc (.cells ([(.slice A_vg_0_0 y_g_0_0.length c_g_0_0), (.slice A_vg_0_1 y_g_0_1.length c_g_0_1)] : List Value).toArray 27)) w8.heap.size [(.slice A_vg_0_0 y_g_0_0.length c_g_0_0), (.slice A_vg_0_1 y_g_0_1.length c_g_0_1)] := BoxAt.new _ _ _
  have hz_zg_0 : (w8.alloc (.cells ([(.slice A_vg_0_0 y_g_0_0.length c_g_0_0), (.slice A_vg_0_1 y_g_0_1.length c_g_0_1)] : List Value).toArray 27)).heap.size = w8.heap.size + 1 := size_alloc _ _
  generalize hg_zg_0 : World.alloc w8 _ = w9 at *
  clear hg_zg_0
  replace w_0_0 := w_0_0.below hb
  replace w_0_1 := w_0_1.below hb
  replace x_a_0 := x_a_0.below hb
  replace x_a_1 := x_a_1.below hb
  replace x_b_0 := x_b_0.below hb
  replace x_b_1 := x_b_1.below hb
  replace g_0_0 := g_0_0.below hb
  replace g_0_1 := g_0_1.below hb
  replace B_ba := B_ba.below hb
  replace B_bb := B_bb.below hb
  replace B_zw_0 := B_zw_0.below hb
  replace B_zx_a := B_zx_a.below hb
  replace B_zx_b := B_zx_b.below hb
  have hs_w9 : w8.heap.size ≤ w9.heap.size := hb.size
  replace hT := below_to hT hb hT.size
  clear hb
  clear l_ba k_ba_0 k_ba_1 l_bb k_bb_0 k_bb_1 l_zw_0 k_zw_0_0 k_zw_0_1 l_zx_a k_zx_a_0 k_zx_a_1 l_zx_b k_zx_b_0 k_zx_b_1
  have l_ba := B_ba.lt
  have k_ba_0 := B_ba.cell 0 _ rfl
  have k_ba_1 := B_ba.cell 1 _ rfl
  have l_bb := B_bb.lt
  have k_bb_0 := B_bb.cell 0 _ rfl
  have k_bb_1 := B_bb.cell 1 _ rfl
  have l_zw_0 := B_zw_0.lt
  have k_zw_0_0 := B_zw_0.cell 0 _ rfl
  have k_zw_0_1 := B_zw_0.cell 1 _ rfl
  have l_zx_a := B_zx_a.lt
  have k_zx_a_0 := B_zx_a.cell 0 _ rfl
  have k_zx_a_1 := B_zx_a.cell 1 _ rfl
  have l_zx_b := B_zx_b.lt
  have k_zx_b_0 := B_zx_b.cell 0 _ rfl
  have k_zx_b_1 := B_zx_b.cell 1 _ rfl
  have l_zg_0 := B_zg_0.lt
  have k_zg_0_0 := B_zg_0.cell 0 _ rfl
  have k_zg_0_1 := B_zg_0.cell 1 _ rfl
  go_wp2_with fail
  refine (eqShare_any _ _ y_g_0_0 y_w_0_0 _ _ y_g_0_1 y_w_0_1 (Nat.le_trans l_g_0_0 (by omega)) (Nat.le_trans l_w_0_0 (by omega)) (Nat.le_trans l_g_0_1 (by omega)) (Nat.le_trans l_w_0_1 (by omega)) _ g_0_0.rd w_0_0.rd (A_g_0_0.out.trans A_w_0_0.out.symm) g_0_1.rd w_0_1.rd (A_g_0_1.out.trans A_w_0_1.out.symm)).mono ?_
  rintro e w10 ⟨rfl, hb⟩
  replace w_0_0 := w_0_0.below hb
  replace w_0_1 := w_0_1.below hb
  replace x_a_0 := x_a_0.below hb
  replace x_a_1 := x_a_1.below hb
  replace x_b_0 := x_b_0.below hb
  replace x_b_1 := x_b_1.below hb
  replace g_0_0 := g_0_0.below hb
  replace g_0_1 := g_0_1.below hb
  replace B_ba := B_ba.below hb
  replace B_bb := B_bb.below hb
  replace B_zw_0 := B_zw_0.below hb
  replace B_zx_a := B_zx_a.below hb
  replace B_zx_b := B_zx_b.below hb
  replace B_zg_0 := B_zg_0.below hb
  have hs_w10 : w9.heap.size ≤ w10.heap.size := hb.size
  replace hT := below_to hT hb hT.size
  clear hb
  clear l_ba k_ba_0 k_ba_1 l_bb k_bb_0 k_bb_1 l_zw_0 k_zw_0_0 k_zw_0_1 l_zx_a k_zx_a_0 k_zx_a_1 l_zx_b k_zx_b_0 k_zx_b_1 l_zg_0 k_zg_0_0 k_zg_0_1
  have l_ba := B_ba.lt
  have k_ba_0 := B_ba.cell 0 _ rfl
  have k_ba_1 := B_ba.cell 1 _ rfl
  have l_bb := B_bb.lt
  have k_bb_0 := B_bb.cell 0 _ rfl
  have k_bb_1 := B_bb.cell 1 _ rfl
  have l_zw_0 := B_zw_0.lt
  have k_zw_0_0 := B_zw_0.cell 0 _ rfl
  have k_zw_0_1 := B_zw_0.cell 1 _ rfl
  have l_zx_a := B_zx_a.lt
  have k_zx_a_0 := B_zx_a.cell 0 _ rfl
  have k_zx_a_1 := B_zx_a.cell 1 _ rfl
  have l_zx_b := B_zx_b.lt
  have k_zx_b_0 := B_zx_b.cell 0 _ rfl
  have k_zx_b_1 := B_zx_b.cell 1 _ rfl
  have l_zg_0 := B_zg_0.lt
  have k_zg_0_0 := B_zg_0.cell 0 _ rfl
  have k_zg_0_1 := B_zg_0.cell 1 _ rfl
  have hlt_ba := B_ba.lt
  have hlt_bb := B_bb.lt
  have hlt_zw_0 := B_zw_0.lt
  have hlt_zx_a := B_zx_a.lt
  have hlt_zx_b := B_zx_b.lt
  have hlt_zg_0 := B_zg_0.lt
  go_wp2
  go_region_held3 (fun w' => w'.cell? ⟨w4.heap.size, 0, none⟩ = some ((.slice A_x_a_0 xa0.length c_x_a_0)) ∧ w'.cell? ⟨w4.heap.size, 1, none⟩ = some ((.slice A_x_a_1 xa1.length c_x_a_1)) ∧ w'.cell? ⟨w.heap.size, 0, none⟩ = some (.slice Aa0 xa0.length capa0) ∧ w'.cell? ⟨w.heap.size, 1, none⟩ = some (.slice Aa1 xa1.length capa1))
    (first
      | go_keep
      | (go_split_ands; refine ⟨?_, ?_, ?_, ?_⟩ <;> (rw [hb12.cell (by have z0 := hb11.size; simp at z0 ⊢; omega)]; assumption))
      | (go_split_ands; refine ⟨?_, ?_, ?_, ?_⟩ <;> (rw [hb11.cell (by  try simp; omega)]; assumption)))
    (first
      | (go_at_call 14; refine (toShare_any _ xa0 _ xa1 hma0 hma1 _ ?_ ?_).mono ?_; (exact HRa0.out.below (hT.drew)); (exact HRa1.out.below (hT.drew)); rintro e w11 ⟨v_ita_0, v_ita_1, m_ita1, rfl, ita_0, ita_1, -, -, hb11⟩)
      | (go_at_call 16; refine (eqShare_any _ _ xa0 xa0 _ _ xa1 xa1 hma0 hma0 hma1 hma1 _ ?_ ?_ rfl ?_ ?_ rfl).mono ?_; (exact ((x_a_0.below ((Below.refl _ _).drew)).below hb11).rd); (exact ita_0.rd); (exact ((x_a_1.below ((Below.refl _ _).drew)).below hb11).rd); (exact ita_1.rd); rintro e w12 ⟨rfl, hb12⟩))
  have hb : Below w10.heap.size w10 w12 := below_to (below_to ((Below.refl w10.heap.size w10).drew) hb11 (by simp)) hb12 (by have z0 := hb11.size; simp at z0 ⊢; omega)
  clear ita_0 ita_1 hb11 hb12 hlt_ba hlt_bb hlt_zw_0 hlt_zx_a hlt_zx_b hlt_zg_0
  replace w_0_0 := w_0_0.below hb
  replace w_0_1 := w_0_1.below hb
  replace x_a_0 := x_a_0.below hb
  replace x_a_1 := x_a_1.below hb
  replace x_b_0 := x_b_0.below hb
  replace x_b_1 := x_b_1.below hb
  replace g_0_0 := g_0_0.below hb
  replace g_0_1 := g_0_1.below hb
  replace B_ba := B_ba.below hb
  replace B_bb := B_bb.below hb
  replace B_zw_0 := B_zw_0.below hb
  replace B_zx_a := B_zx_a.below hb
  replace B_zx_b := B_zx_b.below hb
  replace B_zg_0 := B_zg_0.below hb
  have hs_w12 : w10.heap.size ≤ w12.heap.size := hb.size
  replace hT := below_to hT hb hT.size
  clear hb
  clear l_ba k_ba_0 k_ba_1 l_bb k_bb_0 k_bb_1 l_zw_0 k_zw_0_0 k_zw_0_1 l_zx_a k_zx_a_0 k_zx_a_1 l_zx_b k_zx_b_0 k_zx_b_1 l_zg_0 k_zg_0_0 k_zg_0_1
  have l_ba := B_ba.lt
  have k_ba_0 := B_ba.cell 0 _ rfl
  have k_ba_1 := B_ba.cell 1 _ rfl
  have l_bb := B_bb.lt
  have k_bb_0 := B_bb.cell 0 _ rfl
  have k_bb_1 := B_bb.cell 1 _ rfl
  have l_zw_0 := B_zw_0.lt
  have k_zw_0_0 := B_zw_0.cell 0 _ rfl
  have k_zw_0_1 := B_zw_0.cell 1 _ rfl
  have l_zx_a := B_zx_a.lt
  have k_zx_a_0 := B_zx_a.cell 0 _ rfl
  have k_zx_a_1 := B_zx_a.cell 1 _ rfl
  have l_zx_b := B_zx_b.lt
  have k_zx_b_0 := B_zx_b.cell 0 _ rfl
  have k_zx_b_1 := B_zx_b.cell 1 _ rfl
  have l_zg_0 := B_zg_0.lt
  have k_zg_0_0 := B_zg_0.cell 0 _ rfl
  have k_zg_0_1 := B_zg_0.cell 1 _ rfl
  have hlt_ba := B_ba.lt
  have hlt_bb := B_bb.lt
  have hlt_zw_0 := B_zw_0.lt
  have hlt_zx_a := B_zx_a.lt
  have hlt_zx_b := B_zx_b.lt
  have hlt_zg_0 := B_zg_0.lt
  go_wp2
  go_region_held3 (fun w' => w'.cell? ⟨w6.heap.size, 0, none⟩ = some ((.slice A_x_b_0 xb0.length c_x_b_0)) ∧ w'.cell? ⟨w6.heap.size, 1, none⟩ = some ((.slice A_x_b_1 xb1.length c_x_b_1)) ∧ w'.cell? ⟨w.heap.size + 1, 0, none⟩ = some (.slice Ab0 xb0.length capb0) ∧ w'.cell? ⟨w.heap.size + 1, 1, none⟩ = some (.slice Ab1 xb1.length capb1))
    (first
      | go_keep
      | (go_split_ands; refine ⟨?_, ?_, ?_, ?_⟩ <;> (rw [hb14.cell (by have z0 := hb13.size; simp at z0 ⊢; omega)]; assumption))
      | (go_split_ands; refine ⟨?_, ?_, ?_, ?_⟩ <;> (rw [hb13.cell (by  try simp; omega)]; assumption)))
    (first
      | (go_at_call 14; refine (toShare_any _ xb0 _ xb1 hmb0 hmb1 _ ?_ ?_).mono ?_; (exact HRb0.out.below (hT.drew)); (exact HRb1.out.below (hT.drew)); rintro e w13 ⟨v_itb_0, v_itb_1, m_itb1, rfl, itb_0, itb_1, -, -, hb13⟩)
      | (go_at_call 16; refine (eqShare_any _ _ xb0 xb0 _ _ xb1 xb1 hmb0 hmb0 hmb1 hmb1 _ ?_ ?_ rfl ?_ ?_ rfl).mono ?_; (exact ((x_b_0.below ((Below.refl _ _).drew)).below hb13).rd); (exact itb_0.rd); (exact ((x_b_1.below ((Below.refl _ _).drew)).below hb13).rd); (exact itb_1.rd); rintro e w14 ⟨rfl, hb14⟩))
  have hb : Below w12.heap.size w12 w14 := below_to (below_to ((Below.refl w12.heap.size w12).drew) hb13 (by simp)) hb14 (by have z0 := hb13.size; simp at z0 ⊢; omega)
  clear itb_0 itb_1 hb13 hb14 hlt_ba hlt_bb hlt_zw_0 hlt_zx_a hlt_zx_b hlt_zg_0
  replace w_0_0 := w_0_0.below hb
  replace w_0_1 := w_0_1.below hb
  replace x_a_0 := x_a_0.below hb
  replace x_a_1 := x_a_1.below hb
  replace x_b_0 := x_b_0.below hb
  replace x_b_1 := x_b_1.below hb
  replace g_0_0 := g_0_0.below hb
  replace g_0_1 := g_0_1.below hb
  replace B_ba := B_ba.below hb
  replace B_bb := B_bb.below hb
  replace B_zw_0 := B_zw_0.below hb
  replace B_zx_a := B_zx_a.below hb
  replace B_zx_b := B_zx_b.below hb
  replace B_zg_0 := B_zg_0.below hb
  have hs_w14 : w12.heap.size ≤ w14.heap.size := hb.size
  replace hT := below_to hT hb hT.size
  clear hb
  clear l_ba k_ba_0 k_ba_1 l_bb k_bb_0 k_bb_1 l_zw_0 k_zw_0_0 k_zw_0_1 l_zx_a k_zx_a_0 k_zx_a_1 l_zx_b k_zx_b_0 k_zx_b_1 l_zg_0 k_zg_0_0 k_zg_0_1
  have l_ba := B_ba.lt
  have k_ba_0 := B_ba.cell 0 _ rfl
  have k_ba_1 := B_ba.cell 1 _ rfl
  have l_bb := B_bb.lt
  have k_bb_0 := B_bb.cell 0 _ rfl
  have k_bb_1 := B_bb.cell 1 _ rfl
  have l_zw_0 := B_zw_0.lt
  have k_zw_0_0 := B_zw_0.cell 0 _ rfl
  have k_zw_0_1 := B_zw_0.cell 1 _ rfl
  have l_zx_a := B_zx_a.lt
  have k_zx_a_0 := B_zx_a.cell 0 _ rfl
  have k_zx_a_1 := B_zx_a.cell 1 _ rfl
  have l_zx_b := B_zx_b.lt
  have k_zx_b_0 := B_zx_b.cell 0 _ rfl
  have k_zx_b_1 := B_zx_b.cell 1 _ rfl
  have l_zg_0 := B_zg_0.lt
  have k_zg_0_0 := B_zg_0.cell 0 _ rfl
  have k_zg_0_1 := B_zg_0.cell 1 _ rfl
  go_wp2_with fail
  refine (markShare_any _ _ _ _ _ (by omega) (by omega) _ _ _ _ _ x_a_0 x_a_1 (by have := hma0; omega) (by have := hma1; omega) (by omega) (by omega) (by omega) (by omega) (by omega)).mono ?_
  rintro e w15 ⟨w15V0, w15V1, rfl, hb, ht0, ht1, om0, om1⟩
  have hs_w15V0 : w14.heap.size ≤ w15V0.heap.size := hb.size
  have hs_w15V1 : w15V0.heap.size ≤ w15V1.heap.size := ht0.size
  have hs_w15 : w15V1.heap.size ≤ w15.heap.size := ht1.size
  replace w_0_0 := ((w_0_0.below hb).touch ht0 (by omega)).touch ht1 (by omega)
  replace w_0_1 := ((w_0_1.below hb).touch ht0 (by omega)).touch ht1 (by omega)
  replace x_b_0 := ((x_b_0.below hb).touch ht0 (by omega)).touch ht1 (by omega)
  replace x_b_1 := ((x_b_1.below hb).touch ht0 (by omega)).touch ht1 (by omega)
  replace g_0_0 := ((g_0_0.below hb).touch ht0 (by omega)).touch ht1 (by omega)
  replace g_0_1 := ((g_0_1.below hb).touch ht0 (by omega)).touch ht1 (by omega)
  replace B_ba := ((B_ba.below hb).touch ht0 (by omega)).touch ht1 (by omega)
  replace B_bb := ((B_bb.below hb).touch ht0 (by omega)).touch ht1 (by omega)
  replace B_zw_0 := ((B_zw_0.below hb).touch ht0 (by omega)).touch ht1 (by omega)
  replace B_zx_a := ((B_zx_a.below hb).touch ht0 (by omega)).touch ht1 (by omega)
  replace B_zx_b := ((B_zx_b.below hb).touch ht0 (by omega)).touch ht1 (by omega)
  replace B_zg_0 := ((B_zg_0.below hb).touch ht0 (by omega)).touch ht1 (by omega)
  replace hT := ((below_to hT hb hT.size).trans (ht0.below (by omega) (by omega))).trans (ht1.below (by omega) (by omega))
  have x_a_0 := om0
  have x_a_1 := om1
  clear hb ht0 ht1 om0 om1
  clear l_ba k_ba_0 k_ba_1 l_bb k_bb_0 k_bb_1 l_zw_0 k_zw_0_0 k_zw_0_1 l_zx_a k_zx_a_0 k_zx_a_1 l_zx_b k_zx_b_0 k_zx_b_1 l_zg_0 k_zg_0_0 k_zg_0_1
  have l_ba := B_ba.lt
  have k_ba_0 := B_ba.cell 0 _ rfl
  have k_ba_1 := B_ba.cell 1 _ rfl
  have l_bb := B_bb.lt
  have k_bb_0 := B_bb.cell 0 _ rfl
  have k_bb_1 := B_bb.cell 1 _ rfl
  have l_zw_0 := B_zw_0.lt
  have k_zw_0_0 := B_zw_0.cell 0 _ rfl
  have k_zw_0_1 := B_zw_0.cell 1 _ rfl
  have l_zx_a := B_zx_a.lt
  have k_zx_a_0 := B_zx_a.cell 0 _ rfl
  have k_zx_a_1 := B_zx_a.cell 1 _ rfl
  have l_zx_b := B_zx_b.lt
  have k_zx_b_0 := B_zx_b.cell 0 _ rfl
  have k_zx_b_1 := B_zx_b.cell 1 _ rfl
  have l_zg_0 := B_zg_0.lt
  have k_zg_0_0 := B_zg_0.cell 0 _ rfl
  have k_zg_0_1 := B_zg_0.cell 1 _ rfl
  go_wp2_with fail
  refine (markShare_any _ _ _ _ _ (by omega) (by omega) _ _ _ _ _ x_b_0 x_b_1 (by have := hmb0; omega) (by have := hmb1; omega) (by omega) (by omega) (by omega) (by omega) (by omega)).mono ?_
  rintro e w16 ⟨w16V0, w16V1, rfl, hb, ht0, ht1, om0, om1⟩
  have hs_w16V0 : w15.heap.size ≤ w16V0.heap.size := hb.size
  have hs_w16V1 : w16V0.heap.size ≤ w16V1.heap.size := ht0.size
  have hs_w16 : w16V1.heap.size ≤ w16.heap.size := ht1.size
  replace w_0_0 := ((w_0_0.below hb).touch ht0 (by omega)).touch ht1 (by omega)
  replace w_0_1 := ((w_0_1.below hb).touch ht0 (by omega)).touch ht1 (by omega)
  replace x_a_0 := ((x_a_0.below hb).touch ht0 (by omega)).touch ht1 (by omega)
  replace x_a_1 := ((x_a_1.below hb).touch ht0 (by omega)).touch ht1 (by omega)
  replace g_0_0 := ((g_0_0.below hb).touch ht0 (by omega)).touch ht1 (by omega)
  replace g_0_1 := ((g_0_1.below hb).touch ht0 (by omega)).touch ht1 (by omega)
  replace B_ba := ((B_ba.below hb).touch ht0 (by omega)).touch ht1 (by omega)
  replace B_bb := ((B_bb.below hb).touch ht0 (by omega)).touch ht1 (by omega)
  replace B_zw_0 := ((B_zw_0.below hb).touch ht0 (by omega)).touch ht1 (by omega)
  replace B_zx_a := ((B_zx_a.below hb).touch ht0 (by omega)).touch ht1 (by omega)
  replace B_zx_b := ((B_zx_b.below hb).touch ht0 (by omega)).touch ht1 (by omega)
  replace B_zg_0 := ((B_zg_0.below hb).touch ht0 (by omega)).touch ht1 (by omega)
  replace hT := ((below_to hT hb hT.size).trans (ht0.below (by omega) (by omega))).trans (ht1.below (by omega) (by omega))
  have x_b_0 := om0
  have x_b_1 := om1
  clear hb ht0 ht1 om0 om1
  clear x_a_0
  clear x_a_1
  clear x_b_0
  clear x_b_1
  clear l_ba k_ba_0 k_ba_1 l_bb k_bb_0 k_bb_1 l_zw_0 k_zw_0_0 k_zw_0_1 l_zx_a k_zx_a_0 k_zx_a_1 l_zx_b k_zx_b_0 k_zx_b_1 l_zg_0 k_zg_0_0 k_zg_0_1
  have l_ba := B_ba.lt
  have k_ba_0 := B_ba.cell 0 _ rfl
  have k_ba_1 := B_ba.cell 1 _ rfl
  have l_bb := B_bb.lt
  have k_bb_0 := B_bb.cell 0 _ rfl
  have k_bb_1 := B_bb.cell 1 _ rfl
  have l_zw_0 := B_zw_0.lt
  have k_zw_0_0 := B_zw_0.cell 0 _ rfl
  have k_zw_0_1 := B_zw_0.cell 1 _ rfl
  have l_zx_a := B_zx_a.lt
  have k_zx_a_0 := B_zx_a.cell 0 _ rfl
  have k_zx_a_1 := B_zx_a.cell 1 _ rfl
  have l_zx_b := B_zx_b.lt
  have k_zx_b_0 := B_zx_b.cell 0 _ rfl
  have k_zx_b_1 := B_zx_b.cell 1 _ rfl
  have l_zg_0 := B_zg_0.lt
  have k_zg_0_0 := B_zg_0.cell 0 _ rfl
  have k_zg_0_1 := B_zg_0.cell 1 _ rfl
  go_wp2_with fail
  refine (eqShare_any _ _ y_g_0_0 y_w_0_0 _ _ y_g_0_1 y_w_0_1 (Nat.le_trans l_g_0_0 (by omega)) (Nat.le_trans l_w_0_0 (by omega)) (Nat.le_trans l_g_0_1 (by omega)) (Nat.le_trans l_w_0_1 (by omega)) _ g_0_0.rd w_0_0.rd (A_g_0_0.out.trans A_w_0_0.out.symm) g_0_1.rd w_0_1.rd (A_g_0_1.out.trans A_w_0_1.out.symm)).mono ?_
  rintro e w17 ⟨rfl, hb⟩
  replace w_0_0 := w_0_0.below hb
  replace w_0_1 := w_0_1.below hb
  replace g_0_0 := g_0_0.below hb
  replace g_0_1 := g_0_1.below hb
  replace B_ba := B_ba.below hb
  replace B_bb := B_bb.below hb
  replace B_zw_0 := B_zw_0.below hb
  replace B_zx_a := B_zx_a.below hb
  replace B_zx_b := B_zx_b.below hb
  replace B_zg_0 := B_zg_0.below hb
  have hs_w17 : w16.heap.size ≤ w17.heap.size := hb.size
  replace hT := below_to hT hb hT.size
  clear hb
  clear l_ba k_ba_0 k_ba_1 l_bb k_bb_0 k_bb_1 l_zw_0 k_zw_0_0 k_zw_0_1 l_zx_a k_zx_a_0 k_zx_a_1 l_zx_b k_zx_b_0 k_zx_b_1 l_zg_0 k_zg_0_0 k_zg_0_1
  have l_ba := B_ba.lt
  have k_ba_0 := B_ba.cell 0 _ rfl
  have k_ba_1 := B_ba.cell 1 _ rfl
  have l_bb := B_bb.lt
  have k_bb_0 := B_bb.cell 0 _ rfl
  have k_bb_1 := B_bb.cell 1 _ rfl
  have l_zw_0 := B_zw_0.lt
  have k_zw_0_0 := B_zw_0.cell 0 _ rfl
  have k_zw_0_1 := B_zw_0.cell 1 _ rfl
  have l_zx_a := B_zx_a.lt
  have k_zx_a_0 := B_zx_a.cell 0 _ rfl
  have k_zx_a_1 := B_zx_a.cell 1 _ rfl
  have l_zx_b := B_zx_b.lt
  have k_zx_b_0 := B_zx_b.cell 0 _ rfl
  have k_zx_b_1 := B_zx_b.cell 1 _ rfl
  have l_zg_0 := B_zg_0.lt
  have k_zg_0_0 := B_zg_0.cell 0 _ rfl
  have k_zg_0_1 := B_zg_0.cell 1 _ rfl
  go_wp2_with fail
  refine (markShare_any _ _ _ _ _ (by omega) (by omega) _ _ _ _ _ g_0_0 g_0_1 (by have := l_g_0_0; omega) (by have := l_g_0_1; omega) (by omega) (by omega) (by omega) (by omega) (by omega)).mono ?_
  rintro e w18 ⟨w18V0, w18V1, rfl, hb, ht0, ht1, om0, om1⟩
  have hs_w18V0 : w17.heap.size ≤ w18V0.heap.size := hb.size
  have hs_w18V1 : w18V0.heap.size ≤ w18V1.heap.size := ht0.size
  have hs_w18 : w18V1.heap.size ≤ w18.heap.size := ht1.size
  replace w_0_0 := ((w_0_0.below hb).touch ht0 (by omega)).touch ht1 (by omega)
  replace w_0_1 := ((w_0_1.below hb).touch ht0 (by omega)).touch ht1 (by omega)
  replace B_ba := ((B_ba.below hb).touch ht0 (by omega)).touch ht1 (by omega)
  replace B_bb := ((B_bb.below hb).touch ht0 (by omega)).touch ht1 (by omega)
  replace B_zw_0 := ((B_zw_0.below hb).touch ht0 (by omega)).touch ht1 (by omega)
  replace B_zx_a := ((B_zx_a.below hb).touch ht0 (by omega)).touch ht1 (by omega)
  replace B_zx_b := ((B_zx_b.below hb).touch ht0 (by omega)).touch ht1 (by omega)
  replace B_zg_0 := ((B_zg_0.below hb).touch ht0 (by omega)).touch ht1 (by omega)
  replace hT := ((below_to hT hb hT.size).trans (ht0.below (by omega) (by omega))).trans (ht1.below (by omega) (by omega))
  have g_0_0 := om0
  have g_0_1 := om1
  clear hb ht0 ht1 om0 om1
  clear l_ba k_ba_0 k_ba_1 l_bb k_bb_0 k_bb_1 l_zw_0 k_zw_0_0 k_zw_0_1 l_zx_a k_zx_a_0 k_zx_a_1 l_zx_b k_zx_b_0 k_zx_b_1 l_zg_0 k_zg_0_0 k_zg_0_1
  have l_ba := B_ba.lt
  have k_ba_0 := B_ba.cell 0 _ rfl
  have k_ba_1 := B_ba.cell 1 _ rfl
  have l_bb := B_bb.lt
  have k_bb_0 := B_bb.cell 0 _ rfl
  have k_bb_1 := B_bb.cell 1 _ rfl
  have l_zw_0 := B_zw_0.lt
  have k_zw_0_0 := B_zw_0.cell 0 _ rfl
  have k_zw_0_1 := B_zw_0.cell 1 _ rfl
  have l_zx_a := B_zx_a.lt
  have k_zx_a_0 := B_zx_a.cell 0 _ rfl
  have k_zx_a_1 := B_zx_a.cell 1 _ rfl
  have l_zx_b := B_zx_b.lt
  have k_zx_b_0 := B_zx_b.cell 0 _ rfl
  have k_zx_b_1 := B_zx_b.cell 1 _ rfl
  have l_zg_0 := B_zg_0.lt
  have k_zg_0_0 := B_zg_0.cell 0 _ rfl
  have k_zg_0_1 := B_zg_0.cell 1 _ rfl
  go_wp2_with fail
  refine (heldShare_any _ y_g_0_0.length _ y_g_0_1.length _ (by omega) (by omega) _ g_0_0.rd g_0_1.rd (by have := l_g_0_0; omega) (by have := l_g_0_1; omega)).mono ?_
  rintro e w19 ⟨rfl, hb⟩
  replace w_0_0 := w_0_0.below hb
  replace w_0_1 := w_0_1.below hb
  replace g_0_0 := g_0_0.below hb
  replace g_0_1 := g_0_1.below hb
  replace B_ba := B_ba.below hb
  replace B_bb := B_bb.below hb
  replace B_zw_0 := B_zw_0.below hb
  replace B_zx_a := B_zx_a.below hb
  replace B_zx_b := B_zx_b.below hb
  replace B_zg_0 := B_zg_0.below hb
  have hs_w19 : w18.heap.size ≤ w19.heap.size := hb.size
  replace hT := below_to hT hb hT.size
  clear hb
  clear l_ba k_ba_0 k_ba_1 l_bb k_bb_0 k_bb_1 l_zw_0 k_zw_0_0 k_zw_0_1 l_zx_a k_zx_a_0 k_zx_a_1 l_zx_b k_zx_b_0 k_zx_b_1 l_zg_0 k_zg_0_0 k_zg_0_1
  have l_ba := B_ba.lt
  have k_ba_0 := B_ba.cell 0 _ rfl
  have k_ba_1 := B_ba.cell 1 _ rfl
  have l_bb := B_bb.lt
  have k_bb_0 := B_bb.cell 0 _ rfl
  have k_bb_1 := B_bb.cell 1 _ rfl
  have l_zw_0 := B_zw_0.lt
  have k_zw_0_0 := B_zw_0.cell 0 _ rfl
  have k_zw_0_1 := B_zw_0.cell 1 _ rfl
  have l_zx_a := B_zx_a.lt
  have k_zx_a_0 := B_zx_a.cell 0 _ rfl
  have k_zx_a_1 := B_zx_a.cell 1 _ rfl
  have l_zx_b := B_zx_b.lt
  have k_zx_b_0 := B_zx_b.cell 0 _ rfl
  have k_zx_b_1 := B_zx_b.cell 1 _ rfl
  have l_zg_0 := B_zg_0.lt
  have k_zg_0_0 := B_zg_0.cell 0 _ rfl
  have k_zg_0_1 := B_zg_0.cell 1 _ rfl
  have hlt_ba := B_ba.lt
  have hlt_bb := B_bb.lt
  have hlt_zw_0 := B_zw_0.lt
  have hlt_zx_a := B_zx_a.lt
  have hlt_zx_b := B_zx_b.lt
  have hlt_zg_0 := B_zg_0.lt
  go_upto_region 31 with fail
  go_cut [17, 18] (fun sp so w20 => Got (mixOk xa0 xa1 xb0 xb1 part) (absL ((gatS (xa0 ++ xb0) (mixC part xa1 xb1)).map Prod.fst)) ((gatS (xa0 ++ xb0) (mixC part xa1 xb1)).map Prod.snd) w19 w20 sp so)
  case first =>
    go_region_held3 (fun w' => w'.cell? ⟨w.heap.size, 0, none⟩ = some (.slice Aa0 xa0.length capa0) ∧ w'.cell? ⟨w.heap.size, 1, none⟩ = some (.slice Aa1 xa1.length capa1) ∧ w'.cell? ⟨w.heap.size + 1, 0, none⟩ = some (.slice Ab0 xb0.length capb0) ∧ w'.cell? ⟨w.heap.size + 1, 1, none⟩ = some (.slice Ab1 xb1.length capb1))
      (first
        | go_keep
        | (refine ⟨?_, ?_, ?_, ?_⟩ <;> (rw [Below.cell (hc4.alloc hc4.size _) (by dsimp only; omega)]; assumption))
        | (refine ⟨?_, ?_, ?_, ?_⟩ <;> (rw [Below.cell (hc4) (by dsimp only; omega)]; assumption))
        | (refine ⟨?_, ?_, ?_, ?_⟩ <;> (rw [Below.cell (hc3.alloc hc3.size _) (by dsimp only; omega)]; assumption))
        | (refine ⟨?_, ?_, ?_, ?_⟩ <;> (rw [Below.cell (hc3) (by dsimp only; omega)]; assumption))
        | (refine ⟨?_, ?_, ?_, ?_⟩ <;> (rw [Below.cell (hc2.alloc hc2.size _) (by dsimp only; omega)]; assumption))
        | (refine ⟨?_, ?_, ?_, ?_⟩ <;> (rw [Below.cell (hc2) (by dsimp only; omega)]; assumption))
        | (refine ⟨?_, ?_, ?_, ?_⟩ <;> (rw [Below.cell (Below.setCell (p := ⟨w19.heap.size, 1, none⟩) (Below.setCell (p := ⟨w19.heap.size, 0, none⟩) (hc4) (Nat.le_refl _) (.slice E0 y0.length c0)) (Nat.le_refl _) (.slice E1 y1.length c1)) (by dsimp only; omega)]; assumption))
        | (refine ⟨?_, ?_, ?_, ?_⟩ <;> (rw [Below.cell (Below.setCell (p := ⟨wp2.heap.size, 1, none⟩) (Below.setCell (p := ⟨wp2.heap.size, 0, none⟩) (hc4) (hc2.size) (.slice E0 y0.length c0)) (hc2.size) (.slice E1 y1.length c1)) (by dsimp only; omega)]; assumption))
        | (refine ⟨?_, ?_, ?_, ?_⟩ <;> (rw [Below.cell (Below.setCell (p := ⟨wp3.heap.size, 1, none⟩) (Below.setCell (p := ⟨wp3.heap.size, 0, none⟩) (hc4) (hc3.size) (.slice E0 y0.length c0)) (hc3.size) (.slice E1 y1.length c1)) (by dsimp only; omega)]; assumption)))
      (first
        | (go_at_call 14; refine (toShare_any _ xa0 _ xa1 hma0 hma1 _ ?_ ?_).mono ?_; (exact HRa0.out.below (by first | exact hT.drew | exact (hT.alloc hT.size _).drew | exact hT.drew.alloc hT.size _)); (exact HRa1.out.below (by first | exact hT.drew | exact (hT.alloc hT.size _).drew | exact hT.drew.alloc hT.size _)); rintro e wp2 ⟨ua0, ua1, ma1, rfl, ia0, ia1, -, -, hq2⟩; have hc2 : Below w19.heap.size w19 wp2 := (by first | exact below_to (Below.refl w19.heap.size w19).drew hq2 (by simp) | exact below_to ((Below.refl w19.heap.size w19).alloc (Nat.le_refl _) _).drew hq2 (by simp)); (try have KB2 : BoxAt wp2 w19.heap.size [.slice none 0 0, .slice none 0 0] := ((BoxAt.new w19 _ _).below (Below.refl _ _).drew).below hq2))
        | (go_at_call 14; refine (toShare_any _ xb0 _ xb1 hmb0 hmb1 _ ?_ ?_).mono ?_; (exact HRb0.out.below (by first | exact hT.trans (hc2.mono hT.size) | exact (hT.trans (hc2.mono hT.size)).alloc (by have := hT.size; have := hc2.size; omega) _)); (exact HRb1.out.below (by first | exact hT.trans (hc2.mono hT.size) | exact (hT.trans (hc2.mono hT.size)).alloc (by have := hT.size; have := hc2.size; omega) _)); rintro e wp3 ⟨ub0, ub1, mb1, rfl, ib0, ib1, -, -, hq3⟩; have hc3 : Below w19.heap.size w19 wp3 := (by first | exact below_to hc2 hq3 hc2.size | exact below_to (hc2.alloc hc2.size _) hq3 (by have := hc2.size; simp; omega)); have hd3 : Below wp2.heap.size wp2 wp3 := (by first | exact hq3 | exact below_to (below_alloc wp2 _) hq3 (by simp)); (try first | (have KB3 := KB2.below hq3) | (have KB3 : BoxAt wp3 wp2.heap.size [.slice none 0 0, .slice none 0 0] := (BoxAt.new wp2 _ _).below hq3)))
        | (go_at_call 34; refine (implMixShares_any _ xa0 _ xa1 hma0 hma1 _ xb0 _ xb1 hmb0 hmb1 part _ ?_ ?_ ?_ ?_).mono ?_; (first | exact (ia0.below hd3).rd | exact (ia0.below hd3).rd.below (below_alloc _ _)); (first | exact (ia1.below hd3).rd | exact (ia1.below hd3).rd.below (below_alloc _ _)); (first | exact ib0.rd | exact ib0.rd.below (below_alloc _ _)); (first | exact ib1.rd | exact ib1.rd.below (below_alloc _ _)); rintro e wp4 ⟨v0, y0, v1, y1, rfl, o0, o1, ap, l0, l1, a0, a1, hq4⟩; obtain ⟨E0, c0, rfl, -, -⟩ := o0.rd; obtain ⟨E1, c1, rfl, -, -⟩ := o1.rd; have HG := Lib.hid (And.intro o0 (And.intro o1 (And.intro ap (And.intro l0 (And.intro l1 (And.intro a0 a1)))))); clear o0 o1 ap l0 l1 a0 a1; have hc4 : Below w19.heap.size w19 wp4 := (by first | exact below_to hc3 hq4 hc3.size | exact below_to (hc3.alloc hc3.size _) hq4 (by have := hc3.size; simp; omega)); (try first | (have KB4 := KB3.below hq4) | (have KB4 : BoxAt wp4 wp3.heap.size [.slice none 0 0, .slice none 0 0] := (BoxAt.new wp3 _ _).below hq4)); (try (have k0 := KB4.cell 0 _ rfl; have k1 := KB4.cell 1 _ rfl; have k2 := KB4.free 0; have k3 := KB4.free 1))))
    all_goals (go_wp2_with fail)
    all_goals go_meet
    all_goals
      first
      | exact got_set (S := wp3.heap.size) KB4 hc4 hc3.size (by first | exact KB3.lt | (simp; done) | (simp; omega)) (by first | exact hc3.size | (have := hc3.size; simp; omega)) hq4 HG.out.1 HG.out.2.1 HG.out.2.2.1 HG.out.2.2.2.1 HG.out.2.2.2.2.1 HG.out.2.2.2.2.2.1 HG.out.2.2.2.2.2.2
      | exact got_set (S := wp2.heap.size) KB4 hc4 hc2.size (by first | exact KB3.lt | (simp; done) | (simp; omega)) (by first | exact hc3.size | (have := hc3.size; simp; omega)) hq4 HG.out.1 HG.out.2.1 HG.out.2.2.1 HG.out.2.2.2.1 HG.out.2.2.2.2.1 HG.out.2.2.2.2.2.1 HG.out.2.2.2.2.2.2
      | exact got_set (S := w19.heap.size) KB4 hc4 (Nat.le_refl _) (by first | exact KB3.lt | (simp; done) | (simp; omega)) (by first | exact hc3.size | (have := hc3.size; simp; omega)) hq4 HG.out.1 HG.out.2.1 HG.out.2.2.1 HG.out.2.2.2.1 HG.out.2.2.2.2.1 HG.out.2.2.2.2.2.1 HG.out.2.2.2.2.2.2
      | exact got_last hc4 (by first | exact hc3.size | (have := hc3.size; simp; omega)) hq4 HG.out.1 HG.out.2.1 HG.out.2.2.1 HG.out.2.2.2.1 HG.out.2.2.2.2.1 HG.out.2.2.2.2.2.1 HG.out.2.2.2.2.2.2
  obtain ⟨w20, hwc⟩ : ∃ W, W = wc := ⟨_, rfl⟩
  subst hwc
  obtain ⟨S_h_0, A_vh_0_0, c_h_0_0, A_vh_0_1, c_h_0_1, y_h_0_0, y_h_0_1, lo_h_0_0, hi_h_0_0, lo_h_0_1, hi_h_0_1, rfl, rfl, B_zh_0, hb, h_0_0, h_0_1, l_h_0_0, l_h_0_1, a_h_0_0, a_h_0_1, q_h_01, q_h_02, q_h_03, q_h_04, q_h_05, q_h_06, q_h_07, q_h_08, q_h_09⟩ := hcut
  have q_h_00 := B_zh_0.lt
  have A_h_0_0 := Lib.hid a_h_0_0
  clear a_h_0_0
  have A_h_0_1 := Lib.hid a_h_0_1
  clear a_h_0_1
  clear hlt_ba
  clear hlt_bb
  clear hlt_zw_0
  clear hlt_zx_a
  clear hlt_zx_b
  clear hlt_zg_0
  replace w_0_0 := w_0_0.below hb
  replace w_0_1 := w_0_1.below hb
  replace g_0_0 := g_0_0.below hb
  replace g_0_1 := g_0_1.below hb
  replace B_ba := B_ba.below hb
  replace B_bb := B_bb.below hb
  replace B_zw_0 := B_zw_0.below hb
  replace B_zx_a := B_zx_a.below hb
  replace B_zx_b := B_zx_b.below hb
  replace B_zg_0 := B_zg_0.below hb
  have hs_w20 : w19.heap.size ≤ w20.heap.size := hb.size
  replace hT := below_to hT hb hT.size
  clear hb
  clear l_ba k_ba_0 k_ba_1 l_bb k_bb_0 k_bb_1 l_zw_0 k_zw_0_0 k_zw_0_1 l_zx_a k_zx_a_0 k_zx_a_1 l_zx_b k_zx_b_0 k_zx_b_1 l_zg_0 k_zg_0_0 k_zg_0_1
  have l_ba := B_ba.lt
  have k_ba_0 := B_ba.cell 0 _ rfl
  have k_ba_1 := B_ba.cell 1 _ rfl
  have l_bb := B_bb.lt
  have k_bb_0 := B_bb.cell 0 _ rfl
  have k_bb_1 := B_bb.cell 1 _ rfl
  have l_zw_0 := B_zw_0.lt
  have k_zw_0_0 := B_zw_0.cell 0 _ rfl
  have k_zw_0_1 := B_zw_0.cell 1 _ rfl
  have l_zx_a := B_zx_a.lt
  have k_zx_a_0 := B_zx_a.cell 0 _ rfl
  have k_zx_a_1 := B_zx_a.cell 1 _ rfl
  have l_zx_b := B_zx_b.lt
  have k_zx_b_0 := B_zx_b.cell 0 _ rfl
  have k_zx_b_1 := B_zx_b.cell 1 _ rfl
  have l_zg_0 := B_zg_0.lt
  have k_zg_0_0 := B_zg_0.cell 0 _ rfl
  have k_zg_0_1 := B_zg_0.cell 1 _ rfl
  have l_zh_0 := B_zh_0.lt
  have k_zh_0_0 := B_zh_0.cell 0 _ rfl
  have k_zh_0_1 := B_zh_0.cell 1 _ rfl
  go_wp2_with fail
  refine (eqShare_any _ _ y_h_0_0 y_w_0_0 _ _ y_h_0_1 y_w_0_1 (Nat.le_trans l_h_0_0 (by omega)) (Nat.le_trans l_w_0_0 (by omega)) (Nat.le_trans l_h_0_1 (by omega)) (Nat.le_trans l_w_0_1 (by omega)) _ h_0_0.rd w_0_0.rd (A_h_0_0.out.trans A_w_0_0.out.symm) h_0_1.rd w_0_1.rd (A_h_0_1.out.trans A_w_0_1.out.symm)).mono ?_
  rintro e w21 ⟨rfl, hb⟩
  replace w_0_0 := w_0_0.below hb
  replace w_0_1 := w_0_1.below hb
  replace g_0_0 := g_0_0.below hb
  replace g_0_1 := g_0_1.below hb
  replace h_0_0 := h_0_0.below hb
  replace h_0_1 := h_0_1.below hb
  replace B_ba := B_ba.below hb
  replace B_bb := B_bb.below hb
  replace B_zw_0 := B_zw_0.below hb
  replace B_zx_a := B_zx_a.below hb
  replace B_zx_b := B_zx_b.below hb
  replace B_zg_0 := B_zg_0.below hb
  replace B_zh_0 := B_zh_0.below hb
  have hs_w21 : w20.heap.size ≤ w21.heap.size := hb.size
  replace hT := below_to hT hb hT.size
  clear hb
  clear l_ba k_ba_0 k_ba_1 l_bb k_bb_0 k_bb_1 l_zw_0 k_zw_0_0 k_zw_0_1 l_zx_a k_zx_a_0 k_zx_a_1 l_zx_b k_zx_b_0 k_zx_b_1 l_zg_0 k_zg_0_0 k_zg_0_1 l_zh_0 k_zh_0_0 k_zh_0_1
  have l_ba := B_ba.lt
  have k_ba_0 := B_ba.cell 0 _ rfl
  have k_ba_1 := B_ba.cell 1 _ rfl
  have l_bb := B_bb.lt
  have k_bb_0 := B_bb.cell 0 _ rfl
  have k_bb_1 := B_bb.cell 1 _ rfl
  have l_zw_0 := B_zw_0.lt
  have k_zw_0_0 := B_zw_0.cell 0 _ rfl
  have k_zw_0_1 := B_zw_0.cell 1 _ rfl
  have l_zx_a := B_zx_a.lt
  have k_zx_a_0 := B_zx_a.cell 0 _ rfl
  have k_zx_a_1 := B_zx_a.cell 1 _ rfl
  have l_zx_b := B_zx_b.lt
  have k_zx_b_0 := B_zx_b.cell 0 _ rfl
  have k_zx_b_1 := B_zx_b.cell 1 _ rfl
  have l_zg_0 := B_zg_0.lt
  have k_zg_0_0 := B_zg_0.cell 0 _ rfl
  have k_zg_0_1 := B_zg_0.cell 1 _ rfl
  have l_zh_0 := B_zh_0.lt
  have k_zh_0_0 := B_zh_0.cell 0 _ rfl
  have k_zh_0_1 := B_zh_0.cell 1 _ rfl
  go_wp2_with fail
  refine (heldShare_any _ y_g_0_0.length _ y_g_0_1.length _ (by omega) (by omega) _ g_0_0.rd g_0_1.rd (by have := l_g_0_0; omega) (by have := l_g_0_1; omega)).mono ?_
  rintro e w22 ⟨rfl, hb⟩
  replace w_0_0 := w_0_0.below hb
  replace w_0_1 := w_0_1.below hb
  replace g_0_0 := g_0_0.below hb
  replace g_0_1 := g_0_1.below hb
  replace h_0_0 := h_0_0.below hb
  replace h_0_1 := h_0_1.below hb
  replace B_ba := B_ba.below hb
  replace B_bb := B_bb.below hb
  replace B_zw_0 := B_zw_0.below hb
  replace B_zx_a := B_zx_a.below hb
  replace B_zx_b := B_zx_b.below hb
  replace B_zg_0 := B_zg_0.below hb
  replace B_zh_0 := B_zh_0.below hb
  have hs_w22 : w21.heap.size ≤ w22.heap.size := hb.size
  replace hT := below_to hT hb hT.size
  clear hb
  clear l_ba k_ba_0 k_ba_1 l_bb k_bb_0 k_bb_1 l_zw_0 k_zw_0_0 k_zw_0_1 l_zx_a k_zx_a_0 k_zx_a_1 l_zx_b k_zx_b_0 k_zx_b_1 l_zg_0 k_zg_0_0 k_zg_0_1 l_zh_0 k_zh_0_0 k_zh_0_1
  have l_ba := B_ba.lt
  have k_ba_0 := B_ba.cell 0 _ rfl
  have k_ba_1 := B_ba.cell 1 _ rfl
  have l_bb := B_bb.lt
  have k_bb_0 := B_bb.cell 0 _ rfl
  have k_bb_1 := B_bb.cell 1 _ rfl
  have l_zw_0 := B_zw_0.lt
  have k_zw_0_0 := B_zw_0.cell 0 _ rfl
  have k_zw_0_1 := B_zw_0.cell 1 _ rfl
  have l_zx_a := B_zx_a.lt
  have k_zx_a_0 := B_zx_a.cell 0 _ rfl
  have k_zx_a_1 := B_zx_a.cell 1 _ rfl
  have l_zx_b := B_zx_b.lt
  have k_zx_b_0 := B_zx_b.cell 0 _ rfl
  have k_zx_b_1 := B_zx_b.cell 1 _ rfl
  have l_zg_0 := B_zg_0.lt
  have k_zg_0_0 := B_zg_0.cell 0 _ rfl
  have k_zg_0_1 := B_zg_0.cell 1 _ rfl
  have l_zh_0 := B_zh_0.lt
  have k_zh_0_0 := B_zh_0.cell 0 _ rfl
  have k_zh_0_1 := B_zh_0.cell 1 _ rfl
  go_wp2
  go_ret
  exact ⟨rfl, hT⟩

/-! The row's step, and the statement. -/
section
open Go.ChangeShapes Go.WideShapes Go.ChangeAt Go.RowKit
set_option maxRecDepth 100000 in
theorem lawMixShares_lifted (os : Os) (started : os.Started) (H : Type) (enc : TypeId × Value → H) :
    ReturnsInHanded {} Try.checked os 8 .any (Rows.fnExactMixSharesSpec.pre6 enc Try.prog Try.f8 Rows.fnExactMixSharesRow.domain false) (Rows.fnExactMixSharesSpec.post enc Try.prog Try.f8 false true false false) := by
  refine returnsInHanded_of_change (C := Try.checked) own_knob started (by kernel_rfl) Try.func8
    (ChangeSpec.witness6 (enc := enc) (C := Try.checked) false ⟨#[], #[.agg #[.slice none 0 0, .slice none 0 0], .agg #[.slice none 0 0, .slice none 0 0], .float .f32 0], []⟩ 8 (by kernel_rfl) (by kernel_rfl) (by kernel_rfl) (by kernel_rfl)) ?_
  intro W base args ds gs before hval0 hW hcnd _
  have hval : ∀ (j : Nat) t v, Try.f8.params[j]? = some t → args[j]? = some v → Value.okWide Try.prog W .any base t v := hval0
  have hW' := hW
  obtain ⟨p, q, hA0, hV, rfl, hfz, hnd⟩ := hW
  have hA : DataW.TrodAll enc Try.prog W 0 (fun _ => true) true Try.f8.params.toList args.toList ds p := hA0
  have hold := fun x hx => hW'.lt x hx
  rw [Try.params8] at hA hval
  have hl : laidOutB Try.prog = true := by kernel_rfl
  obtain ⟨v0, vs0, d0, ds0, p0, q0, hargs, rfl, rfl, h0, r0⟩ := trodAll_cons hA
  obtain ⟨v1, vs1, d1, ds1, p1, q1, rfl, rfl, rfl, h1, r1⟩ := trodAll_cons r0
  obtain ⟨v2, vs2, d2, ds2, p2, q2, rfl, rfl, rfl, h2, r2⟩ := trodAll_cons r1
  obtain ⟨rfl, rfl, rfl⟩ := trodAll_nil r2
  obtain rfl : args = #[v0, v1, v2] := by cases args; simp_all
  obtain ⟨rfl, rfl⟩ := trodVars_none hV
  obtain ⟨sa0, xa0, sa1, xa1, rfl, hr00, hx00, hr01, hx01⟩ := open_share (hval 0 24 v0 rfl rfl) h0
  obtain ⟨sb0, xb0, sb1, xb1, rfl, hr10, hx10, hr11, hx11⟩ := open_share (hval 1 24 v1 rfl rfl) h1
  obtain ⟨part, rfl, -, -, w2⟩ := open_float Try.underlying25 (hval 2 25 v2 rfl rfl) h2
  clear hA0 hval0
  refine (lawMixShares_any _ xa0 _ xa1 _ xb0 _ xb1 part W hr00 hx00 hr01 hx01 hr10 hx10 hr11 hx11).mono fun e W' ⟨he, hg⟩ => ?_
  subst he
  exact ⟨_, rfl, post_below (pa := _) (pv := []) hW' (fun _ _ _ => (trodAll_cons_mk (shut_bool Try.underlying4 _) trodAll_mk0)) (fun sp hsp => (trodAll_cons_mk (WideElems.Trod_stays hl (by kernel_rfl) (of_decide_eq_true (by kernel_rfl)) h0 (fun x hx => hg.same (hold x (by simp [hx]))) (fun x hx => hsp x (by simp [hx]))) (trodAll_cons_mk (WideElems.Trod_stays hl (by kernel_rfl) (of_decide_eq_true (by kernel_rfl)) h1 (fun x hx => hg.same (hold x (by simp [hx]))) (fun x hx => hsp x (by simp [hx]))) (trodAll_cons_mk (WideElems.Trod_stays hl (by kernel_rfl) (of_decide_eq_true (by kernel_rfl)) h2 (fun x hx => hg.same (hold x (by simp [hx]))) (fun x hx => hsp x (by simp [hx]))) trodAll_mk0)))) (fun _ _ => rfl) rfl
    hg (ok_one (by kernel_rfl) rfl (okWide_bool_mk Try.underlying4 _))⟩

theorem fnMixShares_holds : Rows.FnExactMixSharesSaid :=
  OpenClaim.holds_of_wide 8 Try.f8 rfl rfl rfl rfl rfl rfl rfl ⟨rfl, rfl, rfl, rfl, rfl⟩ rfl rfl rfl rfl rfl (by kernel_rfl) Try.func8 (by kernel_rfl)
    (of_decide_eq_true (by kernel_rfl)) (by unfold Func.isWrapper; first | (rw [if_pos (by decide +kernel)]; kernel_rfl) | (rw [if_neg (by decide +kernel)]; exact ⟨rfl, rfl⟩))
    (fun os started H enc _ => lawMixShares_lifted os started H enc)
end
#print axioms fnMixShares_holds
end Go.Proofs.Ytkohhhmllekokaa
