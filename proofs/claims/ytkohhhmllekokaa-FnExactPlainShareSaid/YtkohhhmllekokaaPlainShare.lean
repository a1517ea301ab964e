/-
  For every list: the program's PlainShare returns what the reference's returns. No condition.
-/
import Derived.Test.YtkohhhmllekokaaPlain
import Derived.Test.YtkohhhmllekokaaShareOpen
import Derived.Deep.RegionHeld3
namespace Go.Proofs.Ytkohhhmllekokaa
open Go.RowKit
attribute [local go_sem] run_up_


set_option maxHeartbeats 3200000 in
theorem lawPlainShare_any (va : Value) (xa : List Nat) (w : World) (hra : Rd fV w va xa) :
    Calls Try.prog 5 #[va] w fun e w' => e = .returned (.bool true) ∧ Below w.heap.size w w' := by
  have HRa := Lib.hid hra
  obtain ⟨Aa, capa, rfl, hcapa, hAa⟩ := hra
  clear hAa
  by_cases hna : 1048576 < xa.length
  · go_enter Try.func5, Try.ntmps5
    go_wp2
    go_ret
    exact ⟨rfl, Below.refl _ _⟩
  have hma : xa.length ≤ 1099511627776 := by omega
  go_enter Try.func5, Try.ntmps5
  have hT := Below.refl w.heap.size w
  go_wp2_with fail
  refine (toFloat32S_any _ xa _ (HRa.out.below hT) hma).mono ?_
  rintro e w1 ⟨v_ia, rfl, ia, hb, -⟩
  replace ia := ia.ranged
  have hs_w1 : w.heap.size ≤ w1.heap.size := hb.size
  replace hT := below_to hT hb hT.size
  clear hb
  go_wp2_with fail
  refine (specPlainShare_any _ xa hma _ ia.rd).mono ?_
  rintro e w2 ⟨v_w_0_0, y_w_0_0, v_w_0_1, y_w_0_1, rfl, w_0_0, w_0_1, p_w_001, l_w_0_0, l_w_0_1, a_w_0_0, a_w_0_1, hb⟩
  have A_w_0_0 := Lib.hid a_w_0_0
  clear a_w_0_0
  have A_w_0_1 := Lib.hid a_w_0_1
  clear a_w_0_1
  obtain ⟨lo_w_0_0, hi_w_0_0, lo_w_0_1, hi_w_0_1, r_w_0_0, r_w_0_1, q_w_01, q_w_02, q_w_03, q_w_04, q_w_05, q_w_06, q_w_07⟩ := own_pt2 w_0_0 w_0_1 p_w_001 hb.size
  clear w_0_0 w_0_1 p_w_001
  have w_0_0 := r_w_0_0
  have w_0_1 := r_w_0_1
  clear r_w_0_0 r_w_0_1
  obtain ⟨A_vw_0_0, c_w_0_0, rfl, -, -⟩ := w_0_0.rd
  obtain ⟨A_vw_0_1, c_w_0_1, rfl, -, -⟩ := w_0_1.rd
  replace ia := ia.below hb
  have hs_w2 : w1.heap.size ≤ w2.heap.size := hb.size
  replace hT := below_to hT hb hT.size
  clear hb
  go_wp2_with fail
  have hb : Below w2.heap.size w2 (w2.alloc (.cells ([(.slice A_vw_0_0 y_w_0_0.length c_w_0_0), (.slice A_vw_0_1 y_w_0_1.length c_w_0_1)] : List Value).toArray 27)) := below_alloc _ _
  have B_zw_0 : BoxAt (w2.alloc (.cells ([(.slice A_vw_0_0 y_w_0_0.length c_w_0_0), (.slice A_vw_0_1 y_w_0_1.length c_w_0_1)] : List Value).toArray 27)) w2.heap.size [(.slice A_vw_0_0 y_w_0_0.length c_w_0_0), (.slice A_vw_0_1 y_w_0_1.length c_w_0_1)] := BoxAt.new _ _ _
  have hz_zw_0 : (w2.alloc (.cells ([(.slice A_vw_0_0 y_w_0_0.length c_w_0_0), (.slice A_vw_0_1 y_w_0_1.length c_w_0_1)] : List Value).toArray 27)).heap.size = w2.heap.size + 1 := size_alloc _ _
  generalize hg_zw_0 : World.alloc w2 _ = w3 at *
  clear hg_zw_0
  replace ia := ia.below hb
  replace w_0_0 := w_0_0.below hb
  replace w_0_1 := w_0_1.below hb
  have hs_w3 : w2.heap.size ≤ w3.heap.size := hb.size
  replace hT := below_to hT hb hT.size
  clear hb
  clear ia
  have l_zw_0 := B_zw_0.lt
  have k_zw_0_0 := B_zw_0.cell 0 _ rfl
  have k_zw_0_1 := B_zw_0.cell 1 _ rfl
  go_wp2_with fail
  refine (toFloat32S_any _ xa _ (HRa.out.below hT) hma).mono ?_
  rintro e w4 ⟨v_x_a, rfl, x_a, hb, -⟩
  replace x_a := x_a.ranged
  replace w_0_0 := w_0_0.below hb
  replace w_0_1 := w_0_1.below hb
  replace B_zw_0 := B_zw_0.below hb
  have hs_w4 : w3.heap.size ≤ w4.heap.size := hb.size
  replace hT := below_to hT hb hT.size
  clear hb
  clear l_zw_0 k_zw_0_0 k_zw_0_1
  have l_zw_0 := B_zw_0.lt
  have k_zw_0_0 := B_zw_0.cell 0 _ rfl
  have k_zw_0_1 := B_zw_0.cell 1 _ rfl
  go_wp2_with fail
  refine (implPlainShare_any _ xa hma _ x_a.rd).mono ?_
  rintro e w5 ⟨v_g_0_0, y_g_0_0, v_g_0_1, y_g_0_1, rfl, g_0_0, g_0_1, p_g_001, l_g_0_0, l_g_0_1, a_g_0_0, a_g_0_1, hb⟩
  have A_g_0_0 := Lib.hid a_g_0_0
  clear a_g_0_0
  have A_g_0_1 := Lib.hid a_g_0_1
  clear a_g_0_1
  obtain ⟨lo_g_0_0, hi_g_0_0, lo_g_0_1, hi_g_0_1, r_g_0_0, r_g_0_1, q_g_01, q_g_02, q_g_03, q_g_04, q_g_05, q_g_06, q_g_07⟩ := own_pt2 g_0_0 g_0_1 p_g_001 hb.size
  clear g_0_0 g_0_1 p_g_001
  have g_0_0 := r_g_0_0
  have g_0_1 := r_g_0_1
  clear r_g_0_0 r_g_0_1
  obtain ⟨A_vg_0_0, c_g_0_0, rfl, -, -⟩ := g_0_0.rd
  obtain ⟨A_vg_0_1, c_g_0_1, rfl, -, -⟩ := g_0_1.rd
  replace w_0_0 := w_0_0.below hb
  replace w_0_1 := w_0_1.below hb
  replace x_a := x_a.below hb
  replace B_zw_0 := B_zw_0.below hb
  have hs_w5 : w4.heap.size ≤ w5.heap.size := hb.size
  replace hT := below_to hT hb hT.size
  clear hb
  clear l_zw_0 k_zw_0_0 k_zw_0_1
  have l_zw_0 := B_zw_0.lt
  have k_zw_0_0 := B_zw_0.cell 0 _ rfl
  have k_zw_0_1 := B_zw_0.cell 1 _ rfl
  go_wp2_with fail
  have hb : Below w5.heap.size w5 (w5.alloc (.cells ([(.slice A_vg_0_0 y_g_0_0.length c_g_0_0), (.slice A_vg_0_1 y_g_0_1.length c_g_0_1)] : List Value).toArray 27)) := below_alloc _ _
  have B_zg_0 : BoxAt (w5.alloc (.cells ([(.slice A_vg_0_0 y_g_0_0.length c_g_0_0), (.slice A_vg_0_1 y_g_0_1.length c_g_0_1)] : List Value).toArray 27)) w5.heap.size [(.slice A_vg_0_0 y_g_0_0.length c_g_0_0), (.slice A_vg_0_1 y_g_0_1.length c_g_0_1)] := BoxAt.new _ _ _
  have hz_zg_0 : (w5.alloc (.cells ([(.slice A_vg_0_0 y_g_0_0.length c_g_0_0), (.slice A_vg_0_1 y_g_0_1.length c_g_0_1)] : List Value).toArray 27)).heap.size = w5.heap.size + 1 := size_alloc _ _
  generalize hg_zg_0 : World.alloc w5 _ = w6 at *
  clear hg_zg_0
  replace w_0_0 := w_0_0.below hb
  replace w_0_1 := w_0_1.below hb
  replace x_a := x_a.below hb
  replace g_0_0 := g_0_0.below hb
  replace g_0_1 := g_0_1.below hb
  replace B_zw_0 := B_zw_0.below hb
  have hs_w6 : w5.heap.size ≤ w6.heap.size := hb.size
  replace hT := below_to hT hb hT.size
  clear hb
  clear l_zw_0 k_zw_0_0 k_zw_0_1
  have l_zw_0 := B_zw_0.lt
  have k_zw_0_0 := B_zw_0.cell 0 _ rfl
  have k_zw_0_1 := B_zw_0.cell 1 _ rfl
  have l_zg_0 := B_zg_0.lt
  have k_zg_0_0 := B_zg_0.cell 0 _ rfl
  have k_zg_0_1 := B_zg_0.cell 1 _ rfl
  go_wp2_with fail
  refine (eqShare_any _ _ y_g_0_0 y_w_0_0 _ _ y_g_0_1 y_w_0_1 (Nat.le_trans l_g_0_0 (by omega)) (Nat.le_trans l_w_0_0 (by omega)) (Nat.le_trans l_g_0_1 (by omega)) (Nat.le_trans l_w_0_1 (by omega)) _ g_0_0.rd w_0_0.rd (A_g_0_0.out.trans A_w_0_0.out.symm) g_0_1.rd w_0_1.rd (A_g_0_1.out.trans A_w_0_1.out.symm)).mono ?_
  rintro e w7 ⟨rfl, hb⟩
  replace w_0_0 := w_0_0.below hb
  replace w_0_1 := w_0_1.below hb
  replace x_a := x_a.below hb
  replace g_0_0 := g_0_0.below hb
  replace g_0_1 := g_0_1.below hb
  replace B_zw_0 := B_zw_0.below hb
  replace B_zg_0 := B_zg_0.below hb
  have hs_w7 : w6.heap.size ≤ w7.heap.size := hb.size
  replace hT := below_to hT hb hT.size
  clear hb
  clear l_zw_0 k_zw_0_0 k_zw_0_1 l_zg_0 k_zg_0_0 k_zg_0_1
  have l_zw_0 := B_zw_0.lt
  have k_zw_0_0 := B_zw_0.cell 0 _ rfl
  have k_zw_0_1 := B_zw_0.cell 1 _ rfl
  have l_zg_0 := B_zg_0.lt
  have k_zg_0_0 := B_zg_0.cell 0 _ rfl
  have k_zg_0_1 := B_zg_0.cell 1 _ rfl
  go_wp2_with fail
  refine (toFloat32S_any _ xa _ (HRa.out.below hT) hma).mono ?_
  rintro e w8 ⟨v_t_a, rfl, t_a, hb, -⟩
  replace t_a := t_a.ranged
  replace w_0_0 := w_0_0.below hb
  replace w_0_1 := w_0_1.below hb
  replace x_a := x_a.below hb
  replace g_0_0 := g_0_0.below hb
  replace g_0_1 := g_0_1.below hb
  replace B_zw_0 := B_zw_0.below hb
  replace B_zg_0 := B_zg_0.below hb
  have hs_w8 : w7.heap.size ≤ w8.heap.size := hb.size
  replace hT := below_to hT hb hT.size
  clear hb
  clear l_zw_0 k_zw_0_0 k_zw_0_1 l_zg_0 k_zg_0_0 k_zg_0_1
  have l_zw_0 := B_zw_0.lt
  have k_zw_0_0 := B_zw_0.cell 0 _ rfl
  have k_zw_0_1 := B_zw_0.cell 1 _ rfl
  have l_zg_0 := B_zg_0.lt
  have k_zg_0_0 := B_zg_0.cell 0 _ rfl
  have k_zg_0_1 := B_zg_0.cell 1 _ rfl
  go_wp2_with fail
  refine (eqFloat32S_any _ _ _ _ _ x_a.rd t_a.rd (hma) (hma) (rfl)).mono ?_
  rintro e w9 ⟨rfl, hd⟩
  have hb := below_of_drew hd
  clear hd
  replace w_0_0 := w_0_0.below hb
  replace w_0_1 := w_0_1.below hb
  replace x_a := x_a.below hb
  replace g_0_0 := g_0_0.below hb
  replace g_0_1 := g_0_1.below hb
  replace t_a := t_a.below hb
  replace B_zw_0 := B_zw_0.below hb
  replace B_zg_0 := B_zg_0.below hb
  have hs_w9 : w8.heap.size ≤ w9.heap.size := hb.size
  replace hT := below_to hT hb hT.size
  clear hb
  clear t_a
  clear l_zw_0 k_zw_0_0 k_zw_0_1 l_zg_0 k_zg_0_0 k_zg_0_1
  have l_zw_0 := B_zw_0.lt
  have k_zw_0_0 := B_zw_0.cell 0 _ rfl
  have k_zw_0_1 := B_zw_0.cell 1 _ rfl
  have l_zg_0 := B_zg_0.lt
  have k_zg_0_0 := B_zg_0.cell 0 _ rfl
  have k_zg_0_1 := B_zg_0.cell 1 _ rfl
  go_wp2_with fail
  refine (markFloat32S_any _ _ _ (by omega) (by omega) _ _ x_a.own (hma) (by omega)).mono ?_
  rintro e w10 ⟨rfl, om, hg⟩
  have ht := Touch.of_grown hg x_a.lt
  have hs_w10 : w9.heap.size ≤ w10.heap.size := ht.size
  have hb := Below.refl w9.heap.size w9
  replace w_0_0 := (w_0_0.below hb).touch ht (by omega)
  replace w_0_1 := (w_0_1.below hb).touch ht (by omega)
  replace g_0_0 := (g_0_0.below hb).touch ht (by omega)
  replace g_0_1 := (g_0_1.below hb).touch ht (by omega)
  replace B_zw_0 := (B_zw_0.below hb).touch ht (by omega)
  replace B_zg_0 := (B_zg_0.below hb).touch ht (by omega)
  replace hT := (below_to hT hb hT.size).trans (ht.below (by omega) (by omega))
  replace x_a := x_a.again om
  clear om hg ht hb
  clear x_a
  clear l_zw_0 k_zw_0_0 k_zw_0_1 l_zg_0 k_zg_0_0 k_zg_0_1
  have l_zw_0 := B_zw_0.lt
  have k_zw_0_0 := B_zw_0.cell 0 _ rfl
  have k_zw_0_1 := B_zw_0.cell 1 _ rfl
  have l_zg_0 := B_zg_0.lt
  have k_zg_0_0 := B_zg_0.cell 0 _ rfl
  have k_zg_0_1 := B_zg_0.cell 1 _ rfl
  go_wp2_with fail
  refine (eqShare_any _ _ y_g_0_0 y_w_0_0 _ _ y_g_0_1 y_w_0_1 (Nat.le_trans l_g_0_0 (by omega)) (Nat.le_trans l_w_0_0 (by omega)) (Nat.le_trans l_g_0_1 (by omega)) (Nat.le_trans l_w_0_1 (by omega)) _ g_0_0.rd w_0_0.rd (A_g_0_0.out.trans A_w_0_0.out.symm) g_0_1.rd w_0_1.rd (A_g_0_1.out.trans A_w_0_1.out.symm)).mono ?_
  rintro e w11 ⟨rfl, hb⟩
  replace w_0_0 := w_0_0.below hb
  replace w_0_1 := w_0_1.below hb
  replace g_0_0 := g_0_0.below hb
  replace g_0_1 := g_0_1.below hb
  replace B_zw_0 := B_zw_0.below hb
  replace B_zg_0 := B_zg_0.below hb
  have hs_w11 : w10.heap.size ≤ w11.heap.size := hb.size
  replace hT := below_to hT hb hT.size
  clear hb
  clear l_zw_0 k_zw_0_0 k_zw_0_1 l_zg_0 k_zg_0_0 k_zg_0_1
  have l_zw_0 := B_zw_0.lt
  have k_zw_0_0 := B_zw_0.cell 0 _ rfl
  have k_zw_0_1 := B_zw_0.cell 1 _ rfl
  have l_zg_0 := B_zg_0.lt
  have k_zg_0_0 := B_zg_0.cell 0 _ rfl
  have k_zg_0_1 := B_zg_0.cell 1 _ rfl
  go_wp2_with fail
  refine (markShare_any _ _ _ _ _ (by omega) (by omega) _ _ _ _ _ g_0_0 g_0_1 (by have := l_g_0_0; omega) (by have := l_g_0_1; omega) (by omega) (by omega) (by omega) (by omega) (by omega)).mono ?_
  rintro e w12 ⟨w12V0, w12V1, rfl, hb, ht0, ht1, om0, om1⟩
  have hs_w12V0 : w11.heap.size ≤ w12V0.heap.size := hb.size
  have hs_w12V1 : w12V0.heap.size ≤ w12V1.heap.size := ht0.size
  have hs_w12 : w12V1.heap.size ≤ w12.heap.size := ht1.size
  replace w_0_0 := ((w_0_0.below hb).touch ht0 (by omega)).touch ht1 (by omega)
  replace w_0_1 := ((w_0_1.below hb).touch ht0 (by omega)).touch ht1 (by omega)
  replace B_zw_0 := ((B_zw_0.below hb).touch ht0 (by omega)).touch ht1 (by omega)
  replace B_zg_0 := ((B_zg_0.below hb).touch ht0 (by omega)).touch ht1 (by omega)
  replace hT := ((below_to hT hb hT.size).trans (ht0.below (by omega) (by omega))).trans (ht1.below (by omega) (by omega))
  have g_0_0 := om0
  have g_0_1 := om1
  clear hb ht0 ht1 om0 om1
  clear l_zw_0 k_zw_0_0 k_zw_0_1 l_zg_0 k_zg_0_0 k_zg_0_1
  have l_zw_0 := B_zw_0.lt
  have k_zw_0_0 := B_zw_0.cell 0 _ rfl
  have k_zw_0_1 := B_zw_0.cell 1 _ rfl
  have l_zg_0 := B_zg_0.lt
  have k_zg_0_0 := B_zg_0.cell 0 _ rfl
  have k_zg_0_1 := B_zg_0.cell 1 _ rfl
  go_wp2_with fail
  refine (heldShare_any _ y_g_0_0.length _ y_g_0_1.length _ (by omega) (by omega) _ g_0_0.rd g_0_1.rd (by have := l_g_0_0; omega) (by have := l_g_0_1; omega)).mono ?_
  rintro e w13 ⟨rfl, hb⟩
  replace w_0_0 := w_0_0.below hb
  replace w_0_1 := w_0_1.below hb
  replace g_0_0 := g_0_0.below hb
  replace g_0_1 := g_0_1.below hb
  replace B_zw_0 := B_zw_0.below hb
  replace B_zg_0 := B_zg_0.below hb
  have hs_w13 : w12.heap.size ≤ w13.heap.size := hb.size
  replace hT := below_to hT hb hT.size
  clear hb
  clear l_zw_0 k_zw_0_0 k_zw_0_1 l_zg_0 k_zg_0_0 k_zg_0_1
  have l_zw_0 := B_zw_0.lt
  have k_zw_0_0 := B_zw_0.cell 0 _ rfl
  have k_zw_0_1 := B_zw_0.cell 1 _ rfl
  have l_zg_0 := B_zg_0.lt
  have k_zg_0_0 := B_zg_0.cell 0 _ rfl
  have k_zg_0_1 := B_zg_0.cell 1 _ rfl
  go_wp2_with fail
  refine (toFloat32S_any _ xa _ (HRa.out.below hT) hma).mono ?_
  rintro e w14 ⟨v_ja, rfl, ja, hb, -⟩
  replace ja := ja.ranged
  replace w_0_0 := w_0_0.below hb
  replace w_0_1 := w_0_1.below hb
  replace g_0_0 := g_0_0.below hb
  replace g_0_1 := g_0_1.below hb
  replace B_zw_0 := B_zw_0.below hb
  replace B_zg_0 := B_zg_0.below hb
  have hs_w14 : w13.heap.size ≤ w14.heap.size := hb.size
  replace hT := below_to hT hb hT.size
  clear hb
  clear l_zw_0 k_zw_0_0 k_zw_0_1 l_zg_0 k_zg_0_0 k_zg_0_1
  have l_zw_0 := B_zw_0.lt
  have k_zw_0_0 := B_zw_0.cell 0 _ rfl
  have k_zw_0_1 := B_zw_0.cell 1 _ rfl
  have l_zg_0 := B_zg_0.lt
  have k_zg_0_0 := B_zg_0.cell 0 _ rfl
  have k_zg_0_1 := B_zg_0.cell 1 _ rfl
  go_wp2_with fail
  refine (implPlainShare_any _ xa hma _ ja.rd).mono ?_
  rintro e w15 ⟨v_h_0_0, y_h_0_0, v_h_0_1, y_h_0_1, rfl, h_0_0, h_0_1, p_h_001, l_h_0_0, l_h_0_1, a_h_0_0, a_h_0_1, hb⟩
  have A_h_0_0 := Lib.hid a_h_0_0
  clear a_h_0_0
  have A_h_0_1 := Lib.hid a_h_0_1
  clear a_h_0_1
  obtain ⟨lo_h_0_0, hi_h_0_0, lo_h_0_1, hi_h_0_1, r_h_0_0, r_h_0_1, q_h_01, q_h_02, q_h_03, q_h_04, q_h_05, q_h_06, q_h_07⟩ := own_pt2 h_0_0 h_0_1 p_h_001 hb.size
  clear h_0_0 h_0_1 p_h_001
  have h_0_0 := r_h_0_0
  have h_0_1 := r_h_0_1
  clear r_h_0_0 r_h_0_1
  obtain ⟨A_vh_0_0, c_h_0_0, rfl, -, -⟩ := h_0_0.rd
  obtain ⟨A_vh_0_1, c_h_0_1, rfl, -, -⟩ := h_0_1.rd
  replace w_0_0 := w_0_0.below hb
  replace w_0_1 := w_0_1.below hb
  replace g_0_0 := g_0_0.below hb
  replace g_0_1 := g_0_1.below hb
  replace ja := ja.below hb
  replace B_zw_0 := B_zw_0.below hb
  replace B_zg_0 := B_zg_0.below hb
  have hs_w15 : w14.heap.size ≤ w15.heap.size := hb.size
  replace hT := below_to hT hb hT.size
  clear hb
  clear l_zw_0 k_zw_0_0 k_zw_0_1 l_zg_0 k_zg_0_0 k_zg_0_1
  have l_zw_0 := B_zw_0.lt
  have k_zw_0_0 := B_zw_0.cell 0 _ rfl
  have k_zw_0_1 := B_zw_0.cell 1 _ rfl
  have l_zg_0 := B_zg_0.lt
  have k_zg_0_0 := B_zg_0.cell 0 _ rfl
  have k_zg_0_1 := B_zg_0.cell 1 _ rfl
  go_wp2_with fail
  have hb : Below w15.heap.size w15 (w15.alloc (.cells ([(.slice A_vh_0_0 y_h_0_0.length c_h_0_0), (.slice A_vh_0_1 y_h_0_1.length c_h_0_1)] : List Value).toArray 27)) := below_alloc _ _
  have B_zh_0 : BoxAt (w15.alloc (.cells ([(.slice A_vh_0_0 y_h_0_0.length c_h_0_0), (.slice A_vh_0_1 y_h_0_1.length c_h_0_1)] : List Value).toArray 27)) w15.heap.size [(.slice A_vh_0_0 y_h_0_0.length c_h_0_0), (.slice A_vh_0_1 y_h_0_1.length c_h_0_1)] := BoxAt.new _ _ _
  have hz_zh_0 : (w15.alloc (.cells ([(.slice A_vh_0_0 y_h_0_0.length c_h_0_0), (.slice A_vh_0_1 y_h_0_1.length c_h_0_1)] : List Value).toArray 27)).heap.size = w15.heap.size + 1 := size_alloc _ _
  generalize hg_zh_0 : World.alloc w15 _ = w16 at *
  clear hg_zh_0
  replace w_0_0 := w_0_0.below hb
  replace w_0_1 := w_0_1.below hb
  replace g_0_0 := g_0_0.below hb
  replace g_0_1 := g_0_1.below hb
  replace ja := ja.below hb
  replace h_0_0 := h_0_0.below hb
  replace h_0_1 := h_0_1.below hb
  replace B_zw_0 := B_zw_0.below hb
  replace B_zg_0 := B_zg_0.below hb
  have hs_w16 : w15.heap.size ≤ w16.heap.size := hb.size
  replace hT := below_to hT hb hT.size
  clear hb
  clear ja
  clear l_zw_0 k_zw_0_0 k_zw_0_1 l_zg_0 k_zg_0_0 k_zg_0_1
  have l_zw_0 := B_zw_0.lt
  have k_zw_0_0 := B_zw_0.cell 0 _ rfl
  have k_zw_0_1 := B_zw_0.cell 1 _ rfl
  have l_zg_0 := B_zg_0.lt
  have k_zg_0_0 := B_zg_0.cell 0 _ rfl
  have k_zg_0_1 := B_zg_0.cell 1 _ rfl
  have l_zh_0 := B_zh_0.lt
  have k_zh_0_0 := B_zh_0.cell 0 _ rfl
  have k_zh_0_1 := B_zh_0.cell 1 _ rfl
  go_wp2_with fail
  refine (eqShare_any _ _ y_h_0_0 y_w_0_0 _ _ y_h_0_1 y_w_0_1 (Nat.le_trans l_h_0_0 (by omega)) (Nat.le_trans l_w_0_0 (by omega)) (Nat.le_trans l_h_0_1 (by omega)) (Nat.le_trans l_w_0_1 (by omega)) _ h_0_0.rd w_0_0.rd (A_h_0_0.out.trans A_w_0_0.out.symm) h_0_1.rd w_0_1.rd (A_h_0_1.out.trans A_w_0_1.out.symm)).mono ?_
  rintro e w17 ⟨rfl, hb⟩
  replace w_0_0 := w_0_0.below hb
  replace w_0_1 := w_0_1.below hb
  replace g_0_0 := g_0_0.below hb
  replace g_0_1 := g_0_1.below hb
  replace h_0_0 := h_0_0.below hb
  replace h_0_1 := h_0_1.below hb
  replace B_zw_0 := B_zw_0.below hb
  replace B_zg_0 := B_zg_0.below hb
  replace B_zh_0 := B_zh_0.below hb
  have hs_w17 : w16.heap.size ≤ w17.heap.size := hb.size
  replace hT := below_to hT hb hT.size
  clear hb
  clear l_zw_0 k_zw_0_0 k_zw_0_1 l_zg_0 k_zg_0_0 k_zg_0_1 l_zh_0 k_zh_0_0 k_zh_0_1
  have l_zw_0 := B_zw_0.lt
  have k_zw_0_0 := B_zw_0.cell 0 _ rfl
  have k_zw_0_1 := B_zw_0.cell 1 _ rfl
  have l_zg_0 := B_zg_0.lt
  have k_zg_0_0 := B_zg_0.cell 0 _ rfl
  have k_zg_0_1 := B_zg_0.cell 1 _ rfl
  have l_zh_0 := B_zh_0.lt
  have k_zh_0_0 := B_zh_0.cell 0 _ rfl
  have k_zh_0_1 := B_zh_0.cell 1 _ rfl
  go_wp2_with fail
  refine (heldShare_any _ y_g_0_0.length _ y_g_0_1.length _ (by omega) (by omega) _ g_0_0.rd g_0_1.rd (by have := l_g_0_0; omega) (by have := l_g_0_1; omega)).mono ?_
  rintro e w18 ⟨rfl, hb⟩
  replace w_0_0 := w_0_0.below hb
  replace w_0_1 := w_0_1.below hb
  replace g_0_0 := g_0_0.below hb
  replace g_0_1 := g_0_1.below hb
  replace h_0_0 := h_0_0.below hb
  replace h_0_1 := h_0_1.below hb
  replace B_zw_0 := B_zw_0.below hb
  replace B_zg_0 := B_zg_0.below hb
  replace B_zh_0 := B_zh_0.below hb
  have hs_w18 : w17.heap.size ≤ w18.heap.size := hb.size
  replace hT := below_to hT hb hT.size
  clear hb
  clear l_zw_0 k_zw_0_0 k_zw_0_1 l_zg_0 k_zg_0_0 k_zg_0_1 l_zh_0 k_zh_0_0 k_zh_0_1
  have l_zw_0 := B_zw_0.lt
  have k_zw_0_0 := B_zw_0.cell 0 _ rfl
  have k_zw_0_1 := B_zw_0.cell 1 _ rfl
  have l_zg_0 := B_zg_0.lt
  have k_zg_0_0 := B_zg_0.cell 0 _ rfl
  have k_zg_0_1 := B_zg_0.cell 1 _ rfl
  have l_zh_0 := B_zh_0.lt
  have k_zh_0_0 := B_zh_0.cell 0 _ rfl
  have k_zh_0_1 := B_zh_0.cell 1 _ rfl
  go_wp2
  go_ret
  exact ⟨rfl, hT⟩

/-! The row's step, and the statement. -/
section
open Go.ChangeShapes Go.WideShapes Go.ChangeAt Go.RowKit
set_option maxRecDepth 100000 in
theorem lawPlainShare_lifted (os : Os) (started : os.Started) (H : Type) (enc : TypeId × Value → H) :
    ReturnsInHanded {} Try.checked os 5 .any (Rows.fnExactPlainShareSpec.pre6 enc Try.prog Try.f5 Rows.fnExactPlainShareRow.domain false) (Rows.fnExactPlainShareSpec.post enc Try.prog Try.f5 false true false false) := by
  refine returnsInHanded_of_change (C := Try.checked) own_knob started (by kernel_rfl) Try.func5
    (ChangeSpec.witness6 (enc := enc) (C := Try.checked) false ⟨#[], #[.slice none 0 0], []⟩ 8 (by kernel_rfl) (by kernel_rfl) (by kernel_rfl) (by kernel_rfl)) ?_
  intro W base args ds gs before hval0 hW hcnd _
  have hval : ∀ (j : Nat) t v, Try.f5.params[j]? = some t → args[j]? = some v → Value.okWide Try.prog W .any base t v := hval0
  have hW' := hW
  obtain ⟨p, q, hA0, hV, rfl, hfz, hnd⟩ := hW
  have hA : DataW.TrodAll enc Try.prog W 0 (fun _ => true) true Try.f5.params.toList args.toList ds p := hA0
  have hold := fun x hx => hW'.lt x hx
  rw [Try.params5] at hA hval
  have hl : laidOutB Try.prog = true := by kernel_rfl
  obtain ⟨v0, vs0, d0, ds0, p0, q0, hargs, rfl, rfl, h0, r0⟩ := trodAll_cons hA
  obtain ⟨rfl, rfl, rfl⟩ := trodAll_nil r0
  obtain rfl : args = #[v0] := by cases args; simp_all
  obtain ⟨rfl, rfl⟩ := trodVars_none hV
  obtain ⟨A0, n0, c0, rfl⟩ := okWide_slice Try.underlying22 (hval 0 22 v0 rfl rfl)
  obtain ⟨xa, hr0⟩ := rd_of_trod fV Try.underlying22 (by kernel_rfl) (elem_float Try.underlying25) h0
  clear hA0 hval0
  refine (lawPlainShare_any _ xa W hr0).mono fun e W' ⟨he, hg⟩ => ?_
  subst he
  exact ⟨_, rfl, post_below (pa := _) (pv := []) hW' (fun _ _ _ => (trodAll_cons_mk (shut_bool Try.underlying4 _) trodAll_mk0)) (fun sp hsp => (trodAll_cons_mk (WideElems.Trod_stays hl (by kernel_rfl) (of_decide_eq_true (by kernel_rfl)) h0 (fun x hx => hg.same (hold x (by simp [hx]))) (fun x hx => hsp x (by simp [hx]))) trodAll_mk0)) (fun _ _ => rfl) rfl
    hg (ok_one (by kernel_rfl) rfl (okWide_bool_mk Try.underlying4 _))⟩

theorem fnPlainShare_holds : Rows.FnExactPlainShareSaid :=
  OpenClaim.holds_of_wide 5 Try.f5 rfl rfl rfl rfl rfl rfl rfl ⟨rfl, rfl, rfl, rfl, rfl⟩ rfl rfl rfl rfl rfl (by kernel_rfl) Try.func5 (by kernel_rfl)
    (of_decide_eq_true (by kernel_rfl)) (by unfold Func.isWrapper; first | (rw [if_pos (by decide +kernel)]; kernel_rfl) | (rw [if_neg (by decide +kernel)]; exact ⟨rfl, rfl⟩))
    (fun os started H enc _ => lawPlainShare_lifted os started H enc)
end
#print axioms fnPlainShare_holds
end Go.Proofs.Ytkohhhmllekokaa
