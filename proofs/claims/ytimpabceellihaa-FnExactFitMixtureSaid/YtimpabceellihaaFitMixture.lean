/-
  For every mixture, list and number of rounds: the program's FitMixture returns what the reference's returns. No condition.
-/
import Derived.Test.YtimpabceellihaaFitS
import Derived.Test.YtimpabceellihaaPt3
import Derived.Test.YtimpabceellihaaMixtureOpen
import Derived.Deep.RegionHeld3
namespace Go.Proofs.Ytimpabceellihaa
open Go.RowKit
attribute [local go_sem] run_up_


set_option maxHeartbeats 3200000 in
theorem lawFitMixture_any (sa0 : Value) (xa0 : List Nat) (sa1 : Value) (xa1 : List Nat) (sa2 : Value) (xa2 : List Nat) (vx : Value) (xx : List Nat) (n : Int) (w : World) (hra0 : Rd fV w sa0 xa0) (hxa0 : xa0.length ≤ 9223372036854775807) (hra1 : Rd fV w sa1 xa1) (hxa1 : xa1.length ≤ 9223372036854775807) (hra2 : Rd fV w sa2 xa2) (hxa2 : xa2.length ≤ 9223372036854775807) (hrx : Rd fV w vx xx) :
    Calls Try.prog 3 #[mxV sa0 sa1 sa2, vx, .int .i64 n] w fun e w' => e = .returned (.bool true) ∧ Below w.heap.size w w' := by
  have HRa0 := Lib.hid hra0
  obtain ⟨Aa0, capa0, rfl, hcapa0, hAa0⟩ := hra0
  clear hAa0
  have HRa1 := Lib.hid hra1
  obtain ⟨Aa1, capa1, rfl, hcapa1, hAa1⟩ := hra1
  clear hAa1
  have HRa2 := Lib.hid hra2
  obtain ⟨Aa2, capa2, rfl, hcapa2, hAa2⟩ := hra2
  clear hAa2
  have HRx := Lib.hid hrx
  obtain ⟨Ax, capx, rfl, hcapx, hAx⟩ := hrx
  clear hAx
  by_cases hnx : 1048576 < xx.length
  · go_enter Try.func3, Try.ntmps3
    go_wp2
    go_ret
    exact ⟨rfl, by first | exact below_alloc _ _ | exact (below_alloc w _).alloc (by simp) _⟩
  have hmx : xx.length ≤ 1099511627776 := by omega
  go_enter Try.func3, Try.ntmps3
  go_wp2_with fail
  have B_ba : BoxAt (w.alloc (.cells ([.slice Aa0 xa0.length capa0, .slice Aa1 xa1.length capa1, .slice Aa2 xa2.length capa2] : List Value).toArray 24)) (w.heap.size) [.slice Aa0 xa0.length capa0, .slice Aa1 xa1.length capa1, .slice Aa2 xa2.length capa2] := by
    have := (BoxAt.new w [.slice Aa0 xa0.length capa0, .slice Aa1 xa1.length capa1, .slice Aa2 xa2.length capa2] 24)
    exact this
  have hT : Below w.heap.size w (w.alloc (.cells ([.slice Aa0 xa0.length capa0, .slice Aa1 xa1.length capa1, .slice Aa2 xa2.length capa2] : List Value).toArray 24)) := (Below.refl w.heap.size w).alloc (by exact Nat.le_refl _) _
  have hs_W0 : w.heap.size ≤ (w.alloc (.cells ([.slice Aa0 xa0.length capa0, .slice Aa1 xa1.length capa1, .slice Aa2 xa2.length capa2] : List Value).toArray 24)).heap.size := hT.size
  generalize hg : (w.alloc (.cells ([.slice Aa0 xa0.length capa0, .slice Aa1 xa1.length capa1, .slice Aa2 xa2.length capa2] : List Value).toArray 24)) = W0 at *
  clear hg
  refine (szMixture_any _ xa0 _ xa1 _ xa2 (1048576) (by omega) (by omega) _ (HRa0.out.below hT) (HRa1.out.below hT) (HRa2.out.below hT) hxa0 hxa1 hxa2).mono ?_
  rintro e w1 ⟨rfl, hb⟩
  replace B_ba := B_ba.below hb
  have hs_w1 : W0.heap.size ≤ w1.heap.size := hb.size
  replace hT := below_to hT hb hT.size
  clear hb
  by_cases hna : 1048576 < (xa0.length : Int) + (xa1.length : Int) + (xa2.length : Int)
  · rw [if_pos hna]
    have l_ba := B_ba.lt
    have k_ba_0 := B_ba.cell 0 _ rfl
    have k_ba_1 := B_ba.cell 1 _ rfl
    have k_ba_2 := B_ba.cell 2 _ rfl
    go_wp2
    go_ret
    exact ⟨rfl, hT⟩
  rw [if_neg hna]
  have hma0 : xa0.length ≤ 1099511627776 := by omega
  have hma1 : xa1.length ≤ 1099511627776 := by omega
  have hma2 : xa2.length ≤ 1099511627776 := by omega
  have hd := Int.not_lt.1 hna
  clear hna
  have l_ba := B_ba.lt
  have k_ba_0 := B_ba.cell 0 _ rfl
  have k_ba_1 := B_ba.cell 1 _ rfl
  have k_ba_2 := B_ba.cell 2 _ rfl
  go_wp2_with fail
  refine (toMixture_any _ xa0 _ xa1 _ xa2 hma0 hma1 hma2 _ (HRa0.out.below hT) (HRa1.out.below hT) (HRa2.out.below hT)).mono ?_
  rintro e w2 ⟨v_ia_0, v_ia_1, v_ia_2, m_ia1, m_ia2, rfl, ia_0, ia_1, ia_2, q_ia0, q_ia1, q_ia2, hb⟩
  obtain ⟨A_ia_0, c_ia_0, rfl, -, -⟩ := ia_0.rd
  obtain ⟨A_ia_1, c_ia_1, rfl, -, -⟩ := ia_1.rd
  obtain ⟨A_ia_2, c_ia_2, rfl, -, -⟩ := ia_2.rd
  replace B_ba := B_ba.below hb
  have hs_w2 : w1.heap.size ≤ w2.heap.size := hb.size
  replace hT := below_to hT hb hT.size
  clear hb
  clear l_ba k_ba_0 k_ba_1 k_ba_2
  have l_ba := B_ba.lt
  have k_ba_0 := B_ba.cell 0 _ rfl
  have k_ba_1 := B_ba.cell 1 _ rfl
  have k_ba_2 := B_ba.cell 2 _ rfl
  go_wp2_with fail
  refine (toFloat32S_any _ xx _ (HRx.out.below hT) hmx).mono ?_
  rintro e w3 ⟨v_ix, rfl, ix, hb, -⟩
  replace ix := ix.ranged
  replace ia_0 := ia_0.below hb
  replace ia_1 := ia_1.below hb
  replace ia_2 := ia_2.below hb
  replace B_ba := B_ba.below hb
  have hs_w3 : w2.heap.size ≤ w3.heap.size := hb.size
  replace hT := below_to hT hb hT.size
  clear hb
  clear l_ba k_ba_0 k_ba_1 k_ba_2
  have l_ba := B_ba.lt
  have k_ba_0 := B_ba.cell 0 _ rfl
  have k_ba_1 := B_ba.cell 1 _ rfl
  have k_ba_2 := B_ba.cell 2 _ rfl
  go_wp2_with fail
  refine (specFitMixture_any _ xa0 _ xa1 _ xa2 hma0 hma1 hma2 _ xx hmx n _ ia_0.rd ia_1.rd ia_2.rd ix.rd).mono ?_
  rintro e w4 ⟨v_w_0_0, y_w_0_0, v_w_0_1, y_w_0_1, v_w_0_2, y_w_0_2, rfl, w_0_0, w_0_1, w_0_2, p_w_001, p_w_002, p_w_012, l_w_0_0, l_w_0_1, l_w_0_2, a_w_0_0, a_w_0_1, a_w_0_2, hb⟩
  have A_w_0_0 := Lib.hid a_w_0_0
  clear a_w_0_0
  have A_w_0_1 := Lib.hid a_w_0_1
  clear a_w_0_1
  have A_w_0_2 := Lib.hid a_w_0_2
  clear a_w_0_2
  obtain ⟨lo_w_0_0, hi_w_0_0, lo_w_0_1, hi_w_0_1, lo_w_0_2, hi_w_0_2, r_w_0_0, r_w_0_1, r_w_0_2, q_w_01, q_w_02, q_w_03, q_w_04, q_w_05, q_w_06, q_w_07, q_w_08, q_w_09, q_w_010, q_w_011, q_w_012⟩ := own_pt3 w_0_0 w_0_1 w_0_2 p_w_001 p_w_002 p_w_012 hb.size
  clear w_0_0 w_0_1 w_0_2 p_w_001 p_w_002 p_w_012
  have w_0_0 := r_w_0_0
  have w_0_1 := r_w_0_1
  have w_0_2 := r_w_0_2
  clear r_w_0_0 r_w_0_1 r_w_0_2
  obtain ⟨A_vw_0_0, c_w_0_0, rfl, -, -⟩ := w_0_0.rd
  obtain ⟨A_vw_0_1, c_w_0_1, rfl, -, -⟩ := w_0_1.rd
  obtain ⟨A_vw_0_2, c_w_0_2, rfl, -, -⟩ := w_0_2.rd
  replace ia_0 := ia_0.below hb
  replace ia_1 := ia_1.below hb
  replace ia_2 := ia_2.below hb
  replace ix := ix.below hb
  replace B_ba := B_ba.below hb
  have hs_w4 : w3.heap.size ≤ w4.heap.size := hb.size
  replace hT := below_to hT hb hT.size
  clear hb
  clear l_ba k_ba_0 k_ba_1 k_ba_2
  have l_ba := B_ba.lt
  have k_ba_0 := B_ba.cell 0 _ rfl
  have k_ba_1 := B_ba.cell 1 _ rfl
  have k_ba_2 := B_ba.cell 2 _ rfl
  go_wp2_with fail
  have hb : Below w4.heap.size w4 (w4.alloc (.cells ([(.slice A_vw_0_0 y_w_0_0.length c_w_0_0), (.slice A_vw_0_1 y_w_0_1.length c_w_0_1), (.slice A_vw_0_2 y_w_0_2.length c_w_0_2)] : List Value).toArray 26)) := below_alloc _ _
  have B_zw_0 : BoxAt (w4.alloc (.cells ([(.slice A_vw_0_0 y_w_0_0.length c_w_0_0), (.slice A_vw_0_1 y_w_0_1.length c_w_0_1), (.slice A_vw_0_2 y_w_0_2.length c_w_0_2)] : List Value).toArray 26)) w4.heap.size [(.slice A_vw_0_0 y_w_0_0.length c_w_0_0), (.slice A_vw_0_1 y_w_0_1.length c_w_0_1), (.slice A_vw_0_2 y_w_0_2.length c_w_0_2)] := BoxAt.new _ _ _
  have hz_zw_0 : (w4.alloc (.cells ([(.slice A_vw_0_0 y_w_0_0.length c_w_0_0), (.slice A_vw_0_1 y_w_0_1.length c_w_0_1), (.slice A_vw_0_2 y_w_0_2.length c_w_0_2)] : List Value).toArray 26)).heap.size = w4.heap.size + 1 := size_alloc _ _
  generalize hg_zw_0 : World.alloc w4 _ = w5 at *
  clear hg_zw_0
  replace ia_0 := ia_0.below hb
  replace ia_1 := ia_1.below hb
  replace ia_2 := ia_2.below hb
  replace ix := ix.below hb
  replace w_0_0 := w_0_0.below hb
  replace w_0_1 := w_0_1.below hb
  replace w_0_2 := w_0_2.below hb
  replace B_ba := B_ba.below hb
  have hs_w5 : w4.heap.size ≤ w5.heap.size := hb.size
  replace hT := below_to hT hb hT.size
  clear hb
  clear ia_0
  clear ia_1
  clear ia_2
  clear ix
  clear l_ba k_ba_0 k_ba_1 k_ba_2
  have l_ba := B_ba.lt
  have k_ba_0 := B_ba.cell 0 _ rfl
  have k_ba_1 := B_ba.cell 1 _ rfl
  have k_ba_2 := B_ba.cell 2 _ rfl
  have l_zw_0 := B_zw_0.lt
  have k_zw_0_0 := B_zw_0.cell 0 _ rfl
  have k_zw_0_1 := B_zw_0.cell 1 _ rfl
  have k_zw_0_2 := B_zw_0.cell 2 _ rfl
  go_wp2_with fail
  refine (toMixture_any _ xa0 _ xa1 _ xa2 hma0 hma1 hma2 _ (HRa0.out.below hT) (HRa1.out.below hT) (HRa2.out.below hT)).mono ?_
  rintro e w6 ⟨v_x_a_0, v_x_a_1, v_x_a_2, m_x_a1, m_x_a2, rfl, x_a_0, x_a_1, x_a_2, q_x_a0, q_x_a1, q_x_a2, hb⟩
  obtain ⟨A_x_a_0, c_x_a_0, rfl, -, -⟩ := x_a_0.rd
  obtain ⟨A_x_a_1, c_x_a_1, rfl, -, -⟩ := x_a_1.rd
  obtain ⟨A_x_a_2, c_x_a_2, rfl, -, -⟩ := x_a_2.rd
  replace w_0_0 := w_0_0.below hb
  replace w_0_1 := w_0_1.below hb
  replace w_0_2 := w_0_2.below hb
  replace B_ba := B_ba.below hb
  replace B_zw_0 := B_zw_0.below hb
  have hs_w6 : w5.heap.size ≤ w6.heap.size := hb.size
  replace hT := below_to hT hb hT.size
  clear hb
  clear l_ba k_ba_0 k_ba_1 k_ba_2 l_zw_0 k_zw_0_0 k_zw_0_1 k_zw_0_2
  have l_ba := B_ba.lt
  have k_ba_0 := B_ba.cell 0 _ rfl
  have k_ba_1 := B_ba.cell 1 _ rfl
  have k_ba_2 := B_ba.cell 2 _ rfl
  have l_zw_0 := B_zw_0.lt
  have k_zw_0_0 := B_zw_0.cell 0 _ rfl
  have k_zw_0_1 := B_zw_0.cell 1 _ rfl
  have k_zw_0_2 := B_zw_0.cell 2 _ rfl
  go_wp2_with fail
  have hb : Below w6.heap.size w6 (w6.alloc (.cells ([(.slice A_x_a_0 xa0.length c_x_a_0), (.slice A_x_a_1 xa1.length c_x_a_1), (.slice A_x_a_2 xa2.length c_x_a_2)] : List Value).toArray 26)) := below_alloc _ _
  have B_zx_a : BoxAt (w6.alloc (.cells ([(.slice A_x_a_0 xa0.length c_x_a_0), (.slice A_x_a_1 xa1.length c_x_a_1), (.slice A_x_a_2 xa2.length c_x_a_2)] : List Value).toArray 26)) w6.heap.size [(.slice A_x_a_0 xa0.length c_x_a_0), (.slice A_x_a_1 xa1.length c_x_a_1), (.slice A_x_a_2 xa2.length c_x_a_2)] := BoxAt.new _ _ _
  have hz_zx_a : (w6.alloc (.cells ([(.slice A_x_a_0 xa0.length c_x_a_0), (.slice A_x_a_1 xa1.length c_x_a_1), (.slice A_x_a_2 xa2.length c_x_a_2)] : List Value).toArray 26)).heap.size = w6.heap.size + 1 := size_alloc _ _
  generalize hg_zx_a : World.alloc w6 _ = w7 at *
  clear hg_zx_a
  replace w_0_0 := w_0_0.below hb
  replace w_0_1 := w_0_1.below hb
  replace w_0_2 := w_0_2.below hb
  replace x_a_0 := x_a_0.below hb
  replace x_a_1 := x_a_1.below hb
  replace x_a_2 := x_a_2.below hb
  replace B_ba := B_ba.below hb
  replace B_zw_0 := B_zw_0.below hb
  have hs_w7 : w6.heap.size ≤ w7.heap.size := hb.size
  replace hT := below_to hT hb hT.size
  clear hb
  clear l_ba k_ba_0 k_ba_1 k_ba_2 l_zw_0 k_zw_0_0 k_zw_0_1 k_zw_0_2
  have l_ba := B_ba.lt
  have k_ba_0 := B_ba.cell 0 _ rfl
  have k_ba_1 := B_ba.cell 1 _ rfl
  have k_ba_2 := B_ba.cell 2 _ rfl
  have l_zw_0 := B_zw_0.lt
  have k_zw_0_0 := B_zw_0.cell 0 _ rfl
  have k_zw_0_1 := B_zw_0.cell 1 _ rfl
  have k_zw_0_2 := B_zw_0.cell 2 _ rfl
  have l_zx_a := B_zx_a.lt
  have k_zx_a_0 := B_zx_a.cell 0 _ rfl
  have k_zx_a_1 := B_zx_a.cell 1 _ rfl
  have k_zx_a_2 := B_zx_a.cell 2 _ rfl
  go_wp2_with fail
  refine (toFloat32S_any _ xx _ (HRx.out.below hT) hmx).mono ?_
  rintro e w8 ⟨v_x_x, rfl, x_x, hb, -⟩
  replace x_x := x_x.ranged
  replace w_0_0 := w_0_0.below hb
  replace w_0_1 := w_0_1.below hb
  replace w_0_2 := w_0_2.below hb
  replace x_a_0 := x_a_0.below hb
  replace x_a_1 := x_a_1.below hb
  replace x_a_2 := x_a_2.below hb
  replace B_ba := B_ba.below hb
  replace B_zw_0 := B_zw_0.below hb
  replace B_zx_a := B_zx_a.below hb
  have hs_w8 : w7.heap.size ≤ w8.heap.size := hb.size
  replace hT := below_to hT hb hT.size
  clear hb
  clear l_ba k_ba_0 k_ba_1 k_ba_2 l_zw_0 k_zw_0_0 k_zw_0_1 k_zw_0_2 l_zx_a k_zx_a_0 k_zx_a_1 k_zx_a_2
  have l_ba := B_ba.lt
  have k_ba_0 := B_ba.cell 0 _ rfl
  have k_ba_1 := B_ba.cell 1 _ rfl
  have k_ba_2 := B_ba.cell 2 _ rfl
  have l_zw_0 := B_zw_0.lt
  have k_zw_0_0 := B_zw_0.cell 0 _ rfl
  have k_zw_0_1 := B_zw_0.cell 1 _ rfl
  have k_zw_0_2 := B_zw_0.cell 2 _ rfl
  have l_zx_a := B_zx_a.lt
  have k_zx_a_0 := B_zx_a.cell 0 _ rfl
  have k_zx_a_1 := B_zx_a.cell 1 _ rfl
  have k_zx_a_2 := B_zx_a.cell 2 _ rfl
  go_wp2_with fail
  refine (implFitMixture_any _ xa0 _ xa1 _ xa2 hma0 hma1 hma2 _ xx hmx n _ x_a_0.rd x_a_1.rd x_a_2.rd x_x.rd).mono ?_
  rintro e w9 ⟨v_g_0_0, y_g_0_0, v_g_0_1, y_g_0_1, v_g_0_2, y_g_0_2, rfl, g_0_0, g_0_1, g_0_2, p_g_001, p_g_002, p_g_012, l_g_0_0, l_g_0_1, l_g_0_2, a_g_0_0, a_g_0_1, a_g_0_2, hb⟩
  have A_g_0_0 := Lib.hid a_g_0_0
  clear a_g_0_0
  have A_g_0_1 := Lib.hid a_g_0_1
  clear a_g_0_1
  have A_g_0_2 := Lib.hid a_g_0_2
  clear a_g_0_2
  obtain ⟨lo_g_0_0, hi_g_0_0, lo_g_0_1, hi_g_0_1, lo_g_0_2, hi_g_0_2, r_g_0_0, r_g_0_1, r_g_0_2, q_g_01, q_g_02, q_g_03, q_g_04, q_g_05, q_g_06, q_g_07, q_g_08, q_g_09, q_g_010, q_g_011, q_g_012⟩ := own_pt3 g_0_0 g_0_1 g_0_2 p_g_001 p_g_002 p_g_012 hb.size
  clear g_0_0 g_0_1 g_0_2 p_g_001 p_g_002 p_g_012
  have g_0_0 := r_g_0_0
  have g_0_1 := r_g_0_1
  have g_0_2 := r_g_0_2
  clear r_g_0_0 r_g_0_1 r_g_0_2
  obtain ⟨A_vg_0_0, c_g_0_0, rfl, -, -⟩ := g_0_0.rd
  obtain ⟨A_vg_0_1, c_g_0_1, rfl, -, -⟩ := g_0_1.rd
  obtain ⟨A_vg_0_2, c_g_0_2, rfl, -, -⟩ := g_0_2.rd
  replace w_0_0 := w_0_0.below hb
  replace w_0_1 := w_0_1.below hb
  replace w_0_2 := w_0_2.below hb
  replace x_a_0 := x_a_0.below hb
  replace x_a_1 := x_a_1.below hb
  replace x_a_2 := x_a_2.below hb
  replace x_x := x_x.below hb
  replace B_ba := B_ba.below hb
  replace B_zw_0 := B_zw_0.below hb
  replace B_zx_a := B_zx_a.below hb
  have hs_w9 : w8.heap.size ≤ w9.heap.size := hb.size
  replace hT := below_to hT hb hT.size
  clear hb
  clear l_ba k_ba_0 k_ba_1 k_ba_2 l_zw_0 k_zw_0_0 k_zw_0_1 k_zw_0_2 l_zx_a k_zx_a_0 k_zx_a_1 k_zx_a_2
  have l_ba := B_ba.lt
  have k_ba_0 := B_ba.cell 0 _ rfl
  have k_ba_1 := B_ba.cell 1 _ rfl
  have k_ba_2 := B_ba.cell 2 _ rfl
  have l_zw_0 := B_zw_0.lt
  have k_zw_0_0 := B_zw_0.cell 0 _ rfl
  have k_zw_0_1 := B_zw_0.cell 1 _ rfl
  have k_zw_0_2 := B_zw_0.cell 2 _ rfl
  have l_zx_a := B_zx_a.lt
  have k_zx_a_0 := B_zx_a.cell 0 _ rfl
  have k_zx_a_1 := B_zx_a.cell 1 _ rfl
  have k_zx_a_2 := B_zx_a.cell 2 _ rfl
  go_wp2_with fail
  have hb : Below w9.heap.size w9 (w9.alloc (.cells ([(.slice A_vg_0_0 y_g_0_0.length c_g_0_0), (.slice A_vg_0_1 y_g_0_1.length c_g_0_1), (.slice A_vg_0_2 y_g_0_2.length c_g_0_2)] : List Value).toArray 26)) := below_alloc _ _
  have B_zg_0 : BoxAt (w9.alloc (.cells ([(.slice A_vg_0_0 y_g_0_0.length c_g_0_0), (.slice A_vg_0_1 y_g_0_1.length c_g_0_1), (.slice A_vg_0_2 y_g_0_2.length c_g_0_2)] : List Value).toArray 26)) w9.heap.size [(.slice A_vg_0_0 y_g_0_0.length c_g_0_0), (.slice A_vg_0_1 y_g_0_1.length c_g_0_1), (.slice A_vg_0_2 y_g_0_2.length c_g_0_2)] := BoxAt.new _ _ _
  have hz_zg_0 : (w9.alloc (.cells ([(.slice A_vg_0_0 y_g_0_0.length c_g_0_0), (.slice A_vg_0_1 y_g_0_1.length c_g_0_1), (.slice A_vg_0_2 y_g_0_2.length c_g_0_2)] : List Value).toArray 26)).heap.size = w9.heap.size + 1 := size_alloc _ _
  generalize hg_zg_0 : World.alloc w9 _ = w10 at *
  clear hg_zg_0
  replace w_0_0 := w_0_0.below hb
  replace w_0_1 := w_0_1.below hb
  replace w_0_2 := w_0_2.below hb
  replace x_a_0 := x_a_0.below hb
  replace x_a_1 := x_a_1.below hb
  replace x_a_2 := x_a_2.below hb
  replace x_x := x_x.below hb
  replace g_0_0 := g_0_0.below hb
  replace g_0_1 := g_0_1.below hb
  replace g_0_2 := g_0_2.below hb
  replace B_ba := B_ba.below hb
  replace B_zw_0 := B_zw_0.below hb
  replace B_zx_a := B_zx_a.below hb
  have hs_w10 : w9.heap.size ≤ w10.heap.size := hb.size
  replace hT := below_to hT hb hT.size
  clear hb
  clear l_ba k_ba_0 k_ba_1 k_ba_2 l_zw_0 k_zw_0_0 k_zw_0_1 k_zw_0_2 l_zx_a k_zx_a_0 k_zx_a_1 k_zx_a_2
  have l_ba := B_ba.lt
  have k_ba_0 := B_ba.cell 0 _ rfl
  have k_ba_1 := B_ba.cell 1 _ rfl
  have k_ba_2 := B_ba.cell 2 _ rfl
  have l_zw_0 := B_zw_0.lt
  have k_zw_0_0 := B_zw_0.cell 0 _ rfl
  have k_zw_0_1 := B_zw_0.cell 1 _ rfl
  have k_zw_0_2 := B_zw_0.cell 2 _ rfl
  have l_zx_a := B_zx_a.lt
  have k_zx_a_0 := B_zx_a.cell 0 _ rfl
  have k_zx_a_1 := B_zx_a.cell 1 _ rfl
  have k_zx_a_2 := B_zx_a.cell 2 _ rfl
  have l_zg_0 := B_zg_0.lt
  have k_zg_0_0 := B_zg_0.cell 0 _ rfl
  have k_zg_0_1 := B_zg_0.cell 1 _ rfl
  have k_zg_0_2 := B_zg_0.cell 2 _ rfl
  go_wp2_with fail
  refine (eqMixture_any _ _ y_g_0_0 y_w_0_0 _ _ y_g_0_1 y_w_0_1 _ _ y_g_0_2 y_w_0_2 (Nat.le_trans l_g_0_0 (by omega)) (Nat.le_trans l_w_0_0 (by omega)) (Nat.le_trans l_g_0_1 (by omega)) (Nat.le_trans l_w_0_1 (by omega)) (Nat.le_trans l_g_0_2 (by omega)) (Nat.le_trans l_w_0_2 (by omega)) _ g_0_0.rd w_0_0.rd (A_g_0_0.out.trans A_w_0_0.out.symm) g_0_1.rd w_0_1.rd (A_g_0_1.out.trans A_w_0_1.out.symm) g_0_2.rd w_0_2.rd (A_g_0_2.out.trans A_w_0_2.out.symm)).mono ?_
  rintro e w11 ⟨rfl, hb⟩
  replace w_0_0 := w_0_0.below hb
  replace w_0_1 := w_0_1.below hb
  replace w_0_2 := w_0_2.below hb
  replace x_a_0 := x_a_0.below hb
  replace x_a_1 := x_a_1.below hb
  replace x_a_2 := x_a_2.below hb
  replace x_x := x_x.below hb
  replace g_0_0 := g_0_0.below hb
  replace g_0_1 := g_0_1.below hb
  replace g_0_2 := g_0_2.below hb
  replace B_ba := B_ba.below hb
  replace B_zw_0 := B_zw_0.below hb
  replace B_zx_a := B_zx_a.below hb
  replace B_zg_0 := B_zg_0.below hb
  have hs_w11 : w10.heap.size ≤ w11.heap.size := hb.size
  replace hT := below_to hT hb hT.size
  clear hb
  clear l_ba k_ba_0 k_ba_1 k_ba_2 l_zw_0 k_zw_0_0 k_zw_0_1 k_zw_0_2 l_zx_a k_zx_a_0 k_zx_a_1 k_zx_a_2 l_zg_0 k_zg_0_0 k_zg_0_1 k_zg_0_2
  have l_ba := B_ba.lt
  have k_ba_0 := B_ba.cell 0 _ rfl
  have k_ba_1 := B_ba.cell 1 _ rfl
  have k_ba_2 := B_ba.cell 2 _ rfl
  have l_zw_0 := B_zw_0.lt
  have k_zw_0_0 := B_zw_0.cell 0 _ rfl
  have k_zw_0_1 := B_zw_0.cell 1 _ rfl
  have k_zw_0_2 := B_zw_0.cell 2 _ rfl
  have l_zx_a := B_zx_a.lt
  have k_zx_a_0 := B_zx_a.cell 0 _ rfl
  have k_zx_a_1 := B_zx_a.cell 1 _ rfl
  have k_zx_a_2 := B_zx_a.cell 2 _ rfl
  have l_zg_0 := B_zg_0.lt
  have k_zg_0_0 := B_zg_0.cell 0 _ rfl
  have k_zg_0_1 := B_zg_0.cell 1 _ rfl
  have k_zg_0_2 := B_zg_0.cell 2 _ rfl
  have hlt_ba := B_ba.lt
  have hlt_zw_0 := B_zw_0.lt
  have hlt_zx_a := B_zx_a.lt
  have hlt_zg_0 := B_zg_0.lt
  go_wp2
  go_region_held3 (fun w' => w'.cell? ⟨w6.heap.size, 0, none⟩ = some ((.slice A_x_a_0 xa0.length c_x_a_0)) ∧ w'.cell? ⟨w6.heap.size, 1, none⟩ = some ((.slice A_x_a_1 xa1.length c_x_a_1)) ∧ w'.cell? ⟨w6.heap.size, 2, none⟩ = some ((.slice A_x_a_2 xa2.length c_x_a_2)) ∧ w'.cell? ⟨w.heap.size, 0, none⟩ = some (.slice Aa0 xa0.length capa0) ∧ w'.cell? ⟨w.heap.size, 1, none⟩ = some (.slice Aa1 xa1.length capa1) ∧ w'.cell? ⟨w.heap.size, 2, none⟩ = some (.slice Aa2 xa2.length capa2))
    (first
      | go_keep
      | (go_split_ands; refine ⟨?_, ?_, ?_, ?_, ?_, ?_⟩ <;> (rw [hb13.cell (by have z0 := hb12.size; simp at z0 ⊢; omega)]; assumption))
      | (go_split_ands; refine ⟨?_, ?_, ?_, ?_, ?_, ?_⟩ <;> (rw [hb12.cell (by  try simp; omega)]; assumption)))
    (first
      | (go_at_call 7; refine (toMixture_any _ xa0 _ xa1 _ xa2 hma0 hma1 hma2 _ ?_ ?_ ?_).mono ?_; (exact HRa0.out.below (hT.drew)); (exact HRa1.out.below (hT.drew)); (exact HRa2.out.below (hT.drew)); rintro e w12 ⟨v_ita_0, v_ita_1, v_ita_2, m_ita1, m_ita2, rfl, ita_0, ita_1, ita_2, -, -, -, hb12⟩)
      | (go_at_call 10; refine (eqMixture_any _ _ xa0 xa0 _ _ xa1 xa1 _ _ xa2 xa2 hma0 hma0 hma1 hma1 hma2 hma2 _ ?_ ?_ rfl ?_ ?_ rfl ?_ ?_ rfl).mono ?_; (exact ((x_a_0.below ((Below.refl _ _).drew)).below hb12).rd); (exact ita_0.rd); (exact ((x_a_1.below ((Below.refl _ _).drew)).below hb12).rd); (exact ita_1.rd); (exact ((x_a_2.below ((Below.refl _ _).drew)).below hb12).rd); (exact ita_2.rd); rintro e w13 ⟨rfl, hb13⟩))
  have hb : Below w11.heap.size w11 w13 := below_to (below_to ((Below.refl w11.heap.size w11).drew) hb12 (by simp)) hb13 (by have z0 := hb12.size; simp at z0 ⊢; omega)
  clear ita_0 ita_1 ita_2 hb12 hb13 hlt_ba hlt_zw_0 hlt_zx_a hlt_zg_0
  replace w_0_0 := w_0_0.below hb
  replace w_0_1 := w_0_1.below hb
  replace w_0_2 := w_0_2.below hb
  replace x_a_0 := x_a_0.below hb
  replace x_a_1 := x_a_1.below hb
  replace x_a_2 := x_a_2.below hb
  replace x_x := x_x.below hb
  replace g_0_0 := g_0_0.below hb
  replace g_0_1 := g_0_1.below hb
  replace g_0_2 := g_0_2.below hb
  replace B_ba := B_ba.below hb
  replace B_zw_0 := B_zw_0.below hb
  replace B_zx_a := B_zx_a.below hb
  replace B_zg_0 := B_zg_0.below hb
  have hs_w13 : w11.heap.size ≤ w13.heap.size := hb.size
  replace hT := below_to hT hb hT.size
  clear hb
  clear l_ba k_ba_0 k_ba_1 k_ba_2 l_zw_0 k_zw_0_0 k_zw_0_1 k_zw_0_2 l_zx_a k_zx_a_0 k_zx_a_1 k_zx_a_2 l_zg_0 k_zg_0_0 k_zg_0_1 k_zg_0_2
  have l_ba := B_ba.lt
  have k_ba_0 := B_ba.cell 0 _ rfl
  have k_ba_1 := B_ba.cell 1 _ rfl
  have k_ba_2 := B_ba.cell 2 _ rfl
  have l_zw_0 := B_zw_0.lt
  have k_zw_0_0 := B_zw_0.cell 0 _ rfl
  have k_zw_0_1 := B_zw_0.cell 1 _ rfl
  have k_zw_0_2 := B_zw_0.cell 2 _ rfl
  have l_zx_a := B_zx_a.lt
  have k_zx_a_0 := B_zx_a.cell 0 _ rfl
  have k_zx_a_1 := B_zx_a.cell 1 _ rfl
  have k_zx_a_2 := B_zx_a.cell 2 _ rfl
  have l_zg_0 := B_zg_0.lt
  have k_zg_0_0 := B_zg_0.cell 0 _ rfl
  have k_zg_0_1 := B_zg_0.cell 1 _ rfl
  have k_zg_0_2 := B_zg_0.cell 2 _ rfl
  go_wp2_with fail
  refine (toFloat32S_any _ xx _ (HRx.out.below hT) hmx).mono ?_
  rintro e w14 ⟨v_t_x, rfl, t_x, hb, -⟩
  replace t_x := t_x.ranged
  replace w_0_0 := w_0_0.below hb
  replace w_0_1 := w_0_1.below hb
  replace w_0_2 := w_0_2.below hb
  replace x_a_0 := x_a_0.below hb
  replace x_a_1 := x_a_1.below hb
  replace x_a_2 := x_a_2.below hb
  replace x_x := x_x.below hb
  replace g_0_0 := g_0_0.below hb
  replace g_0_1 := g_0_1.below hb
  replace g_0_2 := g_0_2.below hb
  replace B_ba := B_ba.below hb
  replace B_zw_0 := B_zw_0.below hb
  replace B_zx_a := B_zx_a.below hb
  replace B_zg_0 := B_zg_0.below hb
  have hs_w14 : w13.heap.size ≤ w14.heap.size := hb.size
  replace hT := below_to hT hb hT.size
  clear hb
  clear l_ba k_ba_0 k_ba_1 k_ba_2 l_zw_0 k_zw_0_0 k_zw_0_1 k_zw_0_2 l_zx_a k_zx_a_0 k_zx_a_1 k_zx_a_2 l_zg_0 k_zg_0_0 k_zg_0_1 k_zg_0_2
  have l_ba := B_ba.lt
  have k_ba_0 := B_ba.cell 0 _ rfl
  have k_ba_1 := B_ba.cell 1 _ rfl
  have k_ba_2 := B_ba.cell 2 _ rfl
  have l_zw_0 := B_zw_0.lt
  have k_zw_0_0 := B_zw_0.cell 0 _ rfl
  have k_zw_0_1 := B_zw_0.cell 1 _ rfl
  have k_zw_0_2 := B_zw_0.cell 2 _ rfl
  have l_zx_a := B_zx_a.lt
  have k_zx_a_0 := B_zx_a.cell 0 _ rfl
  have k_zx_a_1 := B_zx_a.cell 1 _ rfl
  have k_zx_a_2 := B_zx_a.cell 2 _ rfl
  have l_zg_0 := B_zg_0.lt
  have k_zg_0_0 := B_zg_0.cell 0 _ rfl
  have k_zg_0_1 := B_zg_0.cell 1 _ rfl
  have k_zg_0_2 := B_zg_0.cell 2 _ rfl
  go_wp2_with fail
  refine (eqFloat32S_any _ _ _ _ _ x_x.rd t_x.rd (hmx) (hmx) (rfl)).mono ?_
  rintro e w15 ⟨rfl, hd⟩
  have hb := below_of_drew hd
  clear hd
  replace w_0_0 := w_0_0.below hb
  replace w_0_1 := w_0_1.below hb
  replace w_0_2 := w_0_2.below hb
  replace x_a_0 := x_a_0.below hb
  replace x_a_1 := x_a_1.below hb
  replace x_a_2 := x_a_2.below hb
  replace x_x := x_x.below hb
  replace g_0_0 := g_0_0.below hb
  replace g_0_1 := g_0_1.below hb
  replace g_0_2 := g_0_2.below hb
  replace t_x := t_x.below hb
  replace B_ba := B_ba.below hb
  replace B_zw_0 := B_zw_0.below hb
  replace B_zx_a := B_zx_a.below hb
  replace B_zg_0 := B_zg_0.below hb
  have hs_w15 : w14.heap.size ≤ w15.heap.size := hb.size
  replace hT := below_to hT hb hT.size
  clear hb
  clear t_x
  clear l_ba k_ba_0 k_ba_1 k_ba_2 l_zw_0 k_zw_0_0 k_zw_0_1 k_zw_0_2 l_zx_a k_zx_a_0 k_zx_a_1 k_zx_a_2 l_zg_0 k_zg_0_0 k_zg_0_1 k_zg_0_2
  have l_ba := B_ba.lt
  have k_ba_0 := B_ba.cell 0 _ rfl
  have k_ba_1 := B_ba.cell 1 _ rfl
  have k_ba_2 := B_ba.cell 2 _ rfl
  have l_zw_0 := B_zw_0.lt
  have k_zw_0_0 := B_zw_0.cell 0 _ rfl
  have k_zw_0_1 := B_zw_0.cell 1 _ rfl
  have k_zw_0_2 := B_zw_0.cell 2 _ rfl
  have l_zx_a := B_zx_a.lt
  have k_zx_a_0 := B_zx_a.cell 0 _ rfl
  have k_zx_a_1 := B_zx_a.cell 1 _ rfl
  have k_zx_a_2 := B_zx_a.cell 2 _ rfl
  have l_zg_0 := B_zg_0.lt
  have k_zg_0_0 := B_zg_0.cell 0 _ rfl
  have k_zg_0_1 := B_zg_0.cell 1 _ rfl
  have k_zg_0_2 := B_zg_0.cell 2 _ rfl
  go_wp2_with fail
  refine (markMixture_any _ _ _ _ _ _ _ (by omega) (by omega) _ _ _ _ _ _ _ x_a_0 x_a_1 x_a_2 (by have := hma0; omega) (by have := hma1; omega) (by have := hma2; omega) (by omega) (by omega) (by omega) (by omega) (by omega) (by omega) (by omega) (by omega) (by omega)).mono ?_
  rintro e w16 ⟨w16V0, w16V1, w16V2, rfl, hb, ht0, ht1, ht2, om0, om1, om2⟩
  have hs_w16V0 : w15.heap.size ≤ w16V0.heap.size := hb.size
  have hs_w16V1 : w16V0.heap.size ≤ w16V1.heap.size := ht0.size
  have hs_w16V2 : w16V1.heap.size ≤ w16V2.heap.size := ht1.size
  have hs_w16 : w16V2.heap.size ≤ w16.heap.size := ht2.size
  replace w_0_0 := (((w_0_0.below hb).touch ht0 (by omega)).touch ht1 (by omega)).touch ht2 (by omega)
  replace w_0_1 := (((w_0_1.below hb).touch ht0 (by omega)).touch ht1 (by omega)).touch ht2 (by omega)
  replace w_0_2 := (((w_0_2.below hb).touch ht0 (by omega)).touch ht1 (by omega)).touch ht2 (by omega)
  replace x_x := (((x_x.below hb).touch ht0 (by omega)).touch ht1 (by omega)).touch ht2 (by omega)
  replace g_0_0 := (((g_0_0.below hb).touch ht0 (by omega)).touch ht1 (by omega)).touch ht2 (by omega)
  replace g_0_1 := (((g_0_1.below hb).touch ht0 (by omega)).touch ht1 (by omega)).touch ht2 (by omega)
  replace g_0_2 := (((g_0_2.below hb).touch ht0 (by omega)).touch ht1 (by omega)).touch ht2 (by omega)
  replace B_ba := (((B_ba.below hb).touch ht0 (by omega)).touch ht1 (by omega)).touch ht2 (by omega)
  replace B_zw_0 := (((B_zw_0.below hb).touch ht0 (by omega)).touch ht1 (by omega)).touch ht2 (by omega)
  replace B_zx_a := (((B_zx_a.below hb).touch ht0 (by omega)).touch ht1 (by omega)).touch ht2 (by omega)
  replace B_zg_0 := (((B_zg_0.below hb).touch ht0 (by omega)).touch ht1 (by omega)).touch ht2 (by omega)
  replace hT := (((below_to hT hb hT.size).trans (ht0.below (by omega) (by omega))).trans (ht1.below (by omega) (by omega))).trans (ht2.below (by omega) (by omega))
  have x_a_0 := om0
  have x_a_1 := om1
  have x_a_2 := om2
  clear hb ht0 ht1 ht2 om0 om1 om2
  clear l_ba k_ba_0 k_ba_1 k_ba_2 l_zw_0 k_zw_0_0 k_zw_0_1 k_zw_0_2 l_zx_a k_zx_a_0 k_zx_a_1 k_zx_a_2 l_zg_0 k_zg_0_0 k_zg_0_1 k_zg_0_2
  have l_ba := B_ba.lt
  have k_ba_0 := B_ba.cell 0 _ rfl
  have k_ba_1 := B_ba.cell 1 _ rfl
  have k_ba_2 := B_ba.cell 2 _ rfl
  have l_zw_0 := B_zw_0.lt
  have k_zw_0_0 := B_zw_0.cell 0 _ rfl
  have k_zw_0_1 := B_zw_0.cell 1 _ rfl
  have k_zw_0_2 := B_zw_0.cell 2 _ rfl
  have l_zx_a := B_zx_a.lt
  have k_zx_a_0 := B_zx_a.cell 0 _ rfl
  have k_zx_a_1 := B_zx_a.cell 1 _ rfl
  have k_zx_a_2 := B_zx_a.cell 2 _ rfl
  have l_zg_0 := B_zg_0.lt
  have k_zg_0_0 := B_zg_0.cell 0 _ rfl
  have k_zg_0_1 := B_zg_0.cell 1 _ rfl
  have k_zg_0_2 := B_zg_0.cell 2 _ rfl
  go_wp2_with fail
  refine (markFloat32S_any _ _ _ (by omega) (by omega) _ _ x_x.own (hmx) (by omega)).mono ?_
  rintro e w17 ⟨rfl, om, hg⟩
  have ht := Touch.of_grown hg x_x.lt
  have hs_w17 : w16.heap.size ≤ w17.heap.size := ht.size
  have hb := Below.refl w16.heap.size w16
  replace w_0_0 := (w_0_0.below hb).touch ht (by omega)
  replace w_0_1 := (w_0_1.below hb).touch ht (by omega)
  replace w_0_2 := (w_0_2.below hb).touch ht (by omega)
  replace x_a_0 := (x_a_0.below hb).touch ht (by omega)
  replace x_a_1 := (x_a_1.below hb).touch ht (by omega)
  replace x_a_2 := (x_a_2.below hb).touch ht (by omega)
  replace g_0_0 := (g_0_0.below hb).touch ht (by omega)
  replace g_0_1 := (g_0_1.below hb).touch ht (by omega)
  replace g_0_2 := (g_0_2.below hb).touch ht (by omega)
  replace B_ba := (B_ba.below hb).touch ht (by omega)
  replace B_zw_0 := (B_zw_0.below hb).touch ht (by omega)
  replace B_zx_a := (B_zx_a.below hb).touch ht (by omega)
  replace B_zg_0 := (B_zg_0.below hb).touch ht (by omega)
  replace hT := (below_to hT hb hT.size).trans (ht.below (by omega) (by omega))
  replace x_x := x_x.again om
  clear om hg ht hb
  clear x_a_0
  clear x_a_1
  clear x_a_2
  clear x_x
  clear l_ba k_ba_0 k_ba_1 k_ba_2 l_zw_0 k_zw_0_0 k_zw_0_1 k_zw_0_2 l_zx_a k_zx_a_0 k_zx_a_1 k_zx_a_2 l_zg_0 k_zg_0_0 k_zg_0_1 k_zg_0_2
  have l_ba := B_ba.lt
  have k_ba_0 := B_ba.cell 0 _ rfl
  have k_ba_1 := B_ba.cell 1 _ rfl
  have k_ba_2 := B_ba.cell 2 _ rfl
  have l_zw_0 := B_zw_0.lt
  have k_zw_0_0 := B_zw_0.cell 0 _ rfl
  have k_zw_0_1 := B_zw_0.cell 1 _ rfl
  have k_zw_0_2 := B_zw_0.cell 2 _ rfl
  have l_zx_a := B_zx_a.lt
  have k_zx_a_0 := B_zx_a.cell 0 _ rfl
  have k_zx_a_1 := B_zx_a.cell 1 _ rfl
  have k_zx_a_2 := B_zx_a.cell 2 _ rfl
  have l_zg_0 := B_zg_0.lt
  have k_zg_0_0 := B_zg_0.cell 0 _ rfl
  have k_zg_0_1 := B_zg_0.cell 1 _ rfl
  have k_zg_0_2 := B_zg_0.cell 2 _ rfl
  go_wp2_with fail
  refine (eqMixture_any _ _ y_g_0_0 y_w_0_0 _ _ y_g_0_1 y_w_0_1 _ _ y_g_0_2 y_w_0_2 (Nat.le_trans l_g_0_0 (by omega)) (Nat.le_trans l_w_0_0 (by omega)) (Nat.le_trans l_g_0_1 (by omega)) (Nat.le_trans l_w_0_1 (by omega)) (Nat.le_trans l_g_0_2 (by omega)) (Nat.le_trans l_w_0_2 (by omega)) _ g_0_0.rd w_0_0.rd (A_g_0_0.out.trans A_w_0_0.out.symm) g_0_1.rd w_0_1.rd (A_g_0_1.out.trans A_w_0_1.out.symm) g_0_2.rd w_0_2.rd (A_g_0_2.out.trans A_w_0_2.out.symm)).mono ?_
  rintro e w18 ⟨rfl, hb⟩
  replace w_0_0 := w_0_0.below hb
  replace w_0_1 := w_0_1.below hb
  replace w_0_2 := w_0_2.below hb
  replace g_0_0 := g_0_0.below hb
  replace g_0_1 := g_0_1.below hb
  replace g_0_2 := g_0_2.below hb
  replace B_ba := B_ba.below hb
  replace B_zw_0 := B_zw_0.below hb
  replace B_zx_a := B_zx_a.below hb
  replace B_zg_0 := B_zg_0.below hb
  have hs_w18 : w17.heap.size ≤ w18.heap.size := hb.size
  replace hT := below_to hT hb hT.size
  clear hb
  clear l_ba k_ba_0 k_ba_1 k_ba_2 l_zw_0 k_zw_0_0 k_zw_0_1 k_zw_0_2 l_zx_a k_zx_a_0 k_zx_a_1 k_zx_a_2 l_zg_0 k_zg_0_0 k_zg_0_1 k_zg_0_2
  have l_ba := B_ba.lt
  have k_ba_0 := B_ba.cell 0 _ rfl
  have k_ba_1 := B_ba.cell 1 _ rfl
  have k_ba_2 := B_ba.cell 2 _ rfl
  have l_zw_0 := B_zw_0.lt
  have k_zw_0_0 := B_zw_0.cell 0 _ rfl
  have k_zw_0_1 := B_zw_0.cell 1 _ rfl
  have k_zw_0_2 := B_zw_0.cell 2 _ rfl
  have l_zx_a := B_zx_a.lt
  have k_zx_a_0 := B_zx_a.cell 0 _ rfl
  have k_zx_a_1 := B_zx_a.cell 1 _ rfl
  have k_zx_a_2 := B_zx_a.cell 2 _ rfl
  have l_zg_0 := B_zg_0.lt
  have k_zg_0_0 := B_zg_0.cell 0 _ rfl
  have k_zg_0_1 := B_zg_0.cell 1 _ rfl
  have k_zg_0_2 := B_zg_0.cell 2 _ rfl
  go_wp2_with fail
  refine (markMixture_any _ _ _ _ _ _ _ (by omega) (by omega) _ _ _ _ _ _ _ g_0_0 g_0_1 g_0_2 (by have := l_g_0_0; omega) (by have := l_g_0_1; omega) (by have := l_g_0_2; omega) (by omega) (by omega) (by omega) (by omega) (by omega) (by omega) (by omega) (by omega) (by omega)).mono ?_
  rintro e w19 ⟨w19V0, w19V1, w19V2, rfl, hb, ht0, ht1, ht2, om0, om1, om2⟩
  have hs_w19V0 : w18.heap.size ≤ w19V0.heap.size := hb.size
  have hs_w19V1 : w19V0.heap.size ≤ w19V1.heap.size := ht0.size
  have hs_w19V2 : w19V1.heap.size ≤ w19V2.heap.size := ht1.size
  have hs_w19 : w19V2.heap.size ≤ w19.heap.size := ht2.size
  replace w_0_0 := (((w_0_0.below hb).touch ht0 (by omega)).touch ht1 (by omega)).touch ht2 (by omega)
  replace w_0_1 := (((w_0_1.below hb).touch ht0 (by omega)).touch ht1 (by omega)).touch ht2 (by omega)
  replace w_0_2 := (((w_0_2.below hb).touch ht0 (by omega)).touch ht1 (by omega)).touch ht2 (by omega)
  replace B_ba := (((B_ba.below hb).touch ht0 (by omega)).touch ht1 (by omega)).touch ht2 (by omega)
  replace B_zw_0 := (((B_zw_0.below hb).touch ht0 (by omega)).touch ht1 (by omega)).touch ht2 (by omega)
  replace B_zx_a := (((B_zx_a.below hb).touch ht0 (by omega)).touch ht1 (by omega)).touch ht2 (by omega)
  replace B_zg_0 := (((B_zg_0.below hb).touch ht0 (by omega)).touch ht1 (by omega)).touch ht2 (by omega)
  replace hT := (((below_to hT hb hT.size).trans (ht0.below (by omega) (by omega))).trans (ht1.below (by omega) (by omega))).trans (ht2.below (by omega) (by omega))
  have g_0_0 := om0
  have g_0_1 := om1
  have g_0_2 := om2
  clear hb ht0 ht1 ht2 om0 om1 om2
  clear l_ba k_ba_0 k_ba_1 k_ba_2 l_zw_0 k_zw_0_0 k_zw_0_1 k_zw_0_2 l_zx_a k_zx_a_0 k_zx_a_1 k_zx_a_2 l_zg_0 k_zg_0_0 k_zg_0_1 k_zg_0_2
  have l_ba := B_ba.lt
  have k_ba_0 := B_ba.cell 0 _ rfl
  have k_ba_1 := B_ba.cell 1 _ rfl
  have k_ba_2 := B_ba.cell 2 _ rfl
  have l_zw_0 := B_zw_0.lt
  have k_zw_0_0 := B_zw_0.cell 0 _ rfl
  have k_zw_0_1 := B_zw_0.cell 1 _ rfl
  have k_zw_0_2 := B_zw_0.cell 2 _ rfl
  have l_zx_a := B_zx_a.lt
  have k_zx_a_0 := B_zx_a.cell 0 _ rfl
  have k_zx_a_1 := B_zx_a.cell 1 _ rfl
  have k_zx_a_2 := B_zx_a.cell 2 _ rfl
  have l_zg_0 := B_zg_0.lt
  have k_zg_0_0 := B_zg_0.cell 0 _ rfl
  have k_zg_0_1 := B_zg_0.cell 1 _ rfl
  have k_zg_0_2 := B_zg_0.cell 2 _ rfl
  go_wp2_with fail
  refine (heldMixture_any _ y_g_0_0.length _ y_g_0_1.length _ y_g_0_2.length _ (by omega) (by omega) _ g_0_0.rd g_0_1.rd g_0_2.rd (by have := l_g_0_0; omega) (by have := l_g_0_1; omega) (by have := l_g_0_2; omega)).mono ?_
  rintro e w20 ⟨rfl, hb⟩
  replace w_0_0 := w_0_0.below hb
  replace w_0_1 := w_0_1.below hb
  replace w_0_2 := w_0_2.below hb
  replace g_0_0 := g_0_0.below hb
  replace g_0_1 := g_0_1.below hb
  replace g_0_2 := g_0_2.below hb
  replace B_ba := B_ba.below hb
  replace B_zw_0 := B_zw_0.below hb
  replace B_zx_a := B_zx_a.below hb
  replace B_zg_0 := B_zg_0.below hb
  have hs_w20 : w19.heap.size ≤ w20.heap.size := hb.size
  replace hT := below_to hT hb hT.size
  clear hb
  clear l_ba k_ba_0 k_ba_1 k_ba_2 l_zw_0 k_zw_0_0 k_zw_0_1 k_zw_0_2 l_zx_a k_zx_a_0 k_zx_a_1 k_zx_a_2 l_zg_0 k_zg_0_0 k_zg_0_1 k_zg_0_2
  have l_ba := B_ba.lt
  have k_ba_0 := B_ba.cell 0 _ rfl
  have k_ba_1 := B_ba.cell 1 _ rfl
  have k_ba_2 := B_ba.cell 2 _ rfl
  have l_zw_0 := B_zw_0.lt
  have k_zw_0_0 := B_zw_0.cell 0 _ rfl
  have k_zw_0_1 := B_zw_0.cell 1 _ rfl
  have k_zw_0_2 := B_zw_0.cell 2 _ rfl
  have l_zx_a := B_zx_a.lt
  have k_zx_a_0 := B_zx_a.cell 0 _ rfl
  have k_zx_a_1 := B_zx_a.cell 1 _ rfl
  have k_zx_a_2 := B_zx_a.cell 2 _ rfl
  have l_zg_0 := B_zg_0.lt
  have k_zg_0_0 := B_zg_0.cell 0 _ rfl
  have k_zg_0_1 := B_zg_0.cell 1 _ rfl
  have k_zg_0_2 := B_zg_0.cell 2 _ rfl
  go_wp2_with fail
  refine (toMixture_any _ xa0 _ xa1 _ xa2 hma0 hma1 hma2 _ (HRa0.out.below hT) (HRa1.out.below hT) (HRa2.out.below hT)).mono ?_
  rintro e w21 ⟨v_ja_0, v_ja_1, v_ja_2, m_ja1, m_ja2, rfl, ja_0, ja_1, ja_2, q_ja0, q_ja1, q_ja2, hb⟩
  obtain ⟨A_ja_0, c_ja_0, rfl, -, -⟩ := ja_0.rd
  obtain ⟨A_ja_1, c_ja_1, rfl, -, -⟩ := ja_1.rd
  obtain ⟨A_ja_2, c_ja_2, rfl, -, -⟩ := ja_2.rd
  replace w_0_0 := w_0_0.below hb
  replace w_0_1 := w_0_1.below hb
  replace w_0_2 := w_0_2.below hb
  replace g_0_0 := g_0_0.below hb
  replace g_0_1 := g_0_1.below hb
  replace g_0_2 := g_0_2.below hb
  replace B_ba := B_ba.below hb
  replace B_zw_0 := B_zw_0.below hb
  replace B_zx_a := B_zx_a.below hb
  replace B_zg_0 := B_zg_0.below hb
  have hs_w21 : w20.heap.size ≤ w21.heap.size := hb.size
  replace hT := below_to hT hb hT.size
  clear hb
  clear l_ba k_ba_0 k_ba_1 k_ba_2 l_zw_0 k_zw_0_0 k_zw_0_1 k_zw_0_2 l_zx_a k_zx_a_0 k_zx_a_1 k_zx_a_2 l_zg_0 k_zg_0_0 k_zg_0_1 k_zg_0_2
  have l_ba := B_ba.lt
  have k_ba_0 := B_ba.cell 0 _ rfl
  have k_ba_1 := B_ba.cell 1 _ rfl
  have k_ba_2 := B_ba.cell 2 _ rfl
  have l_zw_0 := B_zw_0.lt
  have k_zw_0_0 := B_zw_0.cell 0 _ rfl
  have k_zw_0_1 := B_zw_0.cell 1 _ rfl
  have k_zw_0_2 := B_zw_0.cell 2 _ rfl
  have l_zx_a := B_zx_a.lt
  have k_zx_a_0 := B_zx_a.cell 0 _ rfl
  have k_zx_a_1 := B_zx_a.cell 1 _ rfl
  have k_zx_a_2 := B_zx_a.cell 2 _ rfl
  have l_zg_0 := B_zg_0.lt
  have k_zg_0_0 := B_zg_0.cell 0 _ rfl
  have k_zg_0_1 := B_zg_0.cell 1 _ rfl
  have k_zg_0_2 := B_zg_0.cell 2 _ rfl
  go_wp2_with fail
  refine (toFloat32S_any _ xx _ (HRx.out.below hT) hmx).mono ?_
  rintro e w22 ⟨v_jx, rfl, jx, hb, -⟩
  replace jx := jx.ranged
  replace w_0_0 := w_0_0.below hb
  replace w_0_1 := w_0_1.below hb
  replace w_0_2 := w_0_2.below hb
  replace g_0_0 := g_0_0.below hb
  replace g_0_1 := g_0_1.below hb
  replace g_0_2 := g_0_2.below hb
  replace ja_0 := ja_0.below hb
  replace ja_1 := ja_1.below hb
  replace ja_2 := ja_2.below hb
  replace B_ba := B_ba.below hb
  replace B_zw_0 := B_zw_0.below hb
  replace B_zx_a := B_zx_a.below hb
  replace B_zg_0 := B_zg_0.below hb
  have hs_w22 : w21.heap.size ≤ w22.heap.size := hb.size
  replace hT := below_to hT hb hT.size
  clear hb
  clear l_ba k_ba_0 k_ba_1 k_ba_2 l_zw_0 k_zw_0_0 k_zw_0_1 k_zw_0_2 l_zx_a k_zx_a_0 k_zx_a_1 k_zx_a_2 l_zg_0 k_zg_0_0 k_zg_0_1 k_zg_0_2
  have l_ba := B_ba.lt
  have k_ba_0 := B_ba.cell 0 _ rfl
  have k_ba_1 := B_ba.cell 1 _ rfl
  have k_ba_2 := B_ba.cell 2 _ rfl
  have l_zw_0 := B_zw_0.lt
  have k_zw_0_0 := B_zw_0.cell 0 _ rfl
  have k_zw_0_1 := B_zw_0.cell 1 _ rfl
  have k_zw_0_2 := B_zw_0.cell 2 _ rfl
  have l_zx_a := B_zx_a.lt
  have k_zx_a_0 := B_zx_a.cell 0 _ rfl
  have k_zx_a_1 := B_zx_a.cell 1 _ rfl
  have k_zx_a_2 := B_zx_a.cell 2 _ rfl
  have l_zg_0 := B_zg_0.lt
  have k_zg_0_0 := B_zg_0.cell 0 _ rfl
  have k_zg_0_1 := B_zg_0.cell 1 _ rfl
  have k_zg_0_2 := B_zg_0.cell 2 _ rfl
  go_wp2_with fail
  refine (implFitMixture_any _ xa0 _ xa1 _ xa2 hma0 hma1 hma2 _ xx hmx n _ ja_0.rd ja_1.rd ja_2.rd jx.rd).mono ?_
  rintro e w23 ⟨v_h_0_0, y_h_0_0, v_h_0_1, y_h_0_1, v_h_0_2, y_h_0_2, rfl, h_0_0, h_0_1, h_0_2, p_h_001, p_h_002, p_h_012, l_h_0_0, l_h_0_1, l_h_0_2, a_h_0_0, a_h_0_1, a_h_0_2, hb⟩
  have A_h_0_0 := Lib.hid a_h_0_0
  clear a_h_0_0
  have A_h_0_1 := Lib.hid a_h_0_1
  clear a_h_0_1
  have A_h_0_2 := Lib.hid a_h_0_2
  clear a_h_0_2
  obtain ⟨lo_h_0_0, hi_h_0_0, lo_h_0_1, hi_h_0_1, lo_h_0_2, hi_h_0_2, r_h_0_0, r_h_0_1, r_h_0_2, q_h_01, q_h_02, q_h_03, q_h_04, q_h_05, q_h_06, q_h_07, q_h_08, q_h_09, q_h_010, q_h_011, q_h_012⟩ := own_pt3 h_0_0 h_0_1 h_0_2 p_h_001 p_h_002 p_h_012 hb.size
  clear h_0_0 h_0_1 h_0_2 p_h_001 p_h_002 p_h_012
  have h_0_0 := r_h_0_0
  have h_0_1 := r_h_0_1
  have h_0_2 := r_h_0_2
  clear r_h_0_0 r_h_0_1 r_h_0_2
  obtain ⟨A_vh_0_0, c_h_0_0, rfl, -, -⟩ := h_0_0.rd
  obtain ⟨A_vh_0_1, c_h_0_1, rfl, -, -⟩ := h_0_1.rd
  obtain ⟨A_vh_0_2, c_h_0_2, rfl, -, -⟩ := h_0_2.rd
  replace w_0_0 := w_0_0.below hb
  replace w_0_1 := w_0_1.below hb
  replace w_0_2 := w_0_2.below hb
  replace g_0_0 := g_0_0.below hb
  replace g_0_1 := g_0_1.below hb
  replace g_0_2 := g_0_2.below hb
  replace ja_0 := ja_0.below hb
  replace ja_1 := ja_1.below hb
  replace ja_2 := ja_2.below hb
  replace jx := jx.below hb
  replace B_ba := B_ba.below hb
  replace B_zw_0 := B_zw_0.below hb
  replace B_zx_a := B_zx_a.below hb
  replace B_zg_0 := B_zg_0.below hb
  have hs_w23 : w22.heap.size ≤ w23.heap.size := hb.size
  replace hT := below_to hT hb hT.size
  clear hb
  clear l_ba k_ba_0 k_ba_1 k_ba_2 l_zw_0 k_zw_0_0 k_zw_0_1 k_zw_0_2 l_zx_a k_zx_a_0 k_zx_a_1 k_zx_a_2 l_zg_0 k_zg_0_0 k_zg_0_1 k_zg_0_2
  have l_ba := B_ba.lt
  have k_ba_0 := B_ba.cell 0 _ rfl
  have k_ba_1 := B_ba.cell 1 _ rfl
  have k_ba_2 := B_ba.cell 2 _ rfl
  have l_zw_0 := B_zw_0.lt
  have k_zw_0_0 := B_zw_0.cell 0 _ rfl
  have k_zw_0_1 := B_zw_0.cell 1 _ rfl
  have k_zw_0_2 := B_zw_0.cell 2 _ rfl
  have l_zx_a := B_zx_a.lt
  have k_zx_a_0 := B_zx_a.cell 0 _ rfl
  have k_zx_a_1 := B_zx_a.cell 1 _ rfl
  have k_zx_a_2 := B_zx_a.cell 2 _ rfl
  have l_zg_0 := B_zg_0.lt
  have k_zg_0_0 := B_zg_0.cell 0 _ rfl
  have k_zg_0_1 := B_zg_0.cell 1 _ rfl
  have k_zg_0_2 := B_zg_0.cell 2 _ rfl
  go_wp2_with fail
  have hb : Below w23.heap.size w23 (w23.alloc (.cells ([(.slice A_vh_0_0 y_h_0_0.length c_h_0_0), (.slice A_vh_0_1 y_h_0_1.length c_h_0_1), (.slice A_vh_0_2 y_h_0_2.length c_h_0_2)] : List Value).toArray 26)) := below_alloc _ _
  have B_zh_0 : BoxAt (w23.alloc (.cells ([(.slice A_vh_0_0 y_h_0_0.length c_h_0_0), (.slice A_vh_0_1 y_h_0_1.length c_h_0_1), (.slice A_vh_0_2 y_h_0_2.length c_h_0_2)] : List Value).toArray 26)) w23.heap.size [(.slice A_vh_0_0 y_h_0_0.length c_h_0_0), (.slice A_vh_0_1 y_h_0_1.length c_h_0_1), (.slice A_vh_0_2 y_h_0_2.length c_h_0_2)] := BoxAt.new _ _ _
  have hz_zh_0 : (w23.alloc (.cells ([(.slice A_vh_0_0 y_h_0_0.length c_h_0_0), (.slice A_vh_0_1 y_h_0_1.length c_h_0_1), (.slice A_vh_0_2 y_h_0_2.length c_h_0_2)] : List Value).toArray 26)).heap.size = w23.heap.size + 1 := size_alloc _ _
  generalize hg_zh_0 : World.alloc w23 _ = w24 at *
  clear hg_zh_0
  replace w_0_0 := w_0_0.below hb
  replace w_0_1 := w_0_1.below hb
  replace w_0_2 := w_0_2.below hb
  replace g_0_0 := g_0_0.below hb
  replace g_0_1 := g_0_1.below hb
  replace g_0_2 := g_0_2.below hb
  replace ja_0 := ja_0.below hb
  replace ja_1 := ja_1.below hb
  replace ja_2 := ja_2.below hb
  replace jx := jx.below hb
  replace h_0_0 := h_0_0.below hb
  replace h_0_1 := h_0_1.below hb
  replace h_0_2 := h_0_2.below hb
  replace B_ba := B_ba.below hb
  replace B_zw_0 := B_zw_0.below hb
  replace B_zx_a := B_zx_a.below hb
  replace B_zg_0 := B_zg_0.below hb
  have hs_w24 : w23.heap.size ≤ w24.heap.size := hb.size
  replace hT := below_to hT hb hT.size
  clear hb
  clear ja_0
  clear ja_1
  clear ja_2
  clear jx
  clear l_ba k_ba_0 k_ba_1 k_ba_2 l_zw_0 k_zw_0_0 k_zw_0_1 k_zw_0_2 l_zx_a k_zx_a_0 k_zx_a_1 k_zx_a_2 l_zg_0 k_zg_0_0 k_zg_0_1 k_zg_0_2
  have l_ba := B_ba.lt
  have k_ba_0 := B_ba.cell 0 _ rfl
  have k_ba_1 := B_ba.cell 1 _ rfl
  have k_ba_2 := B_ba.cell 2 _ rfl
  have l_zw_0 := B_zw_0.lt
  have k_zw_0_0 := B_zw_0.cell 0 _ rfl
  have k_zw_0_1 := B_zw_0.cell 1 _ rfl
  have k_zw_0_2 := B_zw_0.cell 2 _ rfl
  have l_zx_a := B_zx_a.lt
  have k_zx_a_0 := B_zx_a.cell 0 _ rfl
  have k_zx_a_1 := B_zx_a.cell 1 _ rfl
  have k_zx_a_2 := B_zx_a.cell 2 _ rfl
  have l_zg_0 := B_zg_0.lt
  have k_zg_0_0 := B_zg_0.cell 0 _ rfl
  have k_zg_0_1 := B_zg_0.cell 1 _ rfl
  have k_zg_0_2 := B_zg_0.cell 2 _ rfl
  have l_zh_0 := B_zh_0.lt
  have k_zh_0_0 := B_zh_0.cell 0 _ rfl
  have k_zh_0_1 := B_zh_0.cell 1 _ rfl
  have k_zh_0_2 := B_zh_0.cell 2 _ rfl
  go_wp2_with fail
  refine (eqMixture_any _ _ y_h_0_0 y_w_0_0 _ _ y_h_0_1 y_w_0_1 _ _ y_h_0_2 y_w_0_2 (Nat.le_trans l_h_0_0 (by omega)) (Nat.le_trans l_w_0_0 (by omega)) (Nat.le_trans l_h_0_1 (by omega)) (Nat.le_trans l_w_0_1 (by omega)) (Nat.le_trans l_h_0_2 (by omega)) (Nat.le_trans l_w_0_2 (by omega)) _ h_0_0.rd w_0_0.rd (A_h_0_0.out.trans A_w_0_0.out.symm) h_0_1.rd w_0_1.rd (A_h_0_1.out.trans A_w_0_1.out.symm) h_0_2.rd w_0_2.rd (A_h_0_2.out.trans A_w_0_2.out.symm)).mono ?_
  rintro e w25 ⟨rfl, hb⟩
  replace w_0_0 := w_0_0.below hb
  replace w_0_1 := w_0_1.below hb
  replace w_0_2 := w_0_2.below hb
  replace g_0_0 := g_0_0.below hb
  replace g_0_1 := g_0_1.below hb
  replace g_0_2 := g_0_2.below hb
  replace h_0_0 := h_0_0.below hb
  replace h_0_1 := h_0_1.below hb
  replace h_0_2 := h_0_2.below hb
  replace B_ba := B_ba.below hb
  replace B_zw_0 := B_zw_0.below hb
  replace B_zx_a := B_zx_a.below hb
  replace B_zg_0 := B_zg_0.below hb
  replace B_zh_0 := B_zh_0.below hb
  have hs_w25 : w24.heap.size ≤ w25.heap.size := hb.size
  replace hT := below_to hT hb hT.size
  clear hb
  clear l_ba k_ba_0 k_ba_1 k_ba_2 l_zw_0 k_zw_0_0 k_zw_0_1 k_zw_0_2 l_zx_a k_zx_a_0 k_zx_a_1 k_zx_a_2 l_zg_0 k_zg_0_0 k_zg_0_1 k_zg_0_2 l_zh_0 k_zh_0_0 k_zh_0_1 k_zh_0_2
  have l_ba := B_ba.lt
  have k_ba_0 := B_ba.cell 0 _ rfl
  have k_ba_1 := B_ba.cell 1 _ rfl
  have k_ba_2 := B_ba.cell 2 _ rfl
  have l_zw_0 := B_zw_0.lt
  have k_zw_0_0 := B_zw_0.cell 0 _ rfl
  have k_zw_0_1 := B_zw_0.cell 1 _ rfl
  have k_zw_0_2 := B_zw_0.cell 2 _ rfl
  have l_zx_a := B_zx_a.lt
  have k_zx_a_0 := B_zx_a.cell 0 _ rfl
  have k_zx_a_1 := B_zx_a.cell 1 _ rfl
  have k_zx_a_2 := B_zx_a.cell 2 _ rfl
  have l_zg_0 := B_zg_0.lt
  have k_zg_0_0 := B_zg_0.cell 0 _ rfl
  have k_zg_0_1 := B_zg_0.cell 1 _ rfl
  have k_zg_0_2 := B_zg_0.cell 2 _ rfl
  have l_zh_0 := B_zh_0.lt
  have k_zh_0_0 := B_zh_0.cell 0 _ rfl
  have k_zh_0_1 := B_zh_0.cell 1 _ rfl
  have k_zh_0_2 := B_zh_0.cell 2 _ rfl
  go_wp2_with fail
  refine (heldMixture_any _ y_g_0_0.length _ y_g_0_1.length _ y_g_0_2.length _ (by omega) (by omega) _ g_0_0.rd g_0_1.rd g_0_2.rd (by have := l_g_0_0; omega) (by have := l_g_0_1; omega) (by have := l_g_0_2; omega)).mono ?_
  rintro e w26 ⟨rfl, hb⟩
  replace w_0_0 := w_0_0.below hb
  replace w_0_1 := w_0_1.below hb
  replace w_0_2 := w_0_2.below hb
  replace g_0_0 := g_0_0.below hb
  replace g_0_1 := g_0_1.below hb
  replace g_0_2 := g_0_2.below hb
  replace h_0_0 := h_0_0.below hb
  replace h_0_1 := h_0_1.below hb
  replace h_0_2 := h_0_2.below hb
  replace B_ba := B_ba.below hb
  replace B_zw_0 := B_zw_0.below hb
  replace B_zx_a := B_zx_a.below hb
  replace B_zg_0 := B_zg_0.below hb
  replace B_zh_0 := B_zh_0.below hb
  have hs_w26 : w25.heap.size ≤ w26.heap.size := hb.size
  replace hT := below_to hT hb hT.size
  clear hb
  clear l_ba k_ba_0 k_ba_1 k_ba_2 l_zw_0 k_zw_0_0 k_zw_0_1 k_zw_0_2 l_zx_a k_zx_a_0 k_zx_a_1 k_zx_a_2 l_zg_0 k_zg_0_0 k_zg_0_1 k_zg_0_2 l_zh_0 k_zh_0_0 k_zh_0_1 k_zh_0_2
  have l_ba := B_ba.lt
  have k_ba_0 := B_ba.cell 0 _ rfl
  have k_ba_1 := B_ba.cell 1 _ rfl
  have k_ba_2 := B_ba.cell 2 _ rfl
  have l_zw_0 := B_zw_0.lt
  have k_zw_0_0 := B_zw_0.cell 0 _ rfl
  have k_zw_0_1 := B_zw_0.cell 1 _ rfl
  have k_zw_0_2 := B_zw_0.cell 2 _ rfl
  have l_zx_a := B_zx_a.lt
  have k_zx_a_0 := B_zx_a.cell 0 _ rfl
  have k_zx_a_1 := B_zx_a.cell 1 _ rfl
  have k_zx_a_2 := B_zx_a.cell 2 _ rfl
  have l_zg_0 := B_zg_0.lt
  have k_zg_0_0 := B_zg_0.cell 0 _ rfl
  have k_zg_0_1 := B_zg_0.cell 1 _ rfl
  have k_zg_0_2 := B_zg_0.cell 2 _ rfl
  have l_zh_0 := B_zh_0.lt
  have k_zh_0_0 := B_zh_0.cell 0 _ rfl
  have k_zh_0_1 := B_zh_0.cell 1 _ rfl
  have k_zh_0_2 := B_zh_0.cell 2 _ rfl
  go_wp2
  go_ret
  exact ⟨rfl, hT⟩

/-! The row's step, and the statement. -/
section
open Go.ChangeShapes Go.WideShapes Go.ChangeAt Go.RowKit
set_option maxRecDepth 100000 in
theorem lawFitMixture_lifted (os : Os) (started : os.Started) (H : Type) (enc : TypeId × Value → H) :
    ReturnsInHanded {} Try.checked os 3 .any (Rows.fnExactFitMixtureSpec.pre6 enc Try.prog Try.f3 Rows.fnExactFitMixtureRow.domain false) (Rows.fnExactFitMixtureSpec.post enc Try.prog Try.f3 false true false false) := by
  refine returnsInHanded_of_change (C := Try.checked) own_knob started (by kernel_rfl) Try.func3
    (ChangeSpec.witness6 (enc := enc) (C := Try.checked) false ⟨#[], #[.agg #[.slice none 0 0, .slice none 0 0, .slice none 0 0], .slice none 0 0, .int .i64 0], []⟩ 8 (by kernel_rfl) (by kernel_rfl) (by kernel_rfl) (by kernel_rfl)) ?_
  intro W base args ds gs before hval0 hW hcnd _
  have hval : ∀ (j : Nat) t v, Try.f3.params[j]? = some t → args[j]? = some v → Value.okWide Try.prog W .any base t v := hval0
  have hW' := hW
  obtain ⟨p, q, hA0, hV, rfl, hfz, hnd⟩ := hW
  have hA : DataW.TrodAll enc Try.prog W 0 (fun _ => true) true Try.f3.params.toList args.toList ds p := hA0
  have hold := fun x hx => hW'.lt x hx
  rw [Try.params3] at hA hval
  have hl : laidOutB Try.prog = true := by kernel_rfl
  obtain ⟨v0, vs0, d0, ds0, p0, q0, hargs, rfl, rfl, h0, r0⟩ := trodAll_cons hA
  obtain ⟨v1, vs1, d1, ds1, p1, q1, rfl, rfl, rfl, h1, r1⟩ := trodAll_cons r0
  obtain ⟨v2, vs2, d2, ds2, p2, q2, rfl, rfl, rfl, h2, r2⟩ := trodAll_cons r1
  obtain ⟨rfl, rfl, rfl⟩ := trodAll_nil r2
  obtain rfl : args = #[v0, v1, v2] := by cases args; simp_all
  obtain ⟨rfl, rfl⟩ := trodVars_none hV
  obtain ⟨sa0, xa0, sa1, xa1, sa2, xa2, rfl, hr00, hx00, hr01, hx01, hr02, hx02⟩ := open_mixture (hval 0 24 v0 rfl rfl) h0
  obtain ⟨A1, n1, c1, rfl⟩ := okWide_slice Try.underlying22 (hval 1 22 v1 rfl rfl)
  obtain ⟨xx, hr1⟩ := rd_of_trod fV Try.underlying22 (by kernel_rfl) (elem_float Try.underlying39) h1
  obtain ⟨n, rfl, -, -, w2⟩ := open_int Try.underlying2 (hval 2 2 v2 rfl rfl) h2
  clear hA0 hval0
  refine (lawFitMixture_any _ xa0 _ xa1 _ xa2 _ xx n W hr00 hx00 hr01 hx01 hr02 hx02 hr1).mono fun e W' ⟨he, hg⟩ => ?_
  subst he
  exact ⟨_, rfl, post_below (pa := _) (pv := []) hW' (fun _ _ _ => (trodAll_cons_mk (shut_bool Try.underlying4 _) trodAll_mk0)) (fun sp hsp => (trodAll_cons_mk (WideElems.Trod_stays hl (by kernel_rfl) (of_decide_eq_true (by kernel_rfl)) h0 (fun x hx => hg.same (hold x (by simp [hx]))) (fun x hx => hsp x (by simp [hx]))) (trodAll_cons_mk (WideElems.Trod_stays hl (by kernel_rfl) (of_decide_eq_true (by kernel_rfl)) h1 (fun x hx => hg.same (hold x (by simp [hx]))) (fun x hx => hsp x (by simp [hx]))) (trodAll_cons_mk (WideElems.Trod_stays hl (by kernel_rfl) (of_decide_eq_true (by kernel_rfl)) h2 (fun x hx => hg.same (hold x (by simp [hx]))) (fun x hx => hsp x (by simp [hx]))) trodAll_mk0)))) (fun _ _ => rfl) rfl
    hg (ok_one (by kernel_rfl) rfl (okWide_bool_mk Try.underlying4 _))⟩

theorem fnFitMixture_holds : Rows.FnExactFitMixtureSaid :=
  OpenClaim.holds_of_wide 3 Try.f3 rfl rfl rfl rfl rfl rfl rfl ⟨rfl, rfl, rfl, rfl, rfl⟩ rfl rfl rfl rfl rfl (by kernel_rfl) Try.func3 (by kernel_rfl)
    (of_decide_eq_true (by kernel_rfl)) (by unfold Func.isWrapper; first | (rw [if_pos (by decide +kernel)]; kernel_rfl) | (rw [if_neg (by decide +kernel)]; exact ⟨rfl, rfl⟩))
    (fun os started H enc _ => lawFitMixture_lifted os started H enc)
end
#print axioms fnFitMixture_holds
end Go.Proofs.Ytimpabceellihaa
