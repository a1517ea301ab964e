/-
  For every share and number: the program's SumShare returns what the reference's returns. No condition.
-/
import Derived.Test.YtkohhhmllekokaaSumSh
import Derived.Test.YtkohhhmllekokaaShareOpen
import Derived.Deep.RegionHeld3
namespace Go.Proofs.Ytkohhhmllekokaa
open Go.RowKit
attribute [local go_sem] run_up_


set_option maxHeartbeats 3200000 in
theorem lawSumShare_any (sa0 : Value) (xa0 : List Nat) (sa1 : Value) (xa1 : List Nat) (n : Int) (w : World) (hra0 : Rd fV w sa0 xa0) (hxa0 : xa0.length ≤ 9223372036854775807) (hra1 : Rd fV w sa1 xa1) (hxa1 : xa1.length ≤ 9223372036854775807) :
    Calls Try.prog 9 #[shV sa0 sa1, .int .i64 n] w fun e w' => e = .returned (.bool true) ∧ Below w.heap.size w w' := by
  have HRa0 := Lib.hid hra0
  obtain ⟨Aa0, capa0, rfl, hcapa0, hAa0⟩ := hra0
  clear hAa0
  have HRa1 := Lib.hid hra1
  obtain ⟨Aa1, capa1, rfl, hcapa1, hAa1⟩ := hra1
  clear hAa1
  go_enter Try.func9, Try.ntmps9
  go_wp2_with fail
  have B_ba : BoxAt (w.alloc (.cells ([.slice Aa0 xa0.length capa0, .slice Aa1 xa1.length capa1] : List Value).toArray 24)) (w.heap.size) [.slice Aa0 xa0.length capa0, .slice Aa1 xa1.length capa1] := by
    have := (BoxAt.new w [.slice Aa0 xa0.length capa0, .slice Aa1 xa1.length capa1] 24)
    exact this
  have hT : Below w.heap.size w (w.alloc (.cells ([.slice Aa0 xa0.length capa0, .slice Aa1 xa1.length capa1] : List Value).toArray 24)) := (Below.refl w.heap.size w).alloc (by exact Nat.le_refl _) _
  have hs_W0 : w.heap.size ≤ (w.alloc (.cells ([.slice Aa0 xa0.length capa0, .slice Aa1 xa1.length capa1] : List Value).toArray 24)).heap.size := hT.size
  generalize hg : (w.alloc (.cells ([.slice Aa0 xa0.length capa0, .slice Aa1 xa1.length capa1] : List Value).toArray 24)) = W0 at *
  clear hg
  refine (szShare_any _ xa0 _ xa1 (1048576) (by omega) (by omega) _ (HRa0.out.below hT) (HRa1.out.below hT) hxa0 hxa1).mono ?_
  rintro e w1 ⟨rfl, hb⟩
  replace B_ba := B_ba.below hb
  have hs_w1 : W0.heap.size ≤ w1.heap.size := hb.size
  replace hT := below_to hT hb hT.size
  clear hb
  by_cases hna : 1048576 < (xa0.length : Int) + (xa1.length : Int)
  · rw [if_pos hna]
    have l_ba := B_ba.lt
    have k_ba_0 := B_ba.cell 0 _ rfl
    have k_ba_1 := B_ba.cell 1 _ rfl
    go_wp2
    go_ret
    exact ⟨rfl, hT⟩
  rw [if_neg hna]
  have hma0 : xa0.length ≤ 1099511627776 := by omega
  have hma1 : xa1.length ≤ 1099511627776 := by omega
  have hd := Int.not_lt.1 hna
  clear hna
  have l_ba := B_ba.lt
  have k_ba_0 := B_ba.cell 0 _ rfl
  have k_ba_1 := B_ba.cell 1 _ rfl
  go_wp2_with fail
  refine (toShare_any _ xa0 _ xa1 hma0 hma1 _ (HRa0.out.below hT) (HRa1.out.below hT)).mono ?_
  rintro e w2 ⟨v_ia_0, v_ia_1, m_ia1, rfl, ia_0, ia_1, q_ia0, q_ia1, hb⟩
  obtain ⟨A_ia_0, c_ia_0, rfl, -, -⟩ := ia_0.rd
  obtain ⟨A_ia_1, c_ia_1, rfl, -, -⟩ := ia_1.rd
  replace B_ba := B_ba.below hb
  have hs_w2 : w1.heap.size ≤ w2.heap.size := hb.size
  replace hT := below_to hT hb hT.size
  clear hb
  clear l_ba k_ba_0 k_ba_1
  have l_ba := B_ba.lt
  have k_ba_0 := B_ba.cell 0 _ rfl
  have k_ba_1 := B_ba.cell 1 _ rfl
  go_wp2_with fail
  refine (specSumShare_any _ xa0 _ xa1 hma0 hma1 n _ ia_0.rd ia_1.rd).mono ?_
  rintro e w3 ⟨v_w_0_0, y_w_0_0, v_w_0_1, y_w_0_1, rfl, w_0_0, w_0_1, p_w_001, l_w_0_0, l_w_0_1, a_w_0_0, a_w_0_1, hb⟩
  have A_w_0_0 := Lib.hid a_w_0_0
  clear a_w_0_0
  have A_w_0_1 := Lib.hid a_w_0_1
  clear a_w_0_1
  obtain ⟨lo_w_0_0, hi_w_0_0, lo_w_0_1, hi_w_0_1, r_w_0_0, r_w_0_1, q_w_01, q_w_02, q_w_03, q_w_04, q_w_05, q_w_06, q_w_07⟩ := own_pt2 w_0_0 w_0_1 p_w_001 hb.size
  clear w_0_0 w_0_1 p_w_001
  have w_0_0 := r_w_0_0
  have w_0_1 := r_w_0_1
  clear r_w_0_0 r_w_0_1
  obtain ⟨A_vw_0_0, c_w_0_0, rfl, -, -⟩ := w_0_0.rd
  obtain ⟨A_vw_0_1, c_w_0_1, rfl, -, -⟩ := w_0_1.rd
  replace ia_0 := ia_0.below hb
  replace ia_1 := ia_1.below hb
  replace B_ba := B_ba.below hb
  have hs_w3 : w2.heap.size ≤ w3.heap.size := hb.size
  replace hT := below_to hT hb hT.size
  clear hb
  clear l_ba k_ba_0 k_ba_1
  have l_ba := B_ba.lt
  have k_ba_0 := B_ba.cell 0 _ rfl
  have k_ba_1 := B_ba.cell 1 _ rfl
  go_wp2_with fail
  have hb : Below w3.heap.size w3 (w3.alloc (.cells ([(.slice A_vw_0_0 y_w_0_0.length c_w_0_0), (.slice A_vw_0_1 y_w_0_1.length c_w_0_1)] : List Value).toArray 27)) := below_alloc _ _
  have B_zw_0 : BoxAt (w3.alloc (.cells ([(.slice A_vw_0_0 y_w_0_0.length c_w_0_0), (.slice A_vw_0_1 y_w_0_1.length c_w_0_1)] : List Value).toArray 27)) w3.heap.size [(.slice A_vw_0_0 y_w_0_0.length c_w_0_0), (.slice A_vw_0_1 y_w_0_1.length c_w_0_1)] := BoxAt.new _ _ _
  have hz_zw_0 : (w3.alloc (.cells ([(.slice A_vw_0_0 y_w_0_0.length c_w_0_0), (.slice A_vw_0_1 y_w_0_1.length c_w_0_1)] : List Value).toArray 27)).heap.size = w3.heap.size + 1 := size_alloc _ _
  generalize hg_zw_0 : World.alloc w3 _ = w4 at *
  clear hg_zw_0
  replace ia_0 := ia_0.below hb
  replace ia_1 := ia_1.below hb
  replace w_0_0 := w_0_0.below hb
  replace w_0_1 := w_0_1.below hb
  replace B_ba := B_ba.below hb
  have hs_w4 : w3.heap.size ≤ w4.heap.size := hb.size
  replace hT := below_to hT hb hT.size
  clear hb
  clear ia_0
  clear ia_1
  clear l_ba k_ba_0 k_ba_1
  have l_ba := B_ba.lt
  have k_ba_0 := B_ba.cell 0 _ rfl
  have k_ba_1 := B_ba.cell 1 _ rfl
  have l_zw_0 := B_zw_0.lt
  have k_zw_0_0 := B_zw_0.cell 0 _ rfl
  have k_zw_0_1 := B_zw_0.cell 1 _ rfl
  go_wp2_with fail
  refine (toShare_any _ xa0 _ xa1 hma0 hma1 _ (HRa0.out.below hT) (HRa1.out.below hT)).mono ?_
  rintro e w5 ⟨v_x_a_0, v_x_a_1, m_x_a1, rfl, x_a_0, x_a_1, q_x_a0, q_x_a1, hb⟩
  obtain ⟨A_x_a_0, c_x_a_0, rfl, -, -⟩ := x_a_0.rd
  obtain ⟨A_x_a_1, c_x_a_1, rfl, -, -⟩ := x_a_1.rd
  replace w_0_0 := w_0_0.below hb
  replace w_0_1 := w_0_1.below hb
  replace B_ba := B_ba.below hb
  replace B_zw_0 := B_zw_0.below hb
  have hs_w5 : w4.heap.size ≤ w5.heap.size := hb.size
  replace hT := below_to hT hb hT.size
  clear hb
  clear l_ba k_ba_0 k_ba_1 l_zw_0 k_zw_0_0 k_zw_0_1
  have l_ba := B_ba.lt
  have k_ba_0 := B_ba.cell 0 _ rfl
  have k_ba_1 := B_ba.cell 1 _ rfl
  have l_zw_0 := B_zw_0.lt
  have k_zw_0_0 := B_zw_0.cell 0 _ rfl
  have k_zw_0_1 := B_zw_0.cell 1 _ rfl
  go_wp2_with fail
  have hb : Below w5.heap.size w5 (w5.alloc (.cells ([(.slice A_x_a_0 xa0.length c_x_a_0), (.slice A_x_a_1 xa1.length c_x_a_1)] : List Value).toArray 27)) := below_alloc _ _
  have B_zx_a : BoxAt (w5.alloc (.cells ([(.slice A_x_a_0 xa0.length c_x_a_0), (.slice A_x_a_1 xa1.length c_x_a_1)] : List Value).toArray 27)) w5.heap.size [(.slice A_x_a_0 xa0.length c_x_a_0), (.slice A_x_a_1 xa1.length c_x_a_1)] := BoxAt.new _ _ _
  have hz_zx_a : (w5.alloc (.cells ([(.slice A_x_a_0 xa0.length c_x_a_0), (.slice A_x_a_1 xa1.length c_x_a_1)] : List Value).toArray 27)).heap.size = w5.heap.size + 1 := size_alloc _ _
  generalize hg_zx_a : World.alloc w5 _ = w6 at *
  clear hg_zx_a
  replace w_0_0 := w_0_0.below hb
  replace w_0_1 := w_0_1.below hb
  replace x_a_0 := x_a_0.below hb
  replace x_a_1 := x_a_1.below hb
  replace B_ba := B_ba.below hb
  replace B_zw_0 := B_zw_0.below hb
  have hs_w6 : w5.heap.size ≤ w6.heap.size := hb.size
  replace hT := below_to hT hb hT.size
  clear hb
  clear l_ba k_ba_0 k_ba_1 l_zw_0 k_zw_0_0 k_zw_0_1
  have l_ba := B_ba.lt
  have k_ba_0 := B_ba.cell 0 _ rfl
  have k_ba_1 := B_ba.cell 1 _ rfl
  have l_zw_0 := B_zw_0.lt
  have k_zw_0_0 := B_zw_0.cell 0 _ rfl
  have k_zw_0_1 := B_zw_0.cell 1 _ rfl
  have l_zx_a := B_zx_a.lt
  have k_zx_a_0 := B_zx_a.cell 0 _ rfl
  have k_zx_a_1 := B_zx_a.cell 1 _ rfl
  go_wp2_with fail
  refine (implSumShare_any _ xa0 _ xa1 hma0 hma1 n _ x_a_0.rd x_a_1.rd).mono ?_
  rintro e w7 ⟨v_g_0_0, y_g_0_0, v_g_0_1, y_g_0_1, rfl, g_0_0, g_0_1, p_g_001, l_g_0_0, l_g_0_1, a_g_0_0, a_g_0_1, hb⟩
  have A_g_0_0 := Lib.hid a_g_0_0
  clear a_g_0_0
  have A_g_0_1 := Lib.hid a_g_0_1
  clear a_g_0_1
  obtain ⟨lo_g_0_0, hi_g_0_0, lo_g_0_1, hi_g_0_1, r_g_0_0, r_g_0_1, q_g_01, q_g_02, q_g_03, q_g_04, q_g_05, q_g_06, q_g_07⟩ := own_pt2 g_0_0 g_0_1 p_g_001 hb.size
  clear g_0_0 g_0_1 p_g_001
  have g_0_0 := r_g_0_0
  have g_0_1 := r_g_0_1
  clear r_g_0_0 r_g_0_1
  obtain ⟨A_vg_0_0, c_g_0_0, rfl, -, -⟩ := g_0_0.rd
  obtain ⟨A_vg_0_1, c_g_0_1, rfl, -, -⟩ := g_0_1.rd
  replace w_0_0 := w_0_0.below hb
  replace w_0_1 := w_0_1.below hb
  replace x_a_0 := x_a_0.below hb
  replace x_a_1 := x_a_1.below hb
  replace B_ba := B_ba.below hb
  replace B_zw_0 := B_zw_0.below hb
  replace B_zx_a := B_zx_a.below hb
  have hs_w7 : w6.heap.size ≤ w7.heap.size := hb.size
  replace hT := below_to hT hb hT.size
  clear hb
  clear l_ba k_ba_0 k_ba_1 l_zw_0 k_zw_0_0 k_zw_0_1 l_zx_a k_zx_a_0 k_zx_a_1
  have l_ba := B_ba.lt
  have k_ba_0 := B_ba.cell 0 _ rfl
  have k_ba_1 := B_ba.cell 1 _ rfl
  have l_zw_0 := B_zw_0.lt
  have k_zw_0_0 := B_zw_0.cell 0 _ rfl
  have k_zw_0_1 := B_zw_0.cell 1 _ rfl
  have l_zx_a := B_zx_a.lt
  have k_zx_a_0 := B_zx_a.cell 0 _ rfl
  have k_zx_a_1 := B_zx_a.cell 1 _ rfl
  go_wp2_with fail
  have hb : Below w7.heap.size w7 (w7.alloc (.cells ([(.slice A_vg_0_0 y_g_0_0.length c_g_0_0), (.slice A_vg_0_1 y_g_0_1.length c_g_0_1)] : List Value).toArray 27)) := below_alloc _ _
  have B_zg_0 : BoxAt (w7.alloc (.cells ([(.slice A_vg_0_0 y_g_0_0.length c_g_0_0), (.slice A_vg_0_1 y_g_0_1.length c_g_0_1)] : List Value).toArray 27)) w7.heap.size [(.slice A_vg_0_0 y_g_0_0.length c_g_0_0), (.slice A_vg_0_1 y_g_0_1.length c_g_0_1)] := BoxAt.new _ _ _
  have hz_zg_0 : (w7.alloc (.cells ([(.slice A_vg_0_0 y_g_0_0.length c_g_0_0), (.slice A_vg_0_1 y_g_0_1.length c_g_0_1)] : List Value).toArray 27)).heap.size = w7.heap.size + 1 := size_alloc _ _
  generalize hg_zg_0 : World.alloc w7 _ = w8 at *
  clear hg_zg_0
  replace w_0_0 := w_0_0.below hb
  replace w_0_1 := w_0_1.below hb
  replace x_a_0 := x_a_0.below hb
  replace x_a_1 := x_a_1.below hb
  replace g_0_0 := g_0_0.below hb
  replace g_0_1 := g_0_1.below hb
  replace B_ba := B_ba.below hb
  replace B_zw_0 := B_zw_0.below hb
  replace B_zx_a := B_zx_a.below hb
  have hs_w8 : w7.heap.size ≤ w8.heap.size := hb.size
  replace hT := below_to hT hb hT.size
  clear hb
  clear l_ba k_ba_0 k_ba_1 l_zw_0 k_zw_0_0 k_zw_0_1 l_zx_a k_zx_a_0 k_zx_a_1
  have l_ba := B_ba.lt
  have k_ba_0 := B_ba.cell 0 _ rfl
  have k_ba_1 := B_ba.cell 1 _ rfl
  have l_zw_0 := B_zw_0.lt
  have k_zw_0_0 := B_zw_0.cell 0 _ rfl
  have k_zw_0_1 := B_zw_0.cell 1 _ rfl
  have l_zx_a := B_zx_a.lt
  have k_zx_a_0 := B_zx_a.cell 0 _ rfl
  have k_zx_a_1 := B_zx_a.cell 1 _ rfl
  have l_zg_0 := B_zg_0.lt
  have k_zg_0_0 := B_zg_0.cell 0 _ rfl
  have k_zg_0_1 := B_zg_0.cell 1 _ rfl
  go_wp2_with fail
  refine (eqShare_any _ _ y_g_0_0 y_w_0_0 _ _ y_g_0_1 y_w_0_1 (Nat.le_trans l_g_0_0 (by omega)) (Nat.le_trans l_w_0_0 (by omega)) (Nat.le_trans l_g_0_1 (by omega)) (Nat.le_trans l_w_0_1 (by omega)) _ g_0_0.rd w_0_0.rd (A_g_0_0.out.trans A_w_0_0.out.symm) g_0_1.rd w_0_1.rd (A_g_0_1.out.trans A_w_0_1.out.symm)).mono ?_
  rintro e w9 ⟨rfl, hb⟩
  replace w_0_0 := w_0_0.below hb
  replace w_0_1 := w_0_1.below hb
  replace x_a_0 := x_a_0.below hb
  replace x_a_1 := x_a_1.below hb
  replace g_0_0 := g_0_0.below hb
  replace g_0_1 := g_0_1.below hb
  replace B_ba := B_ba.below hb
  replace B_zw_0 := B_zw_0.below hb
  replace B_zx_a := B_zx_a.below hb
  replace B_zg_0 := B_zg_0.below hb
  have hs_w9 : w8.heap.size ≤ w9.heap.size := hb.size
  replace hT := below_to hT hb hT.size
  clear hb
  clear l_ba k_ba_0 k_ba_1 l_zw_0 k_zw_0_0 k_zw_0_1 l_zx_a k_zx_a_0 k_zx_a_1 l_zg_0 k_zg_0_0 k_zg_0_1
  have l_ba := B_ba.lt
  have k_ba_0 := B_ba.cell 0 _ rfl
  have k_ba_1 := B_ba.cell 1 _ rfl
  have l_zw_0 := B_zw_0.lt
  have k_zw_0_0 := B_zw_0.cell 0 _ rfl
  have k_zw_0_1 := B_zw_0.cell 1 _ rfl
  have l_zx_a := B_zx_a.lt
  have k_zx_a_0 := B_zx_a.cell 0 _ rfl
  have k_zx_a_1 := B_zx_a.cell 1 _ rfl
  have l_zg_0 := B_zg_0.lt
  have k_zg_0_0 := B_zg_0.cell 0 _ rfl
  have k_zg_0_1 := B_zg_0.cell 1 _ rfl
  have hlt_ba := B_ba.lt
  have hlt_zw_0 := B_zw_0.lt
  have hlt_zx_a := B_zx_a.lt
  have hlt_zg_0 := B_zg_0.lt
  go_wp2
  go_region_held3 (fun w' => w'.cell? ⟨w5.heap.size, 0, none⟩ = some ((.slice A_x_a_0 xa0.length c_x_a_0)) ∧ w'.cell? ⟨w5.heap.size, 1, none⟩ = some ((.slice A_x_a_1 xa1.length c_x_a_1)) ∧ w'.cell? ⟨w.heap.size, 0, none⟩ = some (.slice Aa0 xa0.length capa0) ∧ w'.cell? ⟨w.heap.size, 1, none⟩ = some (.slice Aa1 xa1.length capa1))
    (first
      | go_keep
      | (go_split_ands; refine ⟨?_, ?_, ?_, ?_⟩ <;> (rw [hb11.cell (by have z0 := hb10.size; simp at z0 ⊢; omega)]; assumption))
      | (go_split_ands; refine ⟨?_, ?_, ?_, ?_⟩ <;> (rw [hb10.cell (by  try simp; omega)]; assumption)))
    (first
      | (go_at_call 14; refine (toShare_any _ xa0 _ xa1 hma0 hma1 _ ?_ ?_).mono ?_; (exact HRa0.out.below (hT.drew)); (exact HRa1.out.below (hT.drew)); rintro e w10 ⟨v_ita_0, v_ita_1, m_ita1, rfl, ita_0, ita_1, -, -, hb10⟩)
      | (go_at_call 16; refine (eqShare_any _ _ xa0 xa0 _ _ xa1 xa1 hma0 hma0 hma1 hma1 _ ?_ ?_ rfl ?_ ?_ rfl).mono ?_; (exact ((x_a_0.below ((Below.refl _ _).drew)).below hb10).rd); (exact ita_0.rd); (exact ((x_a_1.below ((Below.refl _ _).drew)).below hb10).rd); (exact ita_1.rd); rintro e w11 ⟨rfl, hb11⟩))
  have hb : Below w9.heap.size w9 w11 := below_to (below_to ((Below.refl w9.heap.size w9).drew) hb10 (by simp)) hb11 (by have z0 := hb10.size; simp at z0 ⊢; omega)
  clear ita_0 ita_1 hb10 hb11 hlt_ba hlt_zw_0 hlt_zx_a hlt_zg_0
  replace w_0_0 := w_0_0.below hb
  replace w_0_1 := w_0_1.below hb
  replace x_a_0 := x_a_0.below hb
  replace x_a_1 := x_a_1.below hb
  replace g_0_0 := g_0_0.below hb
  replace g_0_1 := g_0_1.below hb
  replace B_ba := B_ba.below hb
  replace B_zw_0 := B_zw_0.below hb
  replace B_zx_a := B_zx_a.below hb
  replace B_zg_0 := B_zg_0.below hb
  have hs_w11 : w9.heap.size ≤ w11.heap.size := hb.size
  replace hT := below_to hT hb hT.size
  clear hb
  clear l_ba k_ba_0 k_ba_1 l_zw_0 k_zw_0_0 k_zw_0_1 l_zx_a k_zx_a_0 k_zx_a_1 l_zg_0 k_zg_0_0 k_zg_0_1
  have l_ba := B_ba.lt
  have k_ba_0 := B_ba.cell 0 _ rfl
  have k_ba_1 := B_ba.cell 1 _ rfl
  have l_zw_0 := B_zw_0.lt
  have k_zw_0_0 := B_zw_0.cell 0 _ rfl
  have k_zw_0_1 := B_zw_0.cell 1 _ rfl
  have l_zx_a := B_zx_a.lt
  have k_zx_a_0 := B_zx_a.cell 0 _ rfl
  have k_zx_a_1 := B_zx_a.cell 1 _ rfl
  have l_zg_0 := B_zg_0.lt
  have k_zg_0_0 := B_zg_0.cell 0 _ rfl
  have k_zg_0_1 := B_zg_0.cell 1 _ rfl
  go_wp2_with fail
  refine (markShare_any _ _ _ _ _ (by omega) (by omega) _ _ _ _ _ x_a_0 x_a_1 (by have := hma0; omega) (by have := hma1; omega) (by omega) (by omega) (by omega) (by omega) (by omega)).mono ?_
  rintro e w12 ⟨w12V0, w12V1, rfl, hb, ht0, ht1, om0, om1⟩
  have hs_w12V0 : w11.heap.size ≤ w12V0.heap.size := hb.size
  have hs_w12V1 : w12V0.heap.size ≤ w12V1.heap.size := ht0.size
  have hs_w12 : w12V1.heap.size ≤ w12.heap.size := ht1.size
  replace w_0_0 := ((w_0_0.below hb).touch ht0 (by omega)).touch ht1 (by omega)
  replace w_0_1 := ((w_0_1.below hb).touch ht0 (by omega)).touch ht1 (by omega)
  replace g_0_0 := ((g_0_0.below hb).touch ht0 (by omega)).touch ht1 (by omega)
  replace g_0_1 := ((g_0_1.below hb).touch ht0 (by omega)).touch ht1 (by omega)
  replace B_ba := ((B_ba.below hb).touch ht0 (by omega)).touch ht1 (by omega)
  replace B_zw_0 := ((B_zw_0.below hb).touch ht0 (by omega)).touch ht1 (by omega)
  replace B_zx_a := ((B_zx_a.below hb).touch ht0 (by omega)).touch ht1 (by omega)
  replace B_zg_0 := ((B_zg_0.below hb).touch ht0 (by omega)).touch ht1 (by omega)
  replace hT := ((below_to hT hb hT.size).trans (ht0.below (by omega) (by omega))).trans (ht1.below (by omega) (by omega))
  have x_a_0 := om0
  have x_a_1 := om1
  clear hb ht0 ht1 om0 om1
  clear x_a_0
  clear x_a_1
  clear l_ba k_ba_0 k_ba_1 l_zw_0 k_zw_0_0 k_zw_0_1 l_zx_a k_zx_a_0 k_zx_a_1 l_zg_0 k_zg_0_0 k_zg_0_1
  have l_ba := B_ba.lt
  have k_ba_0 := B_ba.cell 0 _ rfl
  have k_ba_1 := B_ba.cell 1 _ rfl
  have l_zw_0 := B_zw_0.lt
  have k_zw_0_0 := B_zw_0.cell 0 _ rfl
  have k_zw_0_1 := B_zw_0.cell 1 _ rfl
  have l_zx_a := B_zx_a.lt
  have k_zx_a_0 := B_zx_a.cell 0 _ rfl
  have k_zx_a_1 := B_zx_a.cell 1 _ rfl
  have l_zg_0 := B_zg_0.lt
  have k_zg_0_0 := B_zg_0.cell 0 _ rfl
  have k_zg_0_1 := B_zg_0.cell 1 _ rfl
  go_wp2_with fail
  refine (eqShare_any _ _ y_g_0_0 y_w_0_0 _ _ y_g_0_1 y_w_0_1 (Nat.le_trans l_g_0_0 (by omega)) (Nat.le_trans l_w_0_0 (by omega)) (Nat.le_trans l_g_0_1 (by omega)) (Nat.le_trans l_w_0_1 (by omega)) _ g_0_0.rd w_0_0.rd (A_g_0_0.out.trans A_w_0_0.out.symm) g_0_1.rd w_0_1.rd (A_g_0_1.out.trans A_w_0_1.out.symm)).mono ?_
  rintro e w13 ⟨rfl, hb⟩
  replace w_0_0 := w_0_0.below hb
  replace w_0_1 := w_0_1.below hb
  replace g_0_0 := g_0_0.below hb
  replace g_0_1 := g_0_1.below hb
  replace B_ba := B_ba.below hb
  replace B_zw_0 := B_zw_0.below hb
  replace B_zx_a := B_zx_a.below hb
  replace B_zg_0 := B_zg_0.below hb
  have hs_w13 : w12.heap.size ≤ w13.heap.size := hb.size
  replace hT := below_to hT hb hT.size
  clear hb
  clear l_ba k_ba_0 k_ba_1 l_zw_0 k_zw_0_0 k_zw_0_1 l_zx_a k_zx_a_0 k_zx_a_1 l_zg_0 k_zg_0_0 k_zg_0_1
  have l_ba := B_ba.lt
  have k_ba_0 := B_ba.cell 0 _ rfl
  have k_ba_1 := B_ba.cell 1 _ rfl
  have l_zw_0 := B_zw_0.lt
  have k_zw_0_0 := B_zw_0.cell 0 _ rfl
  have k_zw_0_1 := B_zw_0.cell 1 _ rfl
  have l_zx_a := B_zx_a.lt
  have k_zx_a_0 := B_zx_a.cell 0 _ rfl
  have k_zx_a_1 := B_zx_a.cell 1 _ rfl
  have l_zg_0 := B_zg_0.lt
  have k_zg_0_0 := B_zg_0.cell 0 _ rfl
  have k_zg_0_1 := B_zg_0.cell 1 _ rfl
  go_wp2_with fail
  refine (markShare_any _ _ _ _ _ (by omega) (by omega) _ _ _ _ _ g_0_0 g_0_1 (by have := l_g_0_0; omega) (by have := l_g_0_1; omega) (by omega) (by omega) (by omega) (by omega) (by omega)).mono ?_
  rintro e w14 ⟨w14V0, w14V1, rfl, hb, ht0, ht1, om0, om1⟩
  have hs_w14V0 : w13.heap.size ≤ w14V0.heap.size := hb.size
  have hs_w14V1 : w14V0.heap.size ≤ w14V1.heap.size := ht0.size
  have hs_w14 : w14V1.heap.size ≤ w14.heap.size := ht1.size
  replace w_0_0 := ((w_0_0.below hb).touch ht0 (by omega)).touch ht1 (by omega)
  replace w_0_1 := ((w_0_1.below hb).touch ht0 (by omega)).touch ht1 (by omega)
  replace B_ba := ((B_ba.below hb).touch ht0 (by omega)).touch ht1 (by omega)
  replace B_zw_0 := ((B_zw_0.below hb).touch ht0 (by omega)).touch ht1 (by omega)
  replace B_zx_a := ((B_zx_a.below hb).touch ht0 (by omega)).touch ht1 (by omega)
  replace B_zg_0 := ((B_zg_0.below hb).touch ht0 (by omega)).touch ht1 (by omega)
  replace hT := ((below_to hT hb hT.size).trans (ht0.below (by omega) (by omega))).trans (ht1.below (by omega) (by omega))
  have g_0_0 := om0
  have g_0_1 := om1
  clear hb ht0 ht1 om0 om1
  clear l_ba k_ba_0 k_ba_1 l_zw_0 k_zw_0_0 k_zw_0_1 l_zx_a k_zx_a_0 k_zx_a_1 l_zg_0 k_zg_0_0 k_zg_0_1
  have l_ba := B_ba.lt
  have k_ba_0 := B_ba.cell 0 _ rfl
  have k_ba_1 := B_ba.cell 1 _ rfl
  have l_zw_0 := B_zw_0.lt
  have k_zw_0_0 := B_zw_0.cell 0 _ rfl
  have k_zw_0_1 := B_zw_0.cell 1 _ rfl
  have l_zx_a := B_zx_a.lt
  have k_zx_a_0 := B_zx_a.cell 0 _ rfl
  have k_zx_a_1 := B_zx_a.cell 1 _ rfl
  have l_zg_0 := B_zg_0.lt
  have k_zg_0_0 := B_zg_0.cell 0 _ rfl
  have k_zg_0_1 := B_zg_0.cell 1 _ rfl
  go_wp2_with fail
  refine (heldShare_any _ y_g_0_0.length _ y_g_0_1.length _ (by omega) (by omega) _ g_0_0.rd g_0_1.rd (by have := l_g_0_0; omega) (by have := l_g_0_1; omega)).mono ?_
  rintro e w15 ⟨rfl, hb⟩
  replace w_0_0 := w_0_0.below hb
  replace w_0_1 := w_0_1.below hb
  replace g_0_0 := g_0_0.below hb
  replace g_0_1 := g_0_1.below hb
  replace B_ba := B_ba.below hb
  replace B_zw_0 := B_zw_0.below hb
  replace B_zx_a := B_zx_a.below hb
  replace B_zg_0 := B_zg_0.below hb
  have hs_w15 : w14.heap.size ≤ w15.heap.size := hb.size
  replace hT := below_to hT hb hT.size
  clear hb
  clear l_ba k_ba_0 k_ba_1 l_zw_0 k_zw_0_0 k_zw_0_1 l_zx_a k_zx_a_0 k_zx_a_1 l_zg_0 k_zg_0_0 k_zg_0_1
  have l_ba := B_ba.lt
  have k_ba_0 := B_ba.cell 0 _ rfl
  have k_ba_1 := B_ba.cell 1 _ rfl
  have l_zw_0 := B_zw_0.lt
  have k_zw_0_0 := B_zw_0.cell 0 _ rfl
  have k_zw_0_1 := B_zw_0.cell 1 _ rfl
  have l_zx_a := B_zx_a.lt
  have k_zx_a_0 := B_zx_a.cell 0 _ rfl
  have k_zx_a_1 := B_zx_a.cell 1 _ rfl
  have l_zg_0 := B_zg_0.lt
  have k_zg_0_0 := B_zg_0.cell 0 _ rfl
  have k_zg_0_1 := B_zg_0.cell 1 _ rfl
  go_wp2_with fail
  refine (toShare_any _ xa0 _ xa1 hma0 hma1 _ (HRa0.out.below hT) (HRa1.out.below hT)).mono ?_
  rintro e w16 ⟨v_ja_0, v_ja_1, m_ja1, rfl, ja_0, ja_1, q_ja0, q_ja1, hb⟩
  obtain ⟨A_ja_0, c_ja_0, rfl, -, -⟩ := ja_0.rd
  obtain ⟨A_ja_1, c_ja_1, rfl, -, -⟩ := ja_1.rd
  replace w_0_0 := w_0_0.below hb
  replace w_0_1 := w_0_1.below hb
  replace g_0_0 := g_0_0.below hb
  replace g_0_1 := g_0_1.below hb
  replace B_ba := B_ba.below hb
  replace B_zw_0 := B_zw_0.below hb
  replace B_zx_a := B_zx_a.below hb
  replace B_zg_0 := B_zg_0.below hb
  have hs_w16 : w15.heap.size ≤ w16.heap.size := hb.size
  replace hT := below_to hT hb hT.size
  clear hb
  clear l_ba k_ba_0 k_ba_1 l_zw_0 k_zw_0_0 k_zw_0_1 l_zx_a k_zx_a_0 k_zx_a_1 l_zg_0 k_zg_0_0 k_zg_0_1
  have l_ba := B_ba.lt
  have k_ba_0 := B_ba.cell 0 _ rfl
  have k_ba_1 := B_ba.cell 1 _ rfl
  have l_zw_0 := B_zw_0.lt
  have k_zw_0_0 := B_zw_0.cell 0 _ rfl
  have k_zw_0_1 := B_zw_0.cell 1 _ rfl
  have l_zx_a := B_zx_a.lt
  have k_zx_a_0 := B_zx_a.cell 0 _ rfl
  have k_zx_a_1 := B_zx_a.cell 1 _ rfl
  have l_zg_0 := B_zg_0.lt
  have k_zg_0_0 := B_zg_0.cell 0 _ rfl
  have k_zg_0_1 := B_zg_0.cell 1 _ rfl
  go_wp2_with fail
  refine (implSumShare_any _ xa0 _ xa1 hma0 hma1 n _ ja_0.rd ja_1.rd).mono ?_
  rintro e w17 ⟨v_h_0_0, y_h_0_0, v_h_0_1, y_h_0_1, rfl, h_0_0, h_0_1, p_h_001, l_h_0_0, l_h_0_1, a_h_0_0, a_h_0_1, hb⟩
  have A_h_0_0 := Lib.hid a_h_0_0
  clear a_h_0_0
  have A_h_0_1 := Lib.hid a_h_0_1
  clear a_h_0_1
  obtain ⟨lo_h_0_0, hi_h_0_0, lo_h_0_1, hi_h_0_1, r_h_0_0, r_h_0_1, q_h_01, q_h_02, q_h_03, q_h_04, q_h_05, q_h_06, q_h_07⟩ := own_pt2 h_0_0 h_0_1 p_h_001 hb.size
  clear h_0_0 h_0_1 p_h_001
  have h_0_0 := r_h_0_0
  have h_0_1 := r_h_0_1
  clear r_h_0_0 r_h_0_1
  obtain ⟨A_vh_0_0, c_h_0_0, rfl, -, -⟩ := h_0_0.rd
  obtain ⟨A_vh_0_1, c_h_0_1, rfl, -, -⟩ := h_0_1.rd
  replace w_0_0 := w_0_0.below hb
  replace w_0_1 := w_0_1.below hb
  replace g_0_0 := g_0_0.below hb
  replace g_0_1 := g_0_1.below hb
  replace ja_0 := ja_0.below hb
  replace ja_1 := ja_1.below hb
  replace B_ba := B_ba.below hb
  replace B_zw_0 := B_zw_0.below hb
  replace B_zx_a := B_zx_a.below hb
  replace B_zg_0 := B_zg_0.below hb
  have hs_w17 : w16.heap.size ≤ w17.heap.size := hb.size
  replace hT := below_to hT hb hT.size
  clear hb
  clear l_ba k_ba_0 k_ba_1 l_zw_0 k_zw_0_0 k_zw_0_1 l_zx_a k_zx_a_0 k_zx_a_1 l_zg_0 k_zg_0_0 k_zg_0_1
  have l_ba := B_ba.lt
  have k_ba_0 := B_ba.cell 0 _ rfl
  have k_ba_1 := B_ba.cell 1 _ rfl
  have l_zw_0 := B_zw_0.lt
  have k_zw_0_0 := B_zw_0.cell 0 _ rfl
  have k_zw_0_1 := B_zw_0.cell 1 _ rfl
  have l_zx_a := B_zx_a.lt
  have k_zx_a_0 := B_zx_a.cell 0 _ rfl
  have k_zx_a_1 := B_zx_a.cell 1 _ rfl
  have l_zg_0 := B_zg_0.lt
  have k_zg_0_0 := B_zg_0.cell 0 _ rfl
  have k_zg_0_1 := B_zg_0.cell 1 _ rfl
  go_wp2_with fail
  have hb : Below w17.heap.size w17 (w17.alloc (.cells ([(.slice A_vh_0_0 y_h_0_0.length c_h_0_0), (.slice A_vh_0_1 y_h_0_1.length c_h_0_1)] : List Value).toArray 27)) := below_alloc _ _
  have B_zh_0 : BoxAt (w17.alloc (.cells ([(.slice A_vh_0_0 y_h_0_0.length c_h_0_0), (.slice A_vh_0_1 y_h_0_1.length c_h_0_1)] : List Value).toArray 27)) w17.heap.size [(.slice A_vh_0_0 y_h_0_0.length c_h_0_0), (.slice A_vh_0_1 y_h_0_1.length c_h_0_1)] := BoxAt.new _ _ _
  have hz_zh_0 : (w17.alloc (.cells ([(.slice A_vh_0_0 y_h_0_0.length c_h_0_0), (.slice A_vh_0_1 y_h_0_1.length c_h_0_1)] : List Value).toArray 27)).heap.size = w17.heap.size + 1 := size_alloc _ _
  generalize hg_zh_0 : World.alloc w17 _ = w18 at *
  clear hg_zh_0
  replace w_0_0 := w_0_0.below hb
  replace w_0_1 := w_0_1.below hb
  replace g_0_0 := g_0_0.below hb
  replace g_0_1 := g_0_1.below hb
  replace ja_0 := ja_0.below hb
  replace ja_1 := ja_1.below hb
  replace h_0_0 := h_0_0.below hb
  replace h_0_1 := h_0_1.below hb
  replace B_ba := B_ba.below hb
  replace B_zw_0 := B_zw_0.below hb
  replace B_zx_a := B_zx_a.below hb
  replace B_zg_0 := B_zg_0.below hb
  have hs_w18 : w17.heap.size ≤ w18.heap.size := hb.size
  replace hT := below_to hT hb hT.size
  clear hb
  clear ja_0
  clear ja_1
  clear l_ba k_ba_0 k_ba_1 l_zw_0 k_zw_0_0 k_zw_0_1 l_zx_a k_zx_a_0 k_zx_a_1 l_zg_0 k_zg_0_0 k_zg_0_1
  have l_ba := B_ba.lt
  have k_ba_0 := B_ba.cell 0 _ rfl
  have k_ba_1 := B_ba.cell 1 _ rfl
  have l_zw_0 := B_zw_0.lt
  have k_zw_0_0 := B_zw_0.cell 0 _ rfl
  have k_zw_0_1 := B_zw_0.cell 1 _ rfl
  have l_zx_a := B_zx_a.lt
  have k_zx_a_0 := B_zx_a.cell 0 _ rfl
  have k_zx_a_1 := B_zx_a.cell 1 _ rfl
  have l_zg_0 := B_zg_0.lt
  have k_zg_0_0 := B_zg_0.cell 0 _ rfl
  have k_zg_0_1 := B_zg_0.cell 1 _ rfl
  have l_zh_0 := B_zh_0.lt
  have k_zh_0_0 := B_zh_0.cell 0 _ rfl
  have k_zh_0_1 := B_zh_0.cell 1 _ rfl
  go_wp2_with fail
  refine (eqShare_any _ _ y_h_0_0 y_w_0_0 _ _ y_h_0_1 y_w_0_1 (Nat.le_trans l_h_0_0 (by omega)) (Nat.le_trans l_w_0_0 (by omega)) (Nat.le_trans l_h_0_1 (by omega)) (Nat.le_trans l_w_0_1 (by omega)) _ h_0_0.rd w_0_0.rd (A_h_0_0.out.trans A_w_0_0.out.symm) h_0_1.rd w_0_1.rd (A_h_0_1.out.trans A_w_0_1.out.symm)).mono ?_
  rintro e w19 ⟨rfl, hb⟩
  replace w_0_0 := w_0_0.below hb
  replace w_0_1 := w_0_1.below hb
  replace g_0_0 := g_0_0.below hb
  replace g_0_1 := g_0_1.below hb
  replace h_0_0 := h_0_0.below hb
  replace h_0_1 := h_0_1.below hb
  replace B_ba := B_ba.below hb
  replace B_zw_0 := B_zw_0.below hb
  replace B_zx_a := B_zx_a.below hb
  replace B_zg_0 := B_zg_0.below hb
  replace B_zh_0 := B_zh_0.below hb
  have hs_w19 : w18.heap.size ≤ w19.heap.size := hb.size
  replace hT := below_to hT hb hT.size
  clear hb
  clear l_ba k_ba_0 k_ba_1 l_zw_0 k_zw_0_0 k_zw_0_1 l_zx_a k_zx_a_0 k_zx_a_1 l_zg_0 k_zg_0_0 k_zg_0_1 l_zh_0 k_zh_0_0 k_zh_0_1
  have l_ba := B_ba.lt
  have k_ba_0 := B_ba.cell 0 _ rfl
  have k_ba_1 := B_ba.cell 1 _ rfl
  have l_zw_0 := B_zw_0.lt
  have k_zw_0_0 := B_zw_0.cell 0 _ rfl
  have k_zw_0_1 := B_zw_0.cell 1 _ rfl
  have l_zx_a := B_zx_a.lt
  have k_zx_a_0 := B_zx_a.cell 0 _ rfl
  have k_zx_a_1 := B_zx_a.cell 1 _ rfl
  have l_zg_0 := B_zg_0.lt
  have k_zg_0_0 := B_zg_0.cell 0 _ rfl
  have k_zg_0_1 := B_zg_0.cell 1 _ rfl
  have l_zh_0 := B_zh_0.lt
  have k_zh_0_0 := B_zh_0.cell 0 _ rfl
  have k_zh_0_1 := B_zh_0.cell 1 _ rfl
  go_wp2_with fail
  refine (heldShare_any _ y_g_0_0.length _ y_g_0_1.length _ (by omega) (by omega) _ g_0_0.rd g_0_1.rd (by have := l_g_0_0; omega) (by have := l_g_0_1; omega)).mono ?_
  rintro e w20 ⟨rfl, hb⟩
  replace w_0_0 := w_0_0.below hb
  replace w_0_1 := w_0_1.below hb
  replace g_0_0 := g_0_0.below hb
  replace g_0_1 := g_0_1.below hb
  replace h_0_0 := h_0_0.below hb
  replace h_0_1 := h_0_1.below hb
  replace B_ba := B_ba.below hb
  replace B_zw_0 := B_zw_0.below hb
  replace B_zx_a := B_zx_a.below hb
  replace B_zg_0 := B_zg_0.below hb
  replace B_zh_0 := B_zh_0.below hb
  have hs_w20 : w19.heap.size ≤ w20.heap.size := hb.size
  replace hT := below_to hT hb hT.size
  clear hb
  clear l_ba k_ba_0 k_ba_1 l_zw_0 k_zw_0_0 k_zw_0_1 l_zx_a k_zx_a_0 k_zx_a_1 l_zg_0 k_zg_0_0 k_zg_0_1 l_zh_0 k_zh_0_0 k_zh_0_1
  have l_ba := B_ba.lt
  have k_ba_0 := B_ba.cell 0 _ rfl
  have k_ba_1 := B_ba.cell 1 _ rfl
  have l_zw_0 := B_zw_0.lt
  have k_zw_0_0 := B_zw_0.cell 0 _ rfl
  have k_zw_0_1 := B_zw_0.cell 1 _ rfl
  have l_zx_a := B_zx_a.lt
  have k_zx_a_0 := B_zx_a.cell 0 _ rfl
  have k_zx_a_1 := B_zx_a.cell 1 _ rfl
  have l_zg_0 := B_zg_0.lt
  have k_zg_0_0 := B_zg_0.cell 0 _ rfl
  have k_zg_0_1 := B_zg_0.cell 1 _ rfl
  have l_zh_0 := B_zh_0.lt
  have k_zh_0_0 := B_zh_0.cell 0 _ rfl
  have k_zh_0_1 := B_zh_0.cell 1 _ rfl
  go_wp2
  go_ret
  exact ⟨rfl, hT⟩

/-! The row's step, and the statement. -/
section
open Go.ChangeShapes Go.WideShapes Go.ChangeAt Go.RowKit
set_option maxRecDepth 100000 in
theorem lawSumShare_lifted (os : Os) (started : os.Started) (H : Type) (enc : TypeId × Value → H) :
    ReturnsInHanded {} Try.checked os 9 .any (Rows.fnExactSumShareSpec.pre6 enc Try.prog Try.f9 Rows.fnExactSumShareRow.domain false) (Rows.fnExactSumShareSpec.post enc Try.prog Try.f9 false true false false) := by
  refine returnsInHanded_of_change (C := Try.checked) own_knob started (by kernel_rfl) Try.func9
    (ChangeSpec.witness6 (enc := enc) (C := Try.checked) false ⟨#[], #[.agg #[.slice none 0 0, .slice none 0 0], .int .i64 0], []⟩ 8 (by kernel_rfl) (by kernel_rfl) (by kernel_rfl) (by kernel_rfl)) ?_
  intro W base args ds gs before hval0 hW hcnd _
  have hval : ∀ (j : Nat) t v, Try.f9.params[j]? = some t → args[j]? = some v → Value.okWide Try.prog W .any base t v := hval0
  have hW' := hW
  obtain ⟨p, q, hA0, hV, rfl, hfz, hnd⟩ := hW
  have hA : DataW.TrodAll enc Try.prog W 0 (fun _ => true) true Try.f9.params.toList args.toList ds p := hA0
  have hold := fun x hx => hW'.lt x hx
  rw [Try.params9] at hA hval
  have hl : laidOutB Try.prog = true := by kernel_rfl
  obtain ⟨v0, vs0, d0, ds0, p0, q0, hargs, rfl, rfl, h0, r0⟩ := trodAll_cons hA
  obtain ⟨v1, vs1, d1, ds1, p1, q1, rfl, rfl, rfl, h1, r1⟩ := trodAll_cons r0
  obtain ⟨rfl, rfl, rfl⟩ := trodAll_nil r1
  obtain rfl : args = #[v0, v1] := by cases args; simp_all
  obtain ⟨rfl, rfl⟩ := trodVars_none hV
  obtain ⟨sa0, xa0, sa1, xa1, rfl, hr00, hx00, hr01, hx01⟩ := open_share (hval 0 24 v0 rfl rfl) h0
  obtain ⟨n, rfl, -, -, w1⟩ := open_int Try.underlying2 (hval 1 2 v1 rfl rfl) h1
  clear hA0 hval0
  refine (lawSumShare_any _ xa0 _ xa1 n W hr00 hx00 hr01 hx01).mono fun e W' ⟨he, hg⟩ => ?_
  subst he
  exact ⟨_, rfl, post_below (pa := _) (pv := []) hW' (fun _ _ _ => (trodAll_cons_mk (shut_bool Try.underlying4 _) trodAll_mk0)) (fun sp hsp => (trodAll_cons_mk (WideElems.Trod_stays hl (by kernel_rfl) (of_decide_eq_true (by kernel_rfl)) h0 (fun x hx => hg.same (hold x (by simp [hx]))) (fun x hx => hsp x (by simp [hx]))) (trodAll_cons_mk (WideElems.Trod_stays hl (by kernel_rfl) (of_decide_eq_true (by kernel_rfl)) h1 (fun x hx => hg.same (hold x (by simp [hx]))) (fun x hx => hsp x (by simp [hx]))) trodAll_mk0))) (fun _ _ => rfl) rfl
    hg (ok_one (by kernel_rfl) rfl (okWide_bool_mk Try.underlying4 _))⟩

theorem fnSumShare_holds : Rows.FnExactSumShareSaid :=
  OpenClaim.holds_of_wide 9 Try.f9 rfl rfl rfl rfl rfl rfl rfl ⟨rfl, rfl, rfl, rfl, rfl⟩ rfl rfl rfl rfl rfl (by kernel_rfl) Try.func9 (by kernel_rfl)
    (of_decide_eq_true (by kernel_rfl)) (by unfold Func.isWrapper; first | (rw [if_pos (by decide +kernel)]; kernel_rfl) | (rw [if_neg (by decide +kernel)]; exact ⟨rfl, rfl⟩))
    (fun os started H enc _ => lawSumShare_lifted os started H enc)
end
#print axioms fnSumShare_holds
end Go.Proofs.Ytkohhhmllekokaa
