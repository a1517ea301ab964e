/-
  For every mixture and list: the program's LikeOf returns what the reference's returns. No condition.
-/
import Derived.Test.YtchcgapgpflknaaLike
import Derived.Test.YtchcgapgpflknaaMixtureOpen
import Derived.Deep.RegionHeld3
namespace Go.Proofs.Ytchcgapgpflknaa
open Go.RowKit
attribute [local go_sem] run_up_


set_option maxHeartbeats 3200000 in
theorem lawLikeOf_any (sa0 : Value) (xa0 : List Nat) (sa1 : Value) (xa1 : List Nat) (sa2 : Value) (xa2 : List Nat) (vb : Value) (xb : List Nat) (w : World) (hra0 : Rd fV w sa0 xa0) (hxa0 : xa0.length ≤ 9223372036854775807) (hra1 : Rd fV w sa1 xa1) (hxa1 : xa1.length ≤ 9223372036854775807) (hra2 : Rd fV w sa2 xa2) (hxa2 : xa2.length ≤ 9223372036854775807) (hrb : Rd fV w vb xb) :
    Calls Try.prog 10 #[mxV sa0 sa1 sa2, vb] w fun e w' => e = .returned (.bool true) ∧ Below w.heap.size w w' := by
  have HRa0 := Lib.hid hra0
  obtain ⟨Aa0, capa0, rfl, hcapa0, hAa0⟩ := hra0
  clear hAa0
  have HRa1 := Lib.hid hra1
  obtain ⟨Aa1, capa1, rfl, hcapa1, hAa1⟩ := hra1
  clear hAa1
  have HRa2 := Lib.hid hra2
  obtain ⟨Aa2, capa2, rfl, hcapa2, hAa2⟩ := hra2
  clear hAa2
  have HRb := Lib.hid hrb
  obtain ⟨Ab, capb, rfl, hcapb, hAb⟩ := hrb
  clear hAb
  by_cases hnb : 1048576 < xb.length
  · go_enter Try.func10, Try.ntmps10
    go_wp2
    go_ret
    exact ⟨rfl, by first | exact below_alloc _ _ | exact (below_alloc w _).alloc (by simp) _⟩
  have hmb : xb.length ≤ 1099511627776 := by omega
  go_enter Try.func10, Try.ntmps10
  go_wp2_with fail
  have B_ba : BoxAt (w.alloc (.cells ([.slice Aa0 xa0.length capa0, .slice Aa1 xa1.length capa1, .slice Aa2 xa2.length capa2] : List Value).toArray 46)) (w.heap.size) [.slice Aa0 xa0.length capa0, .slice Aa1 xa1.length capa1, .slice Aa2 xa2.length capa2] := by
    have := (BoxAt.new w [.slice Aa0 xa0.length capa0, .slice Aa1 xa1.length capa1, .slice Aa2 xa2.length capa2] 46)
    exact this
  have hT : Below w.heap.size w (w.alloc (.cells ([.slice Aa0 xa0.length capa0, .slice Aa1 xa1.length capa1, .slice Aa2 xa2.length capa2] : List Value).toArray 46)) := (Below.refl w.heap.size w).alloc (by exact Nat.le_refl _) _
  have hs_W0 : w.heap.size ≤ (w.alloc (.cells ([.slice Aa0 xa0.length capa0, .slice Aa1 xa1.length capa1, .slice Aa2 xa2.length capa2] : List Value).toArray 46)).heap.size := hT.size
  generalize hg : (w.alloc (.cells ([.slice Aa0 xa0.length capa0, .slice Aa1 xa1.length capa1, .slice Aa2 xa2.length capa2] : List Value).toArray 46)) = W0 at *
  clear hg
  refine (szMixture_any _ xa0 _ xa1 _ xa2 (1048576) (by omega) (by omega) _ (HRa0.out.below hT) (HRa1.out.below hT) (HRa2.out.below hT) hxa0 hxa1 hxa2).mono ?_
  rintro e w1 ⟨rfl, hb⟩
  replace B_ba := B_ba.below hb
  have hs_w1 : W0.heap.size ≤ w1.heap.size := hb.size
  replace hT := below_to hT hb hT.size
  clear hb
  by_cases hna : 1048576 < (xa0.length : Int) + (xa1.length : Int) + (xa2.length : Int)
  · rw [if_pos hna]
    have l_ba := B_ba.lt
    have k_ba_0 := B_ba.cell 0 _ rfl
    have k_ba_1 := B_ba.cell 1 _ rfl
    have k_ba_2 := B_ba.cell 2 _ rfl
    go_wp2
    go_ret
    exact ⟨rfl, hT⟩
  rw [if_neg hna]
  have hma0 : xa0.length ≤ 1099511627776 := by omega
  have hma1 : xa1.length ≤ 1099511627776 := by omega
  have hma2 : xa2.length ≤ 1099511627776 := by omega
  have hd := Int.not_lt.1 hna
  clear hna
  have l_ba := B_ba.lt
  have k_ba_0 := B_ba.cell 0 _ rfl
  have k_ba_1 := B_ba.cell 1 _ rfl
  have k_ba_2 := B_ba.cell 2 _ rfl
  go_wp2_with fail
  refine (toMixture_any _ xa0 _ xa1 _ xa2 hma0 hma1 hma2 _ (HRa0.out.below hT) (HRa1.out.below hT) (HRa2.out.below hT)).mono ?_
  rintro e w2 ⟨v_ia_0, v_ia_1, v_ia_2, m_ia1, m_ia2, rfl, ia_0, ia_1, ia_2, q_ia0, q_ia1, q_ia2, hb⟩
  obtain ⟨A_ia_0, c_ia_0, rfl, -, -⟩ := ia_0.rd
  obtain ⟨A_ia_1, c_ia_1, rfl, -, -⟩ := ia_1.rd
  obtain ⟨A_ia_2, c_ia_2, rfl, -, -⟩ := ia_2.rd
  replace B_ba := B_ba.below hb
  have hs_w2 : w1.heap.size ≤ w2.heap.size := hb.size
  replace hT := below_to hT hb hT.size
  clear hb
  clear l_ba k_ba_0 k_ba_1 k_ba_2
  have l_ba := B_ba.lt
  have k_ba_0 := B_ba.cell 0 _ rfl
  have k_ba_1 := B_ba.cell 1 _ rfl
  have k_ba_2 := B_ba.cell 2 _ rfl
  go_wp2_with fail
  refine (toFloat32S_any _ xb _ (HRb.out.below hT) hmb).mono ?_
  rintro e w3 ⟨v_ib, rfl, ib, hb, -⟩
  replace ib := ib.ranged
  replace ia_0 := ia_0.below hb
  replace ia_1 := ia_1.below hb
  replace ia_2 := ia_2.below hb
  replace B_ba := B_ba.below hb
  have hs_w3 : w2.heap.size ≤ w3.heap.size := hb.size
  replace hT := below_to hT hb hT.size
  clear hb
  clear l_ba k_ba_0 k_ba_1 k_ba_2
  have l_ba := B_ba.lt
  have k_ba_0 := B_ba.cell 0 _ rfl
  have k_ba_1 := B_ba.cell 1 _ rfl
  have k_ba_2 := B_ba.cell 2 _ rfl
  go_wp2_with fail
  refine (specLikeOf_any _ xa0 _ xa1 _ xa2 hma0 hma1 hma2 _ xb hmb _ ia_0.rd ia_1.rd ia_2.rd ib.rd).mono ?_
  rintro e w4 ⟨b_w_0, rfl, a_w_0, hb⟩
  have A_w_0 := Lib.hid a_w_0
  clear a_w_0
  replace ia_0 := ia_0.below hb
  replace ia_1 := ia_1.below hb
  replace ia_2 := ia_2.below hb
  replace ib := ib.below hb
  replace B_ba := B_ba.below hb
  have hs_w4 : w3.heap.size ≤ w4.heap.size := hb.size
  replace hT := below_to hT hb hT.size
  clear hb
  clear ia_0
  clear ia_1
  clear ia_2
  clear ib
  clear l_ba k_ba_0 k_ba_1 k_ba_2
  have l_ba := B_ba.lt
  have k_ba_0 := B_ba.cell 0 _ rfl
  have k_ba_1 := B_ba.cell 1 _ rfl
  have k_ba_2 := B_ba.cell 2 _ rfl
  go_wp2_with fail
  refine (toMixture_any _ xa0 _ xa1 _ xa2 hma0 hma1 hma2 _ (HRa0.out.below hT) (HRa1.out.below hT) (HRa2.out.below hT)).mono ?_
  rintro e w5 ⟨v_x_a_0, v_x_a_1, v_x_a_2, m_x_a1, m_x_a2, rfl, x_a_0, x_a_1, x_a_2, q_x_a0, q_x_a1, q_x_a2, hb⟩
  obtain ⟨A_x_a_0, c_x_a_0, rfl, -, -⟩ := x_a_0.rd
  obtain ⟨A_x_a_1, c_x_a_1, rfl, -, -⟩ := x_a_1.rd
  obtain ⟨A_x_a_2, c_x_a_2, rfl, -, -⟩ := x_a_2.rd
  replace B_ba := B_ba.below hb
  have hs_w5 : w4.heap.size ≤ w5.heap.size := hb.size
  replace hT := below_to hT hb hT.size
  clear hb
  clear l_ba k_ba_0 k_ba_1 k_ba_2
  have l_ba := B_ba.lt
  have k_ba_0 := B_ba.cell 0 _ rfl
  have k_ba_1 := B_ba.cell 1 _ rfl
  have k_ba_2 := B_ba.cell 2 _ rfl
  go_wp2_with fail
  have hb : Below w5.heap.size w5 (w5.alloc (.cells ([(.slice A_x_a_0 xa0.length c_x_a_0), (.slice A_x_a_1 xa1.length c_x_a_1), (.slice A_x_a_2 xa2.length c_x_a_2)] : List Value).toArray 49)) := below_alloc _ _
  have B_zx_a : BoxAt (w5.alloc (.cells ([(.slice A_x_a_0 xa0.length c_x_a_0), (.slice A_x_a_1 xa1.length c_x_a_1), (.slice A_x_a_2 xa2.length c_x_a_2)] : List Value).toArray 49)) w5.heap.size [(.slice A_x_a_0 xa0.length c_x_a_0), (.slice A_x_a_1 xa1.length c_x_a_1), (.slice A_x_a_2 xa2.length c_x_a_2)] := BoxAt.new _ _ _
  have hz_zx_a : (w5.alloc (.cells ([(.slice A_x_a_0 xa0.length c_x_a_0), (.slice A_x_a_1 xa1.length c_x_a_1), (.slice A_x_a_2 xa2.length c_x_a_2)] : List Value).toArray 49)).heap.size = w5.heap.size + 1 := size_alloc _ _
  generalize hg_zx_a : World.alloc w5 _ = w6 at *
  clear hg_zx_a
  replace x_a_0 := x_a_0.below hb
  replace x_a_1 := x_a_1.below hb
  replace x_a_2 := x_a_2.below hb
  replace B_ba := B_ba.below hb
  have hs_w6 : w5.heap.size ≤ w6.heap.size := hb.size
  replace hT := below_to hT hb hT.size
  clear hb
  clear l_ba k_ba_0 k_ba_1 k_ba_2
  have l_ba := B_ba.lt
  have k_ba_0 := B_ba.cell 0 _ rfl
  have k_ba_1 := B_ba.cell 1 _ rfl
  have k_ba_2 := B_ba.cell 2 _ rfl
  have l_zx_a := B_zx_a.lt
  have k_zx_a_0 := B_zx_a.cell 0 _ rfl
  have k_zx_a_1 := B_zx_a.cell 1 _ rfl
  have k_zx_a_2 := B_zx_a.cell 2 _ rfl
  go_wp2_with fail
  refine (toFloat32S_any _ xb _ (HRb.out.below hT) hmb).mono ?_
  rintro e w7 ⟨v_x_b, rfl, x_b, hb, -⟩
  replace x_b := x_b.ranged
  replace x_a_0 := x_a_0.below hb
  replace x_a_1 := x_a_1.below hb
  replace x_a_2 := x_a_2.below hb
  replace B_ba := B_ba.below hb
  replace B_zx_a := B_zx_a.below hb
  have hs_w7 : w6.heap.size ≤ w7.heap.size := hb.size
  replace hT := below_to hT hb hT.size
  clear hb
  clear l_ba k_ba_0 k_ba_1 k_ba_2 l_zx_a k_zx_a_0 k_zx_a_1 k_zx_a_2
  have l_ba := B_ba.lt
  have k_ba_0 := B_ba.cell 0 _ rfl
  have k_ba_1 := B_ba.cell 1 _ rfl
  have k_ba_2 := B_ba.cell 2 _ rfl
  have l_zx_a := B_zx_a.lt
  have k_zx_a_0 := B_zx_a.cell 0 _ rfl
  have k_zx_a_1 := B_zx_a.cell 1 _ rfl
  have k_zx_a_2 := B_zx_a.cell 2 _ rfl
  go_wp2_with fail
  refine (implLikeOf_any _ xa0 _ xa1 _ xa2 hma0 hma1 hma2 _ xb hmb _ x_a_0.rd x_a_1.rd x_a_2.rd x_b.rd).mono ?_
  rintro e w8 ⟨b_g_0, rfl, a_g_0, hb⟩
  have A_g_0 := Lib.hid a_g_0
  clear a_g_0
  replace x_a_0 := x_a_0.below hb
  replace x_a_1 := x_a_1.below hb
  replace x_a_2 := x_a_2.below hb
  replace x_b := x_b.below hb
  replace B_ba := B_ba.below hb
  replace B_zx_a := B_zx_a.below hb
  have hs_w8 : w7.heap.size ≤ w8.heap.size := hb.size
  replace hT := below_to hT hb hT.size
  clear hb
  clear l_ba k_ba_0 k_ba_1 k_ba_2 l_zx_a k_zx_a_0 k_zx_a_1 k_zx_a_2
  have l_ba := B_ba.lt
  have k_ba_0 := B_ba.cell 0 _ rfl
  have k_ba_1 := B_ba.cell 1 _ rfl
  have k_ba_2 := B_ba.cell 2 _ rfl
  have l_zx_a := B_zx_a.lt
  have k_zx_a_0 := B_zx_a.cell 0 _ rfl
  have k_zx_a_1 := B_zx_a.cell 1 _ rfl
  have k_zx_a_2 := B_zx_a.cell 2 _ rfl
  go_wp2_with fail
  refine (sameFloat_any _ _ (by rw [abs_upR, abs_upR, A_g_0.out, A_w_0.out]) _).mono ?_
  rintro e zw9 ⟨rfl, rfl⟩
  generalize hg : World.drewN w8 _ = w9
  have hb : Below w8.heap.size w8 w9 := by rw [← hg]; exact below_drewN' _ (Below.refl _ _)
  clear hg
  replace x_a_0 := x_a_0.below hb
  replace x_a_1 := x_a_1.below hb
  replace x_a_2 := x_a_2.below hb
  replace x_b := x_b.below hb
  replace B_ba := B_ba.below hb
  replace B_zx_a := B_zx_a.below hb
  have hs_w9 : w8.heap.size ≤ w9.heap.size := hb.size
  replace hT := below_to hT hb hT.size
  clear hb
  clear l_ba k_ba_0 k_ba_1 k_ba_2 l_zx_a k_zx_a_0 k_zx_a_1 k_zx_a_2
  have l_ba := B_ba.lt
  have k_ba_0 := B_ba.cell 0 _ rfl
  have k_ba_1 := B_ba.cell 1 _ rfl
  have k_ba_2 := B_ba.cell 2 _ rfl
  have l_zx_a := B_zx_a.lt
  have k_zx_a_0 := B_zx_a.cell 0 _ rfl
  have k_zx_a_1 := B_zx_a.cell 1 _ rfl
  have k_zx_a_2 := B_zx_a.cell 2 _ rfl
  have hlt_ba := B_ba.lt
  have hlt_zx_a := B_zx_a.lt
  go_wp2
  go_region_held3 (fun w' => w'.cell? ⟨w5.heap.size, 0, none⟩ = some ((.slice A_x_a_0 xa0.length c_x_a_0)) ∧ w'.cell? ⟨w5.heap.size, 1, none⟩ = some ((.slice A_x_a_1 xa1.length c_x_a_1)) ∧ w'.cell? ⟨w5.heap.size, 2, none⟩ = some ((.slice A_x_a_2 xa2.length c_x_a_2)) ∧ w'.cell? ⟨w.heap.size, 0, none⟩ = some (.slice Aa0 xa0.length capa0) ∧ w'.cell? ⟨w.heap.size, 1, none⟩ = some (.slice Aa1 xa1.length capa1) ∧ w'.cell? ⟨w.heap.size, 2, none⟩ = some (.slice Aa2 xa2.length capa2))
    (first
      | go_keep
      | (go_split_ands; refine ⟨?_, ?_, ?_, ?_, ?_, ?_⟩ <;> (rw [hb11.cell (by have z0 := hb10.size; simp at z0 ⊢; omega)]; assumption))
      | (go_split_ands; refine ⟨?_, ?_, ?_, ?_, ?_, ?_⟩ <;> (rw [hb10.cell (by  try simp; omega)]; assumption)))
    (first
      | (go_at_call 34; refine (toMixture_any _ xa0 _ xa1 _ xa2 hma0 hma1 hma2 _ ?_ ?_ ?_).mono ?_; (exact HRa0.out.below (hT.drew)); (exact HRa1.out.below (hT.drew)); (exact HRa2.out.below (hT.drew)); rintro e w10 ⟨v_ita_0, v_ita_1, v_ita_2, m_ita1, m_ita2, rfl, ita_0, ita_1, ita_2, -, -, -, hb10⟩)
      | (go_at_call 36; refine (eqMixture_any _ _ xa0 xa0 _ _ xa1 xa1 _ _ xa2 xa2 hma0 hma0 hma1 hma1 hma2 hma2 _ ?_ ?_ rfl ?_ ?_ rfl ?_ ?_ rfl).mono ?_; (exact ((x_a_0.below ((Below.refl _ _).drew)).below hb10).rd); (exact ita_0.rd); (exact ((x_a_1.below ((Below.refl _ _).drew)).below hb10).rd); (exact ita_1.rd); (exact ((x_a_2.below ((Below.refl _ _).drew)).below hb10).rd); (exact ita_2.rd); rintro e w11 ⟨rfl, hb11⟩))
  have hb : Below w9.heap.size w9 w11 := below_to (below_to ((Below.refl w9.heap.size w9).drew) hb10 (by simp)) hb11 (by have z0 := hb10.size; simp at z0 ⊢; omega)
  clear ita_0 ita_1 ita_2 hb10 hb11 hlt_ba hlt_zx_a
  replace x_a_0 := x_a_0.below hb
  replace x_a_1 := x_a_1.below hb
  replace x_a_2 := x_a_2.below hb
  replace x_b := x_b.below hb
  replace B_ba := B_ba.below hb
  replace B_zx_a := B_zx_a.below hb
  have hs_w11 : w9.heap.size ≤ w11.heap.size := hb.size
  replace hT := below_to hT hb hT.size
  clear hb
  clear l_ba k_ba_0 k_ba_1 k_ba_2 l_zx_a k_zx_a_0 k_zx_a_1 k_zx_a_2
  have l_ba := B_ba.lt
  have k_ba_0 := B_ba.cell 0 _ rfl
  have k_ba_1 := B_ba.cell 1 _ rfl
  have k_ba_2 := B_ba.cell 2 _ rfl
  have l_zx_a := B_zx_a.lt
  have k_zx_a_0 := B_zx_a.cell 0 _ rfl
  have k_zx_a_1 := B_zx_a.cell 1 _ rfl
  have k_zx_a_2 := B_zx_a.cell 2 _ rfl
  go_wp2_with fail
  refine (toFloat32S_any _ xb _ (HRb.out.below hT) hmb).mono ?_
  rintro e w12 ⟨v_t_b, rfl, t_b, hb, -⟩
  replace t_b := t_b.ranged
  replace x_a_0 := x_a_0.below hb
  replace x_a_1 := x_a_1.below hb
  replace x_a_2 := x_a_2.below hb
  replace x_b := x_b.below hb
  replace B_ba := B_ba.below hb
  replace B_zx_a := B_zx_a.below hb
  have hs_w12 : w11.heap.size ≤ w12.heap.size := hb.size
  replace hT := below_to hT hb hT.size
  clear hb
  clear l_ba k_ba_0 k_ba_1 k_ba_2 l_zx_a k_zx_a_0 k_zx_a_1 k_zx_a_2
  have l_ba := B_ba.lt
  have k_ba_0 := B_ba.cell 0 _ rfl
  have k_ba_1 := B_ba.cell 1 _ rfl
  have k_ba_2 := B_ba.cell 2 _ rfl
  have l_zx_a := B_zx_a.lt
  have k_zx_a_0 := B_zx_a.cell 0 _ rfl
  have k_zx_a_1 := B_zx_a.cell 1 _ rfl
  have k_zx_a_2 := B_zx_a.cell 2 _ rfl
  go_wp2_with fail
  refine (eqFloat32S_any _ _ _ _ _ x_b.rd t_b.rd (hmb) (hmb) (rfl)).mono ?_
  rintro e w13 ⟨rfl, hd⟩
  have hb := below_of_drew hd
  clear hd
  replace x_a_0 := x_a_0.below hb
  replace x_a_1 := x_a_1.below hb
  replace x_a_2 := x_a_2.below hb
  replace x_b := x_b.below hb
  replace t_b := t_b.below hb
  replace B_ba := B_ba.below hb
  replace B_zx_a := B_zx_a.below hb
  have hs_w13 : w12.heap.size ≤ w13.heap.size := hb.size
  replace hT := below_to hT hb hT.size
  clear hb
  clear t_b
  clear l_ba k_ba_0 k_ba_1 k_ba_2 l_zx_a k_zx_a_0 k_zx_a_1 k_zx_a_2
  have l_ba := B_ba.lt
  have k_ba_0 := B_ba.cell 0 _ rfl
  have k_ba_1 := B_ba.cell 1 _ rfl
  have k_ba_2 := B_ba.cell 2 _ rfl
  have l_zx_a := B_zx_a.lt
  have k_zx_a_0 := B_zx_a.cell 0 _ rfl
  have k_zx_a_1 := B_zx_a.cell 1 _ rfl
  have k_zx_a_2 := B_zx_a.cell 2 _ rfl
  go_wp2
  go_ret
  exact ⟨rfl, hT⟩

/-! The row's step, and the statement. -/
section
open Go.ChangeShapes Go.WideShapes Go.ChangeAt Go.RowKit
set_option maxRecDepth 100000 in
theorem lawLikeOf_lifted (os : Os) (started : os.Started) (H : Type) (enc : TypeId × Value → H) :
    ReturnsInHanded {} Try.checked os 10 .any (Rows.fnExactLikeOfSpec.pre6 enc Try.prog Try.f10 Rows.fnExactLikeOfRow.domain false) (Rows.fnExactLikeOfSpec.post enc Try.prog Try.f10 false true false false) := by
  refine returnsInHanded_of_change (C := Try.checked) own_knob started (by kernel_rfl) Try.func10
    (ChangeSpec.witness6 (enc := enc) (C := Try.checked) false ⟨#[], #[.agg #[.slice none 0 0, .slice none 0 0, .slice none 0 0], .slice none 0 0], []⟩ 8 (by kernel_rfl) (by kernel_rfl) (by kernel_rfl) (by kernel_rfl)) ?_
  intro W base args ds gs before hval0 hW hcnd _
  have hval : ∀ (j : Nat) t v, Try.f10.params[j]? = some t → args[j]? = some v → Value.okWide Try.prog W .any base t v := hval0
  have hW' := hW
  obtain ⟨p, q, hA0, hV, rfl, hfz, hnd⟩ := hW
  have hA : DataW.TrodAll enc Try.prog W 0 (fun _ => true) true Try.f10.params.toList args.toList ds p := hA0
  have hold := fun x hx => hW'.lt x hx
  rw [Try.params10] at hA hval
  have hl : laidOutB Try.prog = true := by kernel_rfl
  obtain ⟨v0, vs0, d0, ds0, p0, q0, hargs, rfl, rfl, h0, r0⟩ := trodAll_cons hA
  obtain ⟨v1, vs1, d1, ds1, p1, q1, rfl, rfl, rfl, h1, r1⟩ := trodAll_cons r0
  obtain ⟨rfl, rfl, rfl⟩ := trodAll_nil r1
  obtain rfl : args = #[v0, v1] := by cases args; simp_all
  obtain ⟨rfl, rfl⟩ := trodVars_none hV
  obtain ⟨sa0, xa0, sa1, xa1, sa2, xa2, rfl, hr00, hx00, hr01, hx01, hr02, hx02⟩ := open_mixture (hval 0 46 v0 rfl rfl) h0
  obtain ⟨A1, n1, c1, rfl⟩ := okWide_slice Try.underlying22 (hval 1 22 v1 rfl rfl)
  obtain ⟨xb, hr1⟩ := rd_of_trod fV Try.underlying22 (by kernel_rfl) (elem_float Try.underlying23) h1
  clear hA0 hval0
  refine (lawLikeOf_any _ xa0 _ xa1 _ xa2 _ xb W hr00 hx00 hr01 hx01 hr02 hx02 hr1).mono fun e W' ⟨he, hg⟩ => ?_
  subst he
  exact ⟨_, rfl, post_below (pa := _) (pv := []) hW' (fun _ _ _ => (trodAll_cons_mk (shut_bool Try.underlying4 _) trodAll_mk0)) (fun sp hsp => (trodAll_cons_mk (WideElems.Trod_stays hl (by kernel_rfl) (of_decide_eq_true (by kernel_rfl)) h0 (fun x hx => hg.same (hold x (by simp [hx]))) (fun x hx => hsp x (by simp [hx]))) (trodAll_cons_mk (WideElems.Trod_stays hl (by kernel_rfl) (of_decide_eq_true (by kernel_rfl)) h1 (fun x hx => hg.same (hold x (by simp [hx]))) (fun x hx => hsp x (by simp [hx]))) trodAll_mk0))) (fun _ _ => rfl) rfl
    hg (ok_one (by kernel_rfl) rfl (okWide_bool_mk Try.underlying4 _))⟩

theorem fnLikeOf_holds : Rows.FnExactLikeOfSaid :=
  OpenClaim.holds_of_wide 10 Try.f10 rfl rfl rfl rfl rfl rfl rfl ⟨rfl, rfl, rfl, rfl, rfl⟩ rfl rfl rfl rfl rfl (by kernel_rfl) Try.func10 (by kernel_rfl)
    (of_decide_eq_true (by kernel_rfl)) (by unfold Func.isWrapper; first | (rw [if_pos (by decide +kernel)]; kernel_rfl) | (rw [if_neg (by decide +kernel)]; exact ⟨rfl, rfl⟩))
    (fun os started H enc _ => lawLikeOf_lifted os started H enc)
end
#print axioms fnLikeOf_holds
end Go.Proofs.Ytchcgapgpflknaa
