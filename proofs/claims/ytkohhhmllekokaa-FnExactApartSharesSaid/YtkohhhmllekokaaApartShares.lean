/-
  For all shares: the program's ApartShares returns what the reference's returns. No condition.
-/
import Derived.Test.YtkohhhmllekokaaStpS
import Derived.Test.YtkohhhmllekokaaShareOpen
import Derived.Deep.RegionHeld3
namespace Go.Proofs.Ytkohhhmllekokaa
open Go.RowKit
attribute [local go_sem] run_up_


set_option maxHeartbeats 3200000 in
theorem lawApartShares_any (sa0 : Value) (xa0 : List Nat) (sa1 : Value) (xa1 : List Nat) (sb0 : Value) (xb0 : List Nat) (sb1 : Value) (xb1 : List Nat) (w : World) (hra0 : Rd fV w sa0 xa0) (hxa0 : xa0.length ≤ 9223372036854775807) (hra1 : Rd fV w sa1 xa1) (hxa1 : xa1.length ≤ 9223372036854775807) (hrb0 : Rd fV w sb0 xb0) (hxb0 : xb0.length ≤ 9223372036854775807) (hrb1 : Rd fV w sb1 xb1) (hxb1 : xb1.length ≤ 9223372036854775807) :
    Calls Try.prog 11 #[shV sa0 sa1, shV sb0 sb1] w fun e w' => e = .returned (.bool true) ∧ Below w.heap.size w w' := by
  have HRa0 := Lib.hid hra0
  obtain ⟨Aa0, capa0, rfl, hcapa0, hAa0⟩ := hra0
  clear hAa0
  have HRa1 := Lib.hid hra1
  obtain ⟨Aa1, capa1, rfl, hcapa1, hAa1⟩ := hra1
  clear hAa1
  have HRb0 := Lib.hid hrb0
  obtain ⟨Ab0, capb0, rfl, hcapb0, hAb0⟩ := hrb0
  clear hAb0
  have HRb1 := Lib.hid hrb1
  obtain ⟨Ab1, capb1, rfl, hcapb1, hAb1⟩ := hrb1
  clear hAb1
  go_enter Try.func11, Try.ntmps11
  go_wp2_with fail
  have B_ba : BoxAt ((w.alloc (.cells ([.slice Aa0 xa0.length capa0, .slice Aa1 xa1.length capa1] : List Value).toArray 24)).alloc (.cells ([.slice Ab0 xb0.length capb0, .slice Ab1 xb1.length capb1] : List Value).toArray 24)) (w.heap.size) [.slice Aa0 xa0.length capa0, .slice Aa1 xa1.length capa1] := by
    have := ((BoxAt.new w [.slice Aa0 xa0.length capa0, .slice Aa1 xa1.length capa1] 24).alloc (.cells ([.slice Ab0 xb0.length capb0, .slice Ab1 xb1.length capb1] : List Value).toArray 24))
    exact this
  have B_bb : BoxAt ((w.alloc (.cells ([.slice Aa0 xa0.length capa0, .slice Aa1 xa1.length capa1] : List Value).toArray 24)).alloc (.cells ([.slice Ab0 xb0.length capb0, .slice Ab1 xb1.length capb1] : List Value).toArray 24)) (w.heap.size + 1) [.slice Ab0 xb0.length capb0, .slice Ab1 xb1.length capb1] := by
    have := (BoxAt.new (w.alloc (.cells ([.slice Aa0 xa0.length capa0, .slice Aa1 xa1.length capa1] : List Value).toArray 24)) [.slice Ab0 xb0.length capb0, .slice Ab1 xb1.length capb1] 24)
    rwa [size_alloc] at this
  have hT : Below w.heap.size w ((w.alloc (.cells ([.slice Aa0 xa0.length capa0, .slice Aa1 xa1.length capa1] : List Value).toArray 24)).alloc (.cells ([.slice Ab0 xb0.length capb0, .slice Ab1 xb1.length capb1] : List Value).toArray 24)) := ((Below.refl w.heap.size w).alloc (by exact Nat.le_refl _) _).alloc (by simp; try omega) _
  have hs_W0 : w.heap.size ≤ ((w.alloc (.cells ([.slice Aa0 xa0.length capa0, .slice Aa1 xa1.length capa1] : List Value).toArray 24)).alloc (.cells ([.slice Ab0 xb0.length capb0, .slice Ab1 xb1.length capb1] : List Value).toArray 24)).heap.size := hT.size
  generalize hg : ((w.alloc (.cells ([.slice Aa0 xa0.length capa0, .slice Aa1 xa1.length capa1] : List Value).toArray 24)).alloc (.cells ([.slice Ab0 xb0.length capb0, .slice Ab1 xb1.length capb1] : List Value).toArray 24)) = W0 at *
  clear hg
  refine (szShare_any _ xa0 _ xa1 (1048576) (by omega) (by omega) _ (HRa0.out.below hT) (HRa1.out.below hT) hxa0 hxa1).mono ?_
  rintro e w1 ⟨rfl, hb⟩
  replace B_ba := B_ba.below hb
  replace B_bb := B_bb.below hb
  have hs_w1 : W0.heap.size ≤ w1.heap.size := hb.size
  replace hT := below_to hT hb hT.size
  clear hb
  by_cases hna : 1048576 < (xa0.length : Int) + (xa1.length : Int)
  · rw [if_pos hna]
    have l_ba := B_ba.lt
    have k_ba_0 := B_ba.cell 0 _ rfl
    have k_ba_1 := B_ba.cell 1 _ rfl
    have l_bb := B_bb.lt
    have k_bb_0 := B_bb.cell 0 _ rfl
    have k_bb_1 := B_bb.cell 1 _ rfl
    go_wp2
    go_ret
    exact ⟨rfl, hT⟩
  rw [if_neg hna]
  have l_ba := B_ba.lt
  have k_ba_0 := B_ba.cell 0 _ rfl
  have k_ba_1 := B_ba.cell 1 _ rfl
  have l_bb := B_bb.lt
  have k_bb_0 := B_bb.cell 0 _ rfl
  have k_bb_1 := B_bb.cell 1 _ rfl
  go_wp2_with fail
  refine (szShare_any _ xb0 _ xb1 (1048576 - ((xa0.length : Int) + (xa1.length : Int))) (by omega) (by omega) _ (HRb0.out.below hT) (HRb1.out.below hT) hxb0 hxb1).mono ?_
  rintro e w2 ⟨rfl, hb⟩
  replace B_ba := B_ba.below hb
  replace B_bb := B_bb.below hb
  have hs_w2 : w1.heap.size ≤ w2.heap.size := hb.size
  replace hT := below_to hT hb hT.size
  clear hb
  by_cases hnb : 1048576 - ((xa0.length : Int) + (xa1.length : Int)) < (xb0.length : Int) + (xb1.length : Int)
  · rw [if_pos hnb]
    clear l_ba k_ba_0 k_ba_1 l_bb k_bb_0 k_bb_1
    have l_ba := B_ba.lt
    have k_ba_0 := B_ba.cell 0 _ rfl
    have k_ba_1 := B_ba.cell 1 _ rfl
    have l_bb := B_bb.lt
    have k_bb_0 := B_bb.cell 0 _ rfl
    have k_bb_1 := B_bb.cell 1 _ rfl
    go_wp2
    go_ret
    exact ⟨rfl, hT⟩
  rw [if_neg hnb]
  have hma0 : xa0.length ≤ 1099511627776 := by omega
  have hma1 : xa1.length ≤ 1099511627776 := by omega
  have hmb0 : xb0.length ≤ 1099511627776 := by omega
  have hmb1 : xb1.length ≤ 1099511627776 := by omega
  have hd := Int.not_lt.1 hnb
  clear hna
  clear hnb
  clear l_ba k_ba_0 k_ba_1 l_bb k_bb_0 k_bb_1
  have l_ba := B_ba.lt
  have k_ba_0 := B_ba.cell 0 _ rfl
  have k_ba_1 := B_ba.cell 1 _ rfl
  have l_bb := B_bb.lt
  have k_bb_0 := B_bb.cell 0 _ rfl
  have k_bb_1 := B_bb.cell 1 _ rfl
  have hlt_ba := B_ba.lt
  have hlt_bb := B_bb.lt
  go_wp2
  go_region_held3 (fun w' => w'.cell? ⟨w.heap.size, 0, none⟩ = some (.slice Aa0 xa0.length capa0) ∧ w'.cell? ⟨w.heap.size, 1, none⟩ = some (.slice Aa1 xa1.length capa1) ∧ w'.cell? ⟨w.heap.size + 1, 0, none⟩ = some (.slice Ab0 xb0.length capb0) ∧ w'.cell? ⟨w.heap.size + 1, 1, none⟩ = some (.slice Ab1 xb1.length capb1))
    (first
      | go_keep
      | (go_split_ands; refine ⟨?_, ?_, ?_, ?_⟩ <;> (rw [hb5.cell (by have z0 := hb3.size; have z1 := hb4.size; simp at z0 z1 ⊢; omega)]; assumption))
      | (go_split_ands; refine ⟨?_, ?_, ?_, ?_⟩ <;> (rw [hb4.cell (by have z0 := hb3.size; simp at z0 ⊢; omega)]; assumption))
      | (go_split_ands; refine ⟨?_, ?_, ?_, ?_⟩ <;> (rw [hb3.cell (by  try simp; omega)]; assumption)))
    (first
      | (go_at_call 14; refine (toShare_any _ xa0 _ xa1 hma0 hma1 _ ?_ ?_).mono ?_; (exact HRa0.out.below (hT.drew)); (exact HRa1.out.below (hT.drew)); rintro e w3 ⟨v_ia_0, v_ia_1, m_ia1, rfl, ia_0, ia_1, -, -, hb3⟩)
      | (go_at_call 14; refine (toShare_any _ xb0 _ xb1 hmb0 hmb1 _ ?_ ?_).mono ?_; (exact HRb0.out.below (below_to (hT.drew) hb3 (by have := hT.size; try simp;  omega))); (exact HRb1.out.below (below_to (hT.drew) hb3 (by have := hT.size; try simp;  omega))); rintro e w4 ⟨v_ib_0, v_ib_1, m_ib1, rfl, ib_0, ib_1, -, -, hb4⟩)
      | (go_at_call 40; refine (specApartShares_any _ xa0 _ xa1 hma0 hma1 _ xb0 _ xb1 hmb0 hmb1 _ (ia_0.below hb4).rd (ia_1.below hb4).rd ib_0.rd ib_1.rd).mono ?_; rintro e w5 ⟨b_w_0, rfl, a_w_0, hb5⟩; have A_w_0 := Lib.hid a_w_0; clear a_w_0))
  have hb : Below w2.heap.size w2 w5 := below_to (below_to (below_to ((Below.refl w2.heap.size w2).drew) hb3 (by simp)) hb4 (by have z0 := hb3.size; simp at z0 ⊢; omega)) hb5 (by have z0 := hb3.size; have z1 := hb4.size; simp at z0 z1 ⊢; omega)
  clear ia_0 ia_1 ib_0 ib_1 hb3 hb4 hb5 hlt_ba hlt_bb
  replace B_ba := B_ba.below hb
  replace B_bb := B_bb.below hb
  have hs_w5 : w2.heap.size ≤ w5.heap.size := hb.size
  replace hT := below_to hT hb hT.size
  clear hb
  clear l_ba k_ba_0 k_ba_1 l_bb k_bb_0 k_bb_1
  have l_ba := B_ba.lt
  have k_ba_0 := B_ba.cell 0 _ rfl
  have k_ba_1 := B_ba.cell 1 _ rfl
  have l_bb := B_bb.lt
  have k_bb_0 := B_bb.cell 0 _ rfl
  have k_bb_1 := B_bb.cell 1 _ rfl
  go_wp2_with fail
  refine (toShare_any _ xa0 _ xa1 hma0 hma1 _ (HRa0.out.below hT) (HRa1.out.below hT)).mono ?_
  rintro e w6 ⟨v_x_a_0, v_x_a_1, m_x_a1, rfl, x_a_0, x_a_1, q_x_a0, q_x_a1, hb⟩
  obtain ⟨A_x_a_0, c_x_a_0, rfl, -, -⟩ := x_a_0.rd
  obtain ⟨A_x_a_1, c_x_a_1, rfl, -, -⟩ := x_a_1.rd
  replace B_ba := B_ba.below hb
  replace B_bb := B_bb.below hb
  have hs_w6 : w5.heap.size ≤ w6.heap.size := hb.size
  replace hT := below_to hT hb hT.size
  clear hb
  clear l_ba k_ba_0 k_ba_1 l_bb k_bb_0 k_bb_1
  have l_ba := B_ba.lt
  have k_ba_0 := B_ba.cell 0 _ rfl
  have k_ba_1 := B_ba.cell 1 _ rfl
  have l_bb := B_bb.lt
  have k_bb_0 := B_bb.cell 0 _ rfl
  have k_bb_1 := B_bb.cell 1 _ rfl
  go_wp2_with fail
  have hb : Below w6.heap.size w6 (w6.alloc (.cells ([(.slice A_x_a_0 xa0.length c_x_a_0), (.slice A_x_a_1 xa1.length c_x_a_1)] : List Value).toArray 27)) := below_alloc _ _
  have B_zx_a : BoxAt (w6.alloc (.cells ([(.slice A_x_a_0 xa0.length c_x_a_0), (.slice A_x_a_1 xa1.length c_x_a_1)] : List Value).toArray 27)) w6.heap.size [(.slice A_x_a_0 xa0.length c_x_a_0), (.slice A_x_a_1 xa1.length c_x_a_1)] := BoxAt.new _ _ _
  have hz_zx_a : (w6.alloc (.cells ([(.slice A_x_a_0 xa0.length c_x_a_0), (.slice A_x_a_1 xa1.length c_x_a_1)] : List Value).toArray 27)).heap.size = w6.heap.size + 1 := size_alloc _ _
  generalize hg_zx_a : World.alloc w6 _ = w7 at *
  clear hg_zx_a
  replace x_a_0 := x_a_0.below hb
  replace x_a_1 := x_a_1.below hb
  replace B_ba := B_ba.below hb
  replace B_bb := B_bb.below hb
  have hs_w7 : w6.heap.size ≤ w7.heap.size := hb.size
  replace hT := below_to hT hb hT.size
  clear hb
  clear l_ba k_ba_0 k_ba_1 l_bb k_bb_0 k_bb_1
  have l_ba := B_ba.lt
  have k_ba_0 := B_ba.cell 0 _ rfl
  have k_ba_1 := B_ba.cell 1 _ rfl
  have l_bb := B_bb.lt
  have k_bb_0 := B_bb.cell 0 _ rfl
  have k_bb_1 := B_bb.cell 1 _ rfl
  have l_zx_a := B_zx_a.lt
  have k_zx_a_0 := B_zx_a.cell 0 _ rfl
  have k_zx_a_1 := B_zx_a.cell 1 _ rfl
  go_wp2_with fail
  refine (toShare_any _ xb0 _ xb1 hmb0 hmb1 _ (HRb0.out.below hT) (HRb1.out.below hT)).mono ?_
  rintro e w8 ⟨v_x_b_0, v_x_b_1, m_x_b1, rfl, x_b_0, x_b_1, q_x_b0, q_x_b1, hb⟩
  obtain ⟨A_x_b_0, c_x_b_0, rfl, -, -⟩ := x_b_0.rd
  obtain ⟨A_x_b_1, c_x_b_1, rfl, -, -⟩ := x_b_1.rd
  replace x_a_0 := x_a_0.below hb
  replace x_a_1 := x_a_1.below hb
  replace B_ba := B_ba.below hb
  replace B_bb := B_bb.below hb
  replace B_zx_a := B_zx_a.below hb
  have hs_w8 : w7.heap.size ≤ w8.heap.size := hb.size
  replace hT := below_to hT hb hT.size
  clear hb
  clear l_ba k_ba_0 k_ba_1 l_bb k_bb_0 k_bb_1 l_zx_a k_zx_a_0 k_zx_a_1
  have l_ba := B_ba.lt
  have k_ba_0 := B_ba.cell 0 _ rfl
  have k_ba_1 := B_ba.cell 1 _ rfl
  have l_bb := B_bb.lt
  have k_bb_0 := B_bb.cell 0 _ rfl
  have k_bb_1 := B_bb.cell 1 _ rfl
  have l_zx_a := B_zx_a.lt
  have k_zx_a_0 := B_zx_a.cell 0 _ rfl
  have k_zx_a_1 := B_zx_a.cell 1 _ rfl
  go_wp2_with fail
  have hb : Below w8.heap.size w8 (w8.alloc (.cells ([(.slice A_x_b_0 xb0.length c_x_b_0), (.slice A_x_b_1 xb1.length c_x_b_1)] : List Value).toArray 27)) := below_alloc _ _
  have B_zx_b : BoxAt (w8.alloc (.cells ([(.slice A_x_b_0 xb0.length c_x_b_0), (.slice A_x_b_1 xb1.length c_x_b_1)] : List Value).toArray 27)) w8.heap.size [(.slice A_x_b_0 xb0.length c_x_b_0), (.slice A_x_b_1 xb1.length c_x_b_1)] := BoxAt.new _ _ _
  have hz_zx_b : (w8.alloc (.cells ([(.slice A_x_b_0 xb0.length c_x_b_0), (.slice A_x_b_1 xb1.length c_x_b_1)] : List Value).toArray 27)).heap.size = w8.heap.size + 1 := size_alloc _ _
  generalize hg_zx_b : World.alloc w8 _ = w9 at *
  clear hg_zx_b
  replace x_a_0 := x_a_0.below hb
  replace x_a_1 := x_a_1.below hb
  replace x_b_0 := x_b_0.below hb
  replace x_b_1 := x_b_1.below hb
  replace B_ba := B_ba.below hb
  replace B_bb := B_bb.below hb
  replace B_zx_a := B_zx_a.below hb
  have hs_w9 : w8.heap.size ≤ w9.heap.size := hb.size
  replace hT := below_to hT hb hT.size
  clear hb
  clear l_ba k_ba_0 k_ba_1 l_bb k_bb_0 k_bb_1 l_zx_a k_zx_a_0 k_zx_a_1
  have l_ba := B_ba.lt
  have k_ba_0 := B_ba.cell 0 _ rfl
  have k_ba_1 := B_ba.cell 1 _ rfl
  have l_bb := B_bb.lt
  have k_bb_0 := B_bb.cell 0 _ rfl
  have k_bb_1 := B_bb.cell 1 _ rfl
  have l_zx_a := B_zx_a.lt
  have k_zx_a_0 := B_zx_a.cell 0 _ rfl
  have k_zx_a_1 := B_zx_a.cell 1 _ rfl
  have l_zx_b := B_zx_b.lt
  have k_zx_b_0 := B_zx_b.cell 0 _ rfl
  have k_zx_b_1 := B_zx_b.cell 1 _ rfl
  go_wp2_with fail
  refine (implApartShares_any _ xa0 _ xa1 hma0 hma1 _ xb0 _ xb1 hmb0 hmb1 _ x_a_0.rd x_a_1.rd x_b_0.rd x_b_1.rd).mono ?_
  rintro e w10 ⟨b_g_0, rfl, a_g_0, hb⟩
  have A_g_0 := Lib.hid a_g_0
  clear a_g_0
  replace x_a_0 := x_a_0.below hb
  replace x_a_1 := x_a_1.below hb
  replace x_b_0 := x_b_0.below hb
  replace x_b_1 := x_b_1.below hb
  replace B_ba := B_ba.below hb
  replace B_bb := B_bb.below hb
  replace B_zx_a := B_zx_a.below hb
  replace B_zx_b := B_zx_b.below hb
  have hs_w10 : w9.heap.size ≤ w10.heap.size := hb.size
  replace hT := below_to hT hb hT.size
  clear hb
  clear l_ba k_ba_0 k_ba_1 l_bb k_bb_0 k_bb_1 l_zx_a k_zx_a_0 k_zx_a_1 l_zx_b k_zx_b_0 k_zx_b_1
  have l_ba := B_ba.lt
  have k_ba_0 := B_ba.cell 0 _ rfl
  have k_ba_1 := B_ba.cell 1 _ rfl
  have l_bb := B_bb.lt
  have k_bb_0 := B_bb.cell 0 _ rfl
  have k_bb_1 := B_bb.cell 1 _ rfl
  have l_zx_a := B_zx_a.lt
  have k_zx_a_0 := B_zx_a.cell 0 _ rfl
  have k_zx_a_1 := B_zx_a.cell 1 _ rfl
  have l_zx_b := B_zx_b.lt
  have k_zx_b_0 := B_zx_b.cell 0 _ rfl
  have k_zx_b_1 := B_zx_b.cell 1 _ rfl
  go_wp2_with fail
  refine (sameFloat_any _ _ (by rw [abs_upR, abs_upR, A_g_0.out, A_w_0.out]) _).mono ?_
  rintro e zw11 ⟨rfl, rfl⟩
  generalize hg : World.drewN w10 _ = w11
  have hb : Below w10.heap.size w10 w11 := by rw [← hg]; exact below_drewN' _ (Below.refl _ _)
  clear hg
  replace x_a_0 := x_a_0.below hb
  replace x_a_1 := x_a_1.below hb
  replace x_b_0 := x_b_0.below hb
  replace x_b_1 := x_b_1.below hb
  replace B_ba := B_ba.below hb
  replace B_bb := B_bb.below hb
  replace B_zx_a := B_zx_a.below hb
  replace B_zx_b := B_zx_b.below hb
  have hs_w11 : w10.heap.size ≤ w11.heap.size := hb.size
  replace hT := below_to hT hb hT.size
  clear hb
  clear l_ba k_ba_0 k_ba_1 l_bb k_bb_0 k_bb_1 l_zx_a k_zx_a_0 k_zx_a_1 l_zx_b k_zx_b_0 k_zx_b_1
  have l_ba := B_ba.lt
  have k_ba_0 := B_ba.cell 0 _ rfl
  have k_ba_1 := B_ba.cell 1 _ rfl
  have l_bb := B_bb.lt
  have k_bb_0 := B_bb.cell 0 _ rfl
  have k_bb_1 := B_bb.cell 1 _ rfl
  have l_zx_a := B_zx_a.lt
  have k_zx_a_0 := B_zx_a.cell 0 _ rfl
  have k_zx_a_1 := B_zx_a.cell 1 _ rfl
  have l_zx_b := B_zx_b.lt
  have k_zx_b_0 := B_zx_b.cell 0 _ rfl
  have k_zx_b_1 := B_zx_b.cell 1 _ rfl
  have hlt_ba := B_ba.lt
  have hlt_bb := B_bb.lt
  have hlt_zx_a := B_zx_a.lt
  have hlt_zx_b := B_zx_b.lt
  go_wp2
  go_region_held3 (fun w' => w'.cell? ⟨w6.heap.size, 0, none⟩ = some ((.slice A_x_a_0 xa0.length c_x_a_0)) ∧ w'.cell? ⟨w6.heap.size, 1, none⟩ = some ((.slice A_x_a_1 xa1.length c_x_a_1)) ∧ w'.cell? ⟨w.heap.size, 0, none⟩ = some (.slice Aa0 xa0.length capa0) ∧ w'.cell? ⟨w.heap.size, 1, none⟩ = some (.slice Aa1 xa1.length capa1))
    (first
      | go_keep
      | (go_split_ands; refine ⟨?_, ?_, ?_, ?_⟩ <;> (rw [hb13.cell (by have z0 := hb12.size; simp at z0 ⊢; omega)]; assumption))
      | (go_split_ands; refine ⟨?_, ?_, ?_, ?_⟩ <;> (rw [hb12.cell (by  try simp; omega)]; assumption)))
    (first
      | (go_at_call 14; refine (toShare_any _ xa0 _ xa1 hma0 hma1 _ ?_ ?_).mono ?_; (exact HRa0.out.below (hT.drew)); (exact HRa1.out.below (hT.drew)); rintro e w12 ⟨v_ita_0, v_ita_1, m_ita1, rfl, ita_0, ita_1, -, -, hb12⟩)
      | (go_at_call 16; refine (eqShare_any _ _ xa0 xa0 _ _ xa1 xa1 hma0 hma0 hma1 hma1 _ ?_ ?_ rfl ?_ ?_ rfl).mono ?_; (exact ((x_a_0.below ((Below.refl _ _).drew)).below hb12).rd); (exact ita_0.rd); (exact ((x_a_1.below ((Below.refl _ _).drew)).below hb12).rd); (exact ita_1.rd); rintro e w13 ⟨rfl, hb13⟩))
  have hb : Below w11.heap.size w11 w13 := below_to (below_to ((Below.refl w11.heap.size w11).drew) hb12 (by simp)) hb13 (by have z0 := hb12.size; simp at z0 ⊢; omega)
  clear ita_0 ita_1 hb12 hb13 hlt_ba hlt_bb hlt_zx_a hlt_zx_b
  replace x_a_0 := x_a_0.below hb
  replace x_a_1 := x_a_1.below hb
  replace x_b_0 := x_b_0.below hb
  replace x_b_1 := x_b_1.below hb
  replace B_ba := B_ba.below hb
  replace B_bb := B_bb.below hb
  replace B_zx_a := B_zx_a.below hb
  replace B_zx_b := B_zx_b.below hb
  have hs_w13 : w11.heap.size ≤ w13.heap.size := hb.size
  replace hT := below_to hT hb hT.size
  clear hb
  clear l_ba k_ba_0 k_ba_1 l_bb k_bb_0 k_bb_1 l_zx_a k_zx_a_0 k_zx_a_1 l_zx_b k_zx_b_0 k_zx_b_1
  have l_ba := B_ba.lt
  have k_ba_0 := B_ba.cell 0 _ rfl
  have k_ba_1 := B_ba.cell 1 _ rfl
  have l_bb := B_bb.lt
  have k_bb_0 := B_bb.cell 0 _ rfl
  have k_bb_1 := B_bb.cell 1 _ rfl
  have l_zx_a := B_zx_a.lt
  have k_zx_a_0 := B_zx_a.cell 0 _ rfl
  have k_zx_a_1 := B_zx_a.cell 1 _ rfl
  have l_zx_b := B_zx_b.lt
  have k_zx_b_0 := B_zx_b.cell 0 _ rfl
  have k_zx_b_1 := B_zx_b.cell 1 _ rfl
  have hlt_ba := B_ba.lt
  have hlt_bb := B_bb.lt
  have hlt_zx_a := B_zx_a.lt
  have hlt_zx_b := B_zx_b.lt
  go_wp2
  go_region_held3 (fun w' => w'.cell? ⟨w8.heap.size, 0, none⟩ = some ((.slice A_x_b_0 xb0.length c_x_b_0)) ∧ w'.cell? ⟨w8.heap.size, 1, none⟩ = some ((.slice A_x_b_1 xb1.length c_x_b_1)) ∧ w'.cell? ⟨w.heap.size + 1, 0, none⟩ = some (.slice Ab0 xb0.length capb0) ∧ w'.cell? ⟨w.heap.size + 1, 1, none⟩ = some (.slice Ab1 xb1.length capb1))
    (first
      | go_keep
      | (go_split_ands; refine ⟨?_, ?_, ?_, ?_⟩ <;> (rw [hb15.cell (by have z0 := hb14.size; simp at z0 ⊢; omega)]; assumption))
      | (go_split_ands; refine ⟨?_, ?_, ?_, ?_⟩ <;> (rw [hb14.cell (by  try simp; omega)]; assumption)))
    (first
      | (go_at_call 14; refine (toShare_any _ xb0 _ xb1 hmb0 hmb1 _ ?_ ?_).mono ?_; (exact HRb0.out.below (hT.drew)); (exact HRb1.out.below (hT.drew)); rintro e w14 ⟨v_itb_0, v_itb_1, m_itb1, rfl, itb_0, itb_1, -, -, hb14⟩)
      | (go_at_call 16; refine (eqShare_any _ _ xb0 xb0 _ _ xb1 xb1 hmb0 hmb0 hmb1 hmb1 _ ?_ ?_ rfl ?_ ?_ rfl).mono ?_; (exact ((x_b_0.below ((Below.refl _ _).drew)).below hb14).rd); (exact itb_0.rd); (exact ((x_b_1.below ((Below.refl _ _).drew)).below hb14).rd); (exact itb_1.rd); rintro e w15 ⟨rfl, hb15⟩))
  have hb : Below w13.heap.size w13 w15 := below_to (below_to ((Below.refl w13.heap.size w13).drew) hb14 (by simp)) hb15 (by have z0 := hb14.size; simp at z0 ⊢; omega)
  clear itb_0 itb_1 hb14 hb15 hlt_ba hlt_bb hlt_zx_a hlt_zx_b
  replace x_a_0 := x_a_0.below hb
  replace x_a_1 := x_a_1.below hb
  replace x_b_0 := x_b_0.below hb
  replace x_b_1 := x_b_1.below hb
  replace B_ba := B_ba.below hb
  replace B_bb := B_bb.below hb
  replace B_zx_a := B_zx_a.below hb
  replace B_zx_b := B_zx_b.below hb
  have hs_w15 : w13.heap.size ≤ w15.heap.size := hb.size
  replace hT := below_to hT hb hT.size
  clear hb
  clear l_ba k_ba_0 k_ba_1 l_bb k_bb_0 k_bb_1 l_zx_a k_zx_a_0 k_zx_a_1 l_zx_b k_zx_b_0 k_zx_b_1
  have l_ba := B_ba.lt
  have k_ba_0 := B_ba.cell 0 _ rfl
  have k_ba_1 := B_ba.cell 1 _ rfl
  have l_bb := B_bb.lt
  have k_bb_0 := B_bb.cell 0 _ rfl
  have k_bb_1 := B_bb.cell 1 _ rfl
  have l_zx_a := B_zx_a.lt
  have k_zx_a_0 := B_zx_a.cell 0 _ rfl
  have k_zx_a_1 := B_zx_a.cell 1 _ rfl
  have l_zx_b := B_zx_b.lt
  have k_zx_b_0 := B_zx_b.cell 0 _ rfl
  have k_zx_b_1 := B_zx_b.cell 1 _ rfl
  go_wp2
  go_ret
  exact ⟨rfl, hT⟩

/-! The row's step, and the statement. -/
section
open Go.ChangeShapes Go.WideShapes Go.ChangeAt Go.RowKit
set_option maxRecDepth 100000 in
theorem lawApartShares_lifted (os : Os) (started : os.Started) (H : Type) (enc : TypeId × Value → H) :
    ReturnsInHanded {} Try.checked os 11 .any (Rows.fnExactApartSharesSpec.pre6 enc Try.prog Try.f11 Rows.fnExactApartSharesRow.domain false) (Rows.fnExactApartSharesSpec.post enc Try.prog Try.f11 false true false false) := by
  refine returnsInHanded_of_change (C := Try.checked) own_knob started (by kernel_rfl) Try.func11
    (ChangeSpec.witness6 (enc := enc) (C := Try.checked) false ⟨#[], #[.agg #[.slice none 0 0, .slice none 0 0], .agg #[.slice none 0 0, .slice none 0 0]], []⟩ 8 (by kernel_rfl) (by kernel_rfl) (by kernel_rfl) (by kernel_rfl)) ?_
  intro W base args ds gs before hval0 hW hcnd _
  have hval : ∀ (j : Nat) t v, Try.f11.params[j]? = some t → args[j]? = some v → Value.okWide Try.prog W .any base t v := hval0
  have hW' := hW
  obtain ⟨p, q, hA0, hV, rfl, hfz, hnd⟩ := hW
  have hA : DataW.TrodAll enc Try.prog W 0 (fun _ => true) true Try.f11.params.toList args.toList ds p := hA0
  have hold := fun x hx => hW'.lt x hx
  rw [Try.params11] at hA hval
  have hl : laidOutB Try.prog = true := by kernel_rfl
  obtain ⟨v0, vs0, d0, ds0, p0, q0, hargs, rfl, rfl, h0, r0⟩ := trodAll_cons hA
  obtain ⟨v1, vs1, d1, ds1, p1, q1, rfl, rfl, rfl, h1, r1⟩ := trodAll_cons r0
  obtain ⟨rfl, rfl, rfl⟩ := trodAll_nil r1
  obtain rfl : args = #[v0, v1] := by cases args; simp_all
  obtain ⟨rfl, rfl⟩ := trodVars_none hV
  obtain ⟨sa0, xa0, sa1, xa1, rfl, hr00, hx00, hr01, hx01⟩ := open_share (hval 0 24 v0 rfl rfl) h0
  obtain ⟨sb0, xb0, sb1, xb1, rfl, hr10, hx10, hr11, hx11⟩ := open_share (hval 1 24 v1 rfl rfl) h1
  clear hA0 hval0
  refine (lawApartShares_any _ xa0 _ xa1 _ xb0 _ xb1 W hr00 hx00 hr01 hx01 hr10 hx10 hr11 hx11).mono fun e W' ⟨he, hg⟩ => ?_
  subst he
  exact ⟨_, rfl, post_below (pa := _) (pv := []) hW' (fun _ _ _ => (trodAll_cons_mk (shut_bool Try.underlying4 _) trodAll_mk0)) (fun sp hsp => (trodAll_cons_mk (WideElems.Trod_stays hl (by kernel_rfl) (of_decide_eq_true (by kernel_rfl)) h0 (fun x hx => hg.same (hold x (by simp [hx]))) (fun x hx => hsp x (by simp [hx]))) (trodAll_cons_mk (WideElems.Trod_stays hl (by kernel_rfl) (of_decide_eq_true (by kernel_rfl)) h1 (fun x hx => hg.same (hold x (by simp [hx]))) (fun x hx => hsp x (by simp [hx]))) trodAll_mk0))) (fun _ _ => rfl) rfl
    hg (ok_one (by kernel_rfl) rfl (okWide_bool_mk Try.underlying4 _))⟩

theorem fnApartShares_holds : Rows.FnExactApartSharesSaid :=
  OpenClaim.holds_of_wide 11 Try.f11 rfl rfl rfl rfl rfl rfl rfl ⟨rfl, rfl, rfl, rfl, rfl⟩ rfl rfl rfl rfl rfl (by kernel_rfl) Try.func11 (by kernel_rfl)
    (of_decide_eq_true (by kernel_rfl)) (by unfold Func.isWrapper; first | (rw [if_pos (by decide +kernel)]; kernel_rfl) | (rw [if_neg (by decide +kernel)]; exact ⟨rfl, rfl⟩))
    (fun os started H enc _ => lawApartShares_lifted os started H enc)
end
#print axioms fnApartShares_holds
end Go.Proofs.Ytkohhhmllekokaa
