/-
  For every rate and number: the program's RareShare returns what the reference's returns. No condition.
-/
import Derived.Test.YtobheippncjjiaaRare2
import Derived.Test.YtobheippncjjiaaShareOpen
import Derived.Deep.RegionHeld3
namespace Go.Proofs.Ytobheippncjjiaa
open Go.RowKit
attribute [local go_sem] run_up_


set_option maxHeartbeats 3200000 in
theorem lawRareShare_any (r : Nat) (n : Int) (w : World)  :
    Calls Try.prog 13 #[.float .f32 r, .int .i64 n] w fun e w' => e = .returned (.bool true) ∧ Below w.heap.size w w' := by
  go_enter Try.func13, Try.ntmps13
  have hT := Below.refl w.heap.size w
  go_wp2_with fail
  refine (specRareShare_any r n _ ).mono ?_
  rintro e w1 ⟨v_w_0_0, y_w_0_0, v_w_0_1, y_w_0_1, rfl, w_0_0, w_0_1, p_w_001, l_w_0_0, l_w_0_1, a_w_0_0, a_w_0_1, hb⟩
  have A_w_0_0 := Lib.hid a_w_0_0
  clear a_w_0_0
  have A_w_0_1 := Lib.hid a_w_0_1
  clear a_w_0_1
  obtain ⟨lo_w_0_0, hi_w_0_0, lo_w_0_1, hi_w_0_1, r_w_0_0, r_w_0_1, q_w_01, q_w_02, q_w_03, q_w_04, q_w_05, q_w_06, q_w_07⟩ := own_pt2 w_0_0 w_0_1 p_w_001 hb.size
  clear w_0_0 w_0_1 p_w_001
  have w_0_0 := r_w_0_0
  have w_0_1 := r_w_0_1
  clear r_w_0_0 r_w_0_1
  obtain ⟨A_vw_0_0, c_w_0_0, rfl, -, -⟩ := w_0_0.rd
  obtain ⟨A_vw_0_1, c_w_0_1, rfl, -, -⟩ := w_0_1.rd
  have hs_w1 : w.heap.size ≤ w1.heap.size := hb.size
  replace hT := below_to hT hb hT.size
  clear hb
  go_wp2_with fail
  have hb : Below w1.heap.size w1 (w1.alloc (.cells ([(.slice A_vw_0_0 y_w_0_0.length c_w_0_0), (.slice A_vw_0_1 y_w_0_1.length c_w_0_1)] : List Value).toArray 33)) := below_alloc _ _
  have B_zw_0 : BoxAt (w1.alloc (.cells ([(.slice A_vw_0_0 y_w_0_0.length c_w_0_0), (.slice A_vw_0_1 y_w_0_1.length c_w_0_1)] : List Value).toArray 33)) w1.heap.size [(.slice A_vw_0_0 y_w_0_0.length c_w_0_0), (.slice A_vw_0_1 y_w_0_1.length c_w_0_1)] := BoxAt.new _ _ _
  have hz_zw_0 : (w1.alloc (.cells ([(.slice A_vw_0_0 y_w_0_0.length c_w_0_0), (.slice A_vw_0_1 y_w_0_1.length c_w_0_1)] : List Value).toArray 33)).heap.size = w1.heap.size + 1 := size_alloc _ _
  generalize hg_zw_0 : World.alloc w1 _ = w2 at *
  clear hg_zw_0
  replace w_0_0 := w_0_0.below hb
  replace w_0_1 := w_0_1.below hb
  have hs_w2 : w1.heap.size ≤ w2.heap.size := hb.size
  replace hT := below_to hT hb hT.size
  clear hb
  have l_zw_0 := B_zw_0.lt
  have k_zw_0_0 := B_zw_0.cell 0 _ rfl
  have k_zw_0_1 := B_zw_0.cell 1 _ rfl
  go_wp2_with fail
  refine (implRareShare_any r n _ ).mono ?_
  rintro e w3 ⟨v_g_0_0, y_g_0_0, v_g_0_1, y_g_0_1, rfl, g_0_0, g_0_1, p_g_001, l_g_0_0, l_g_0_1, a_g_0_0, a_g_0_1, hb⟩
  have A_g_0_0 := Lib.hid a_g_0_0
  clear a_g_0_0
  have A_g_0_1 := Lib.hid a_g_0_1
  clear a_g_0_1
  obtain ⟨lo_g_0_0, hi_g_0_0, lo_g_0_1, hi_g_0_1, r_g_0_0, r_g_0_1, q_g_01, q_g_02, q_g_03, q_g_04, q_g_05, q_g_06, q_g_07⟩ := own_pt2 g_0_0 g_0_1 p_g_001 hb.size
  clear g_0_0 g_0_1 p_g_001
  have g_0_0 := r_g_0_0
  have g_0_1 := r_g_0_1
  clear r_g_0_0 r_g_0_1
  obtain ⟨A_vg_0_0, c_g_0_0, rfl, -, -⟩ := g_0_0.rd
  obtain ⟨A_vg_0_1, c_g_0_1, rfl, -, -⟩ := g_0_1.rd
  replace w_0_0 := w_0_0.below hb
  replace w_0_1 := w_0_1.below hb
  replace B_zw_0 := B_zw_0.below hb
  have hs_w3 : w2.heap.size ≤ w3.heap.size := hb.size
  replace hT := below_to hT hb hT.size
  clear hb
  clear l_zw_0 k_zw_0_0 k_zw_0_1
  have l_zw_0 := B_zw_0.lt
  have k_zw_0_0 := B_zw_0.cell 0 _ rfl
  have k_zw_0_1 := B_zw_0.cell 1 _ rfl
  go_wp2_with fail
  have hb : Below w3.heap.size w3 (w3.alloc (.cells ([(.slice A_vg_0_0 y_g_0_0.length c_g_0_0), (.slice A_vg_0_1 y_g_0_1.length c_g_0_1)] : List Value).toArray 33)) := below_alloc _ _
  have B_zg_0 : BoxAt (w3.alloc (.cells ([(.slice A_vg_0_0 y_g_0_0.length c_g_0_0), (.slice A_vg_0_1 y_g_0_1.length c_g_0_1)] : List Value).toArray 33)) w3.heap.size [(.slice A_vg_0_0 y_g_0_0.length c_g_0_0), (.slice A_vg_0_1 y_g_0_1.length c_g_0_1)] := BoxAt.new _ _ _
  have hz_zg_0 : (w3.alloc (.cells ([(.slice A_vg_0_0 y_g_0_0.length c_g_0_0), (.slice A_vg_0_1 y_g_0_1.length c_g_0_1)] : List Value).toArray 33)).heap.size = w3.heap.size + 1 := size_alloc _ _
  generalize hg_zg_0 : World.alloc w3 _ = w4 at *
  clear hg_zg_0
  replace w_0_0 := w_0_0.below hb
  replace w_0_1 := w_0_1.below hb
  replace g_0_0 := g_0_0.below hb
  replace g_0_1 := g_0_1.below hb
  replace B_zw_0 := B_zw_0.below hb
  have hs_w4 : w3.heap.size ≤ w4.heap.size := hb.size
  replace hT := below_to hT hb hT.size
  clear hb
  clear l_zw_0 k_zw_0_0 k_zw_0_1
  have l_zw_0 := B_zw_0.lt
  have k_zw_0_0 := B_zw_0.cell 0 _ rfl
  have k_zw_0_1 := B_zw_0.cell 1 _ rfl
  have l_zg_0 := B_zg_0.lt
  have k_zg_0_0 := B_zg_0.cell 0 _ rfl
  have k_zg_0_1 := B_zg_0.cell 1 _ rfl
  go_wp2_with fail
  refine (eqShare_any _ _ y_g_0_0 y_w_0_0 _ _ y_g_0_1 y_w_0_1 (Nat.le_trans l_g_0_0 (by omega)) (Nat.le_trans l_w_0_0 (by omega)) (Nat.le_trans l_g_0_1 (by omega)) (Nat.le_trans l_w_0_1 (by omega)) _ g_0_0.rd w_0_0.rd (A_g_0_0.out.trans A_w_0_0.out.symm) g_0_1.rd w_0_1.rd (A_g_0_1.out.trans A_w_0_1.out.symm)).mono ?_
  rintro e w5 ⟨rfl, hb⟩
  replace w_0_0 := w_0_0.below hb
  replace w_0_1 := w_0_1.below hb
  replace g_0_0 := g_0_0.below hb
  replace g_0_1 := g_0_1.below hb
  replace B_zw_0 := B_zw_0.below hb
  replace B_zg_0 := B_zg_0.below hb
  have hs_w5 : w4.heap.size ≤ w5.heap.size := hb.size
  replace hT := below_to hT hb hT.size
  clear hb
  clear l_zw_0 k_zw_0_0 k_zw_0_1 l_zg_0 k_zg_0_0 k_zg_0_1
  have l_zw_0 := B_zw_0.lt
  have k_zw_0_0 := B_zw_0.cell 0 _ rfl
  have k_zw_0_1 := B_zw_0.cell 1 _ rfl
  have l_zg_0 := B_zg_0.lt
  have k_zg_0_0 := B_zg_0.cell 0 _ rfl
  have k_zg_0_1 := B_zg_0.cell 1 _ rfl
  go_wp2_with fail
  refine (markShare_any _ _ _ _ _ (by omega) (by omega) _ _ _ _ _ g_0_0 g_0_1 (by have := l_g_0_0; omega) (by have := l_g_0_1; omega) (by omega) (by omega) (by omega) (by omega) (by omega)).mono ?_
  rintro e w6 ⟨w6V0, w6V1, rfl, hb, ht0, ht1, om0, om1⟩
  have hs_w6V0 : w5.heap.size ≤ w6V0.heap.size := hb.size
  have hs_w6V1 : w6V0.heap.size ≤ w6V1.heap.size := ht0.size
  have hs_w6 : w6V1.heap.size ≤ w6.heap.size := ht1.size
  replace w_0_0 := ((w_0_0.below hb).touch ht0 (by omega)).touch ht1 (by omega)
  replace w_0_1 := ((w_0_1.below hb).touch ht0 (by omega)).touch ht1 (by omega)
  replace B_zw_0 := ((B_zw_0.below hb).touch ht0 (by omega)).touch ht1 (by omega)
  replace B_zg_0 := ((B_zg_0.below hb).touch ht0 (by omega)).touch ht1 (by omega)
  replace hT := ((below_to hT hb hT.size).trans (ht0.below (by omega) (by omega))).trans (ht1.below (by omega) (by omega))
  have g_0_0 := om0
  have g_0_1 := om1
  clear hb ht0 ht1 om0 om1
  clear l_zw_0 k_zw_0_0 k_zw_0_1 l_zg_0 k_zg_0_0 k_zg_0_1
  have l_zw_0 := B_zw_0.lt
  have k_zw_0_0 := B_zw_0.cell 0 _ rfl
  have k_zw_0_1 := B_zw_0.cell 1 _ rfl
  have l_zg_0 := B_zg_0.lt
  have k_zg_0_0 := B_zg_0.cell 0 _ rfl
  have k_zg_0_1 := B_zg_0.cell 1 _ rfl
  go_wp2_with fail
  refine (heldShare_any _ y_g_0_0.length _ y_g_0_1.length _ (by omega) (by omega) _ g_0_0.rd g_0_1.rd (by have := l_g_0_0; omega) (by have := l_g_0_1; omega)).mono ?_
  rintro e w7 ⟨rfl, hb⟩
  replace w_0_0 := w_0_0.below hb
  replace w_0_1 := w_0_1.below hb
  replace g_0_0 := g_0_0.below hb
  replace g_0_1 := g_0_1.below hb
  replace B_zw_0 := B_zw_0.below hb
  replace B_zg_0 := B_zg_0.below hb
  have hs_w7 : w6.heap.size ≤ w7.heap.size := hb.size
  replace hT := below_to hT hb hT.size
  clear hb
  clear l_zw_0 k_zw_0_0 k_zw_0_1 l_zg_0 k_zg_0_0 k_zg_0_1
  have l_zw_0 := B_zw_0.lt
  have k_zw_0_0 := B_zw_0.cell 0 _ rfl
  have k_zw_0_1 := B_zw_0.cell 1 _ rfl
  have l_zg_0 := B_zg_0.lt
  have k_zg_0_0 := B_zg_0.cell 0 _ rfl
  have k_zg_0_1 := B_zg_0.cell 1 _ rfl
  go_wp2_with fail
  refine (implRareShare_any r n _ ).mono ?_
  rintro e w8 ⟨v_h_0_0, y_h_0_0, v_h_0_1, y_h_0_1, rfl, h_0_0, h_0_1, p_h_001, l_h_0_0, l_h_0_1, a_h_0_0, a_h_0_1, hb⟩
  have A_h_0_0 := Lib.hid a_h_0_0
  clear a_h_0_0
  have A_h_0_1 := Lib.hid a_h_0_1
  clear a_h_0_1
  obtain ⟨lo_h_0_0, hi_h_0_0, lo_h_0_1, hi_h_0_1, r_h_0_0, r_h_0_1, q_h_01, q_h_02, q_h_03, q_h_04, q_h_05, q_h_06, q_h_07⟩ := own_pt2 h_0_0 h_0_1 p_h_001 hb.size
  clear h_0_0 h_0_1 p_h_001
  have h_0_0 := r_h_0_0
  have h_0_1 := r_h_0_1
  clear r_h_0_0 r_h_0_1
  obtain ⟨A_vh_0_0, c_h_0_0, rfl, -, -⟩ := h_0_0.rd
  obtain ⟨A_vh_0_1, c_h_0_1, rfl, -, -⟩ := h_0_1.rd
  replace w_0_0 := w_0_0.below hb
  replace w_0_1 := w_0_1.below hb
  replace g_0_0 := g_0_0.below hb
  replace g_0_1 := g_0_1.below hb
  replace B_zw_0 := B_zw_0.below hb
  replace B_zg_0 := B_zg_0.below hb
  have hs_w8 : w7.heap.size ≤ w8.heap.size := hb.size
  replace hT := below_to hT hb hT.size
  clear hb
  clear l_zw_0 k_zw_0_0 k_zw_0_1 l_zg_0 k_zg_0_0 k_zg_0_1
  have l_zw_0 := B_zw_0.lt
  have k_zw_0_0 := B_zw_0.cell 0 _ rfl
  have k_zw_0_1 := B_zw_0.cell 1 _ rfl
  have l_zg_0 := B_zg_0.lt
  have k_zg_0_0 := B_zg_0.cell 0 _ rfl
  have k_zg_0_1 := B_zg_0.cell 1 _ rfl
  go_wp2_with fail
  have hb : Below w8.heap.size w8 (w8.alloc (.cells ([(.slice A_vh_0_0 y_h_0_0.length c_h_0_0), (.slice A_vh_0_1 y_h_0_1.length c_h_0_1)] : List Value).toArray 33)) := below_alloc _ _
  have B_zh_0 : BoxAt (w8.alloc (.cells ([(.slice A_vh_0_0 y_h_0_0.length c_h_0_0), (.slice A_vh_0_1 y_h_0_1.length c_h_0_1)] : List Value).toArray 33)) w8.heap.size [(.slice A_vh_0_0 y_h_0_0.length c_h_0_0), (.slice A_vh_0_1 y_h_0_1.length c_h_0_1)] := BoxAt.new _ _ _
  have hz_zh_0 : (w8.alloc (.cells ([(.slice A_vh_0_0 y_h_0_0.length c_h_0_0), (.slice A_vh_0_1 y_h_0_1.length c_h_0_1)] : List Value).toArray 33)).heap.size = w8.heap.size + 1 := size_alloc _ _
  generalize hg_zh_0 : World.alloc w8 _ = w9 at *
  clear hg_zh_0
  replace w_0_0 := w_0_0.below hb
  replace w_0_1 := w_0_1.below hb
  replace g_0_0 := g_0_0.below hb
  replace g_0_1 := g_0_1.below hb
  replace h_0_0 := h_0_0.below hb
  replace h_0_1 := h_0_1.below hb
  replace B_zw_0 := B_zw_0.below hb
  replace B_zg_0 := B_zg_0.below hb
  have hs_w9 : w8.heap.size ≤ w9.heap.size := hb.size
  replace hT := below_to hT hb hT.size
  clear hb
  clear l_zw_0 k_zw_0_0 k_zw_0_1 l_zg_0 k_zg_0_0 k_zg_0_1
  have l_zw_0 := B_zw_0.lt
  have k_zw_0_0 := B_zw_0.cell 0 _ rfl
  have k_zw_0_1 := B_zw_0.cell 1 _ rfl
  have l_zg_0 := B_zg_0.lt
  have k_zg_0_0 := B_zg_0.cell 0 _ rfl
  have k_zg_0_1 := B_zg_0.cell 1 _ rfl
  have l_zh_0 := B_zh_0.lt
  have k_zh_0_0 := B_zh_0.cell 0 _ rfl
  have k_zh_0_1 := B_zh_0.cell 1 _ rfl
  go_wp2_with fail
  refine (eqShare_any _ _ y_h_0_0 y_w_0_0 _ _ y_h_0_1 y_w_0_1 (Nat.le_trans l_h_0_0 (by omega)) (Nat.le_trans l_w_0_0 (by omega)) (Nat.le_trans l_h_0_1 (by omega)) (Nat.le_trans l_w_0_1 (by omega)) _ h_0_0.rd w_0_0.rd (A_h_0_0.out.trans A_w_0_0.out.symm) h_0_1.rd w_0_1.rd (A_h_0_1.out.trans A_w_0_1.out.symm)).mono ?_
  rintro e w10 ⟨rfl, hb⟩
  replace w_0_0 := w_0_0.below hb
  replace w_0_1 := w_0_1.below hb
  replace g_0_0 := g_0_0.below hb
  replace g_0_1 := g_0_1.below hb
  replace h_0_0 := h_0_0.below hb
  replace h_0_1 := h_0_1.below hb
  replace B_zw_0 := B_zw_0.below hb
  replace B_zg_0 := B_zg_0.below hb
  replace B_zh_0 := B_zh_0.below hb
  have hs_w10 : w9.heap.size ≤ w10.heap.size := hb.size
  replace hT := below_to hT hb hT.size
  clear hb
  clear l_zw_0 k_zw_0_0 k_zw_0_1 l_zg_0 k_zg_0_0 k_zg_0_1 l_zh_0 k_zh_0_0 k_zh_0_1
  have l_zw_0 := B_zw_0.lt
  have k_zw_0_0 := B_zw_0.cell 0 _ rfl
  have k_zw_0_1 := B_zw_0.cell 1 _ rfl
  have l_zg_0 := B_zg_0.lt
  have k_zg_0_0 := B_zg_0.cell 0 _ rfl
  have k_zg_0_1 := B_zg_0.cell 1 _ rfl
  have l_zh_0 := B_zh_0.lt
  have k_zh_0_0 := B_zh_0.cell 0 _ rfl
  have k_zh_0_1 := B_zh_0.cell 1 _ rfl
  go_wp2_with fail
  refine (heldShare_any _ y_g_0_0.length _ y_g_0_1.length _ (by omega) (by omega) _ g_0_0.rd g_0_1.rd (by have := l_g_0_0; omega) (by have := l_g_0_1; omega)).mono ?_
  rintro e w11 ⟨rfl, hb⟩
  replace w_0_0 := w_0_0.below hb
  replace w_0_1 := w_0_1.below hb
  replace g_0_0 := g_0_0.below hb
  replace g_0_1 := g_0_1.below hb
  replace h_0_0 := h_0_0.below hb
  replace h_0_1 := h_0_1.below hb
  replace B_zw_0 := B_zw_0.below hb
  replace B_zg_0 := B_zg_0.below hb
  replace B_zh_0 := B_zh_0.below hb
  have hs_w11 : w10.heap.size ≤ w11.heap.size := hb.size
  replace hT := below_to hT hb hT.size
  clear hb
  clear l_zw_0 k_zw_0_0 k_zw_0_1 l_zg_0 k_zg_0_0 k_zg_0_1 l_zh_0 k_zh_0_0 k_zh_0_1
  have l_zw_0 := B_zw_0.lt
  have k_zw_0_0 := B_zw_0.cell 0 _ rfl
  have k_zw_0_1 := B_zw_0.cell 1 _ rfl
  have l_zg_0 := B_zg_0.lt
  have k_zg_0_0 := B_zg_0.cell 0 _ rfl
  have k_zg_0_1 := B_zg_0.cell 1 _ rfl
  have l_zh_0 := B_zh_0.lt
  have k_zh_0_0 := B_zh_0.cell 0 _ rfl
  have k_zh_0_1 := B_zh_0.cell 1 _ rfl
  go_wp2
  go_ret
  exact ⟨rfl, hT⟩

/-! The row's step, and the statement. -/
section
open Go.ChangeShapes Go.WideShapes Go.ChangeAt Go.RowKit
set_option maxRecDepth 100000 in
theorem lawRareShare_lifted (os : Os) (started : os.Started) (H : Type) (enc : TypeId × Value → H) :
    ReturnsInHanded {} Try.checked os 13 .any (Rows.fnExactRareShareSpec.pre6 enc Try.prog Try.f13 Rows.fnExactRareShareRow.domain false) (Rows.fnExactRareShareSpec.post enc Try.prog Try.f13 false true false false) := by
  refine returnsInHanded_of_change (C := Try.checked) own_knob started (by kernel_rfl) Try.func13
    (ChangeSpec.witness6 (enc := enc) (C := Try.checked) false ⟨#[], #[.float .f32 0, .int .i64 0], []⟩ 8 (by kernel_rfl) (by kernel_rfl) (by kernel_rfl) (by kernel_rfl)) ?_
  intro W base args ds gs before hval0 hW hcnd _
  have hval : ∀ (j : Nat) t v, Try.f13.params[j]? = some t → args[j]? = some v → Value.okWide Try.prog W .any base t v := hval0
  have hW' := hW
  obtain ⟨p, q, hA0, hV, rfl, hfz, hnd⟩ := hW
  have hA : DataW.TrodAll enc Try.prog W 0 (fun _ => true) true Try.f13.params.toList args.toList ds p := hA0
  have hold := fun x hx => hW'.lt x hx
  rw [Try.params13] at hA hval
  have hl : laidOutB Try.prog = true := by kernel_rfl
  obtain ⟨v0, vs0, d0, ds0, p0, q0, hargs, rfl, rfl, h0, r0⟩ := trodAll_cons hA
  obtain ⟨v1, vs1, d1, ds1, p1, q1, rfl, rfl, rfl, h1, r1⟩ := trodAll_cons r0
  obtain ⟨rfl, rfl, rfl⟩ := trodAll_nil r1
  obtain rfl : args = #[v0, v1] := by cases args; simp_all
  obtain ⟨rfl, rfl⟩ := trodVars_none hV
  obtain ⟨r, rfl, -, -, w0⟩ := open_float Try.underlying39 (hval 0 39 v0 rfl rfl) h0
  obtain ⟨n, rfl, -, -, w1⟩ := open_int Try.underlying2 (hval 1 2 v1 rfl rfl) h1
  clear hA0 hval0
  refine (lawRareShare_any r n W ).mono fun e W' ⟨he, hg⟩ => ?_
  subst he
  exact ⟨_, rfl, post_below (pa := _) (pv := []) hW' (fun _ _ _ => (trodAll_cons_mk (shut_bool Try.underlying4 _) trodAll_mk0)) (fun sp hsp => (trodAll_cons_mk (WideElems.Trod_stays hl (by kernel_rfl) (of_decide_eq_true (by kernel_rfl)) h0 (fun x hx => hg.same (hold x (by simp [hx]))) (fun x hx => hsp x (by simp [hx]))) (trodAll_cons_mk (WideElems.Trod_stays hl (by kernel_rfl) (of_decide_eq_true (by kernel_rfl)) h1 (fun x hx => hg.same (hold x (by simp [hx]))) (fun x hx => hsp x (by simp [hx]))) trodAll_mk0))) (fun _ _ => rfl) rfl
    hg (ok_one (by kernel_rfl) rfl (okWide_bool_mk Try.underlying4 _))⟩

theorem fnRareShare_holds : Rows.FnExactRareShareSaid :=
  OpenClaim.holds_of_wide 13 Try.f13 rfl rfl rfl rfl rfl rfl rfl ⟨rfl, rfl, rfl, rfl, rfl⟩ rfl rfl rfl rfl rfl (by kernel_rfl) Try.func13 (by kernel_rfl)
    (of_decide_eq_true (by kernel_rfl)) (by unfold Func.isWrapper; first | (rw [if_pos (by decide +kernel)]; kernel_rfl) | (rw [if_neg (by decide +kernel)]; exact ⟨rfl, rfl⟩))
    (fun os started H enc _ => lawRareShare_lifted os started H enc)
end
#print axioms fnRareShare_holds
end Go.Proofs.Ytobheippncjjiaa
