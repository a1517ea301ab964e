/-
  For every list: the program's PlainMany returns what the reference's returns. No condition.
-/
import Derived.Test.YtobheippncjjiaaFl
import Derived.Test.YtobheippncjjiaaLw
import Derived.Test.YtobheippncjjiaaOpen
import Derived.Test.YtobheippncjjiaaApp
namespace Go.Proofs.Ytobheippncjjiaa
open Go.RowKit
attribute [local go_sem] run_up_


def okShares (xs : List Nat) : Bool := xs.all partB && decide (1 ≤ xs.length ∧ xs.length ≤ 64)
theorem okShares_len {xs : List Nat} (h : okShares xs = true) : 1 ≤ xs.length ∧ xs.length ≤ 64 := by
  unfold okShares at h
  simp only [Bool.and_eq_true, decide_eq_true_eq] at h
  exact h.2
/-- What stands for the greatest of x and 1 .. -/
def oneA (x : Option Nat) : Option Nat := if ordF .f32 x (some 1065353216) == some .gt then some 1065353216 else x
theorem abs_oneF (x : Nat) : absF .f32 (oneF x) = oneA (absF .f32 x) := by
  have h1 : absF .f32 1065353216 = some 1065353216 := by decide
  unfold oneF oneA
  rw [show ord32 x 1065353216 = ordF .f32 (absF .f32 x) (absF .f32 1065353216) from ord_abs .f32 _ _, h1]
  split
  · exact h1
  · rfl
def plainOf (xs : List Nat) (x : Nat) : Option Nat := oneA (opF .mul .f32 (absF .f32 x) (absF .f32 (floatOfInt .f32 xs.length)))
def plainTo (xs : List Nat) (k : Nat) : List (Option Nat) := (xs.take k).map (plainOf xs)
theorem plainTo_snoc {xs : List Nat} {k : Nat} {x : Nat} (h : xs[k]? = some x) : plainTo xs (k + 1) = plainTo xs k ++ [plainOf xs x] := by simp [plainTo, take_snoc h]
theorem absL_append (a b : List Nat) : absL (a ++ b) = absL a ++ absL b := by simp [absL]
def RetPlainMany (xs : List Nat) (w : World) (e : Ending) (w' : World) : Prop :=
  ∃ v y, e = .returned (.tuple #[v, .bool (okShares xs)]) ∧ Own fV 39 w' w.heap.size v y ∧ y.length ≤ 1099511627776 ∧ absL y = (if okShares xs = true then plainTo xs xs.length else []) ∧ Below w.heap.size w w'
attribute [local go_sem] run_fl_add run_fl_sub run_fl_mul run_fl_quo

set_option maxHeartbeats 800000 in
theorem specPlainMany_any (v : Value) (xs : List Nat) (hn : xs.length ≤ 1099511627776) (w : World) (hr : Rd fV w v xs) :
    Calls Try.prog 15 #[v] w (RetPlainMany xs w) := by
  have HR := Lib.hid hr
  obtain ⟨A, cap, rfl, hcap, hA⟩ := hr
  have HA := Lib.hid hA
  clear hA
  cases hs : okShares xs
  · have Hs := Lib.hid hs
    clear hs
    go_enter Try.func15, Try.ntmps15
    go_wp2_with (go_at_call 55; refine (l06Shares_any _ xs hn _ HR.out).mono ?_; rintro e w1 ⟨rfl, n, rfl⟩; rw [show (xs.all partB && decide (1 ≤ xs.length ∧ xs.length ≤ 64)) = okShares xs from rfl, Hs.out])
    go_ret2
    exact ⟨_, [], by rw [Hs.out]; rfl, Own.nil, by simp, by simp [Hs.out, absL], below_drewN' _ (Below.refl _ _)⟩
  · have Hs := Lib.hid hs
    have hl := (okShares_len hs).2
    clear hs
    go_enter Try.func15, Try.ntmps15
    go_wp2_with (go_at_call 55; refine (l06Shares_any _ xs hn _ HR.out).mono ?_; rintro e w1 ⟨rfl, n, rfl⟩; rw [show (xs.all partB && decide (1 ≤ xs.length ∧ xs.length ≤ 64)) = okShares xs from rfl, Hs.out])
    go_loopw [4, 5] (fun so si wr => ∃ (k : Nat) (ys : List Nat), k ≤ xs.length ∧ si = .int .i64 k ∧ Own fV 39 wr w.heap.size so ys ∧ ys.length = k ∧ Hid (absL ys = plainTo xs k) ∧ Below w.heap.size w wr) (fun _ si _ => xs.length - (intOf si).toNat)
    case atStart => exact ⟨0, [], by omega, rfl, own_nil_new fV _ _, rfl, rfl, (below_drewN' _ (Below.refl _ _)).alloc (by simp) _⟩
    case round =>
      obtain ⟨k, ys, hk, rfl, hown, hyl, hy, hb⟩ := hrel
      by_cases hlt : k < xs.length
      · obtain ⟨x, hx⟩ := get_of_lt hlt
        obtain ⟨ad, rfl, hbl, hc0⟩ := HA.out k x hx
        have hc : wr.cell? (ad.add k) = some (fV x) := by rw [hb.cell (by rw [add_block]; exact hbl)]; exact hc0
        have HX := Lib.hid hx
        clear hx hc0
        have hz := hb.size
        go_wp2_with (first | (go_at_call 56; refine (l06One_any _ _).mono ?_; rintro e w2 ⟨rfl, rfl⟩) | (at_builtin; go_loud (refine elF_.app (fun _ => rfl) _ rfl _ _ rfl w.heap.size _ ys rfl (Own.alloc (Own.drewN hown _) _) _ _ rfl (rd_one fV _ _ _) (by omega) (by simp; omega) (by simp; omega) ?_)))
        intro v' w' ho hg hbb hp
        go_wp2
        go_roundw
        case rel => exact ⟨k + 1, _, by omega, by go_num, ho, by simp [hyl], by unfold Hid; rw [plainTo_snoc HX.out, absL_append, hy.out]; simp [absL, abs_oneF, abs_flR .mul rfl, plainOf], ((below_drewN' _ hb).alloc (by simpa using hz) _).trans hbb⟩
        case measure => simp [intOf]; omega
      · have hke : k = xs.length := by omega
        have HK := Lib.hid hke
        clear hke
        go_wp2
        go_ret2
        exact ⟨_, ys, by rw [Hs.out]; rfl, hown, by omega, by rw [hy.out, HK.out, if_pos Hs.out], hb⟩

set_option maxHeartbeats 800000 in
theorem implPlainMany_any (v : Value) (xs : List Nat) (hn : xs.length ≤ 1099511627776) (w : World) (hr : Rd fV w v xs) :
    Calls Try.prog 17 #[v] w (RetPlainMany xs w) := by
  have HR := Lib.hid hr
  obtain ⟨A, cap, rfl, hcap, hA⟩ := hr
  have HA := Lib.hid hA
  clear hA
  cases hs : okShares xs
  · have Hs := Lib.hid hs
    clear hs
    go_enter Try.func17, Try.ntmps17
    go_wp2_with (go_at_call 57; refine (areShares_any _ xs hn _ HR.out).mono ?_; rintro e w1 ⟨rfl, n, rfl⟩; rw [show (xs.all partB && decide (1 ≤ xs.length ∧ xs.length ≤ 64)) = okShares xs from rfl, Hs.out])
    go_ret2
    exact ⟨_, [], by rw [Hs.out]; rfl, Own.nil, by simp, by simp [Hs.out, absL], below_drewN' _ (Below.refl _ _)⟩
  · have Hs := Lib.hid hs
    have hl := (okShares_len hs).2
    clear hs
    go_enter Try.func17, Try.ntmps17
    go_wp2_with (go_at_call 57; refine (areShares_any _ xs hn _ HR.out).mono ?_; rintro e w1 ⟨rfl, n, rfl⟩; rw [show (xs.all partB && decide (1 ≤ xs.length ∧ xs.length ≤ 64)) = okShares xs from rfl, Hs.out])
    go_loopw [4, 13] (fun so si wr => ∃ (k : Nat) (ys : List Nat), k ≤ xs.length ∧ si = .int .i64 k ∧ Own fV 39 wr w.heap.size so ys ∧ ys.length = k ∧ Hid (absL ys = plainTo xs k) ∧ Below w.heap.size w wr) (fun _ si _ => xs.length - (intOf si).toNat)
    case atStart => exact ⟨0, [], by omega, rfl, own_nil_new fV _ _, rfl, rfl, (below_drewN' _ (Below.refl _ _)).alloc (by simp) _⟩
    case round =>
      obtain ⟨k, ys, hk, rfl, hown, hyl, hy, hb⟩ := hrel
      by_cases hlt : k < xs.length
      · obtain ⟨x, hx⟩ := get_of_lt hlt
        obtain ⟨ad, rfl, hbl, hc0⟩ := HA.out k x hx
        have hc : wr.cell? (ad.add k) = some (fV x) := by rw [hb.cell (by rw [add_block]; exact hbl)]; exact hc0
        have HX := Lib.hid hx
        clear hx hc0
        have hz := hb.size
        go_wp2_with (first | (go_at_call 58; refine (atMostOne_any _ _).mono ?_; rintro e w2 ⟨rfl, rfl⟩) | (at_builtin; go_loud (refine elF_.app (fun _ => rfl) _ rfl _ _ rfl w.heap.size _ ys rfl (Own.alloc (Own.drewN hown _) _) _ _ rfl (rd_one fV _ _ _) (by omega) (by simp; omega) (by simp; omega) ?_)))
        intro v' w' ho hg hbb hp
        go_wp2
        go_roundw
        case rel => exact ⟨k + 1, _, by omega, by go_num, ho, by simp [hyl], by unfold Hid; rw [plainTo_snoc HX.out, absL_append, hy.out]; simp [absL, abs_oneF, abs_flR .mul rfl, plainOf], ((below_drewN' _ hb).alloc (by simpa using hz) _).trans hbb⟩
        case measure => simp [intOf]; omega
      · have hke : k = xs.length := by omega
        have HK := Lib.hid hke
        clear hke
        go_wp2
        go_ret2
        exact ⟨_, ys, by rw [Hs.out]; rfl, hown, by omega, by rw [hy.out, HK.out, if_pos Hs.out], hb⟩

set_option maxHeartbeats 1600000 in
theorem lawPlainMany_any (va : Value) (xa : List Nat) (w : World) (hra : Rd fV w va xa) :
    Calls Try.prog 3 #[va] w fun e w' => e = .returned (.bool true) ∧ Below w.heap.size w w' := by
  have HRa := Lib.hid hra
  obtain ⟨Aa, capa, rfl, hcapa, hAa⟩ := hra
  clear hAa
  by_cases hna : 1048576 < xa.length
  · go_enter Try.func3, Try.ntmps3
    go_wp2
    go_ret
    exact ⟨rfl, Below.refl _ _⟩
  have hma : xa.length ≤ 1099511627776 := by omega
  go_enter Try.func3, Try.ntmps3
  have hT := Below.refl w.heap.size w
  go_wp2_with fail
  refine (toFloat32S_any _ xa _ (HRa.out.below hT) hma).mono ?_
  rintro e w1 ⟨v_ia, rfl, ia, hb, -⟩
  replace ia := ia.ranged
  have hs_w1 : w.heap.size ≤ w1.heap.size := hb.size
  replace hT := below_to hT hb hT.size
  clear hb
  go_wp2_with fail
  refine (specPlainMany_any _ xa hma _ ia.rd).mono ?_
  rintro e w2 ⟨v_w_0, y_w_0, rfl, w_0, l_w_0, a_w_0, hb⟩
  have A_w_0 := Lib.hid a_w_0
  clear a_w_0
  replace w_0 := w_0.ranged
  replace ia := ia.below hb
  have hs_w2 : w1.heap.size ≤ w2.heap.size := hb.size
  replace hT := below_to hT hb hT.size
  clear hb
  clear ia
  go_wp2_with fail
  refine (toFloat32S_any _ xa _ (HRa.out.below hT) hma).mono ?_
  rintro e w3 ⟨v_x_a, rfl, x_a, hb, -⟩
  replace x_a := x_a.ranged
  replace w_0 := w_0.below hb
  have hs_w3 : w2.heap.size ≤ w3.heap.size := hb.size
  replace hT := below_to hT hb hT.size
  clear hb
  go_wp2_with fail
  refine (implPlainMany_any _ xa hma _ x_a.rd).mono ?_
  rintro e w4 ⟨v_g_0, y_g_0, rfl, g_0, l_g_0, a_g_0, hb⟩
  have A_g_0 := Lib.hid a_g_0
  clear a_g_0
  replace g_0 := g_0.ranged
  replace w_0 := w_0.below hb
  replace x_a := x_a.below hb
  have hs_w4 : w3.heap.size ≤ w4.heap.size := hb.size
  replace hT := below_to hT hb hT.size
  clear hb
  go_wp2_with fail
  refine (eqFloat32S_any _ _ _ _ _ g_0.rd w_0.rd (l_g_0) (l_w_0) (A_g_0.out.trans A_w_0.out.symm)).mono ?_
  rintro e w5 ⟨rfl, hd⟩
  have hb := below_of_drew hd
  clear hd
  replace w_0 := w_0.below hb
  replace x_a := x_a.below hb
  replace g_0 := g_0.below hb
  have hs_w5 : w4.heap.size ≤ w5.heap.size := hb.size
  replace hT := below_to hT hb hT.size
  clear hb
  go_wp2_with fail
  refine (toFloat32S_any _ xa _ (HRa.out.below hT) hma).mono ?_
  rintro e w6 ⟨v_t_a, rfl, t_a, hb, -⟩
  replace t_a := t_a.ranged
  replace w_0 := w_0.below hb
  replace x_a := x_a.below hb
  replace g_0 := g_0.below hb
  have hs_w6 : w5.heap.size ≤ w6.heap.size := hb.size
  replace hT := below_to hT hb hT.size
  clear hb
  go_wp2_with fail
  refine (eqFloat32S_any _ _ _ _ _ x_a.rd t_a.rd (hma) (hma) (rfl)).mono ?_
  rintro e w7 ⟨rfl, hd⟩
  have hb := below_of_drew hd
  clear hd
  replace w_0 := w_0.below hb
  replace x_a := x_a.below hb
  replace g_0 := g_0.below hb
  replace t_a := t_a.below hb
  have hs_w7 : w6.heap.size ≤ w7.heap.size := hb.size
  replace hT := below_to hT hb hT.size
  clear hb
  clear t_a
  go_wp2_with fail
  refine (markFloat32S_any _ _ (1) (by omega) (by omega) _ _ x_a.own (hma) (by omega)).mono ?_
  rintro e w8 ⟨rfl, om, hg⟩
  have ht := Touch.of_grown hg x_a.lt
  replace w_0 := w_0.touch ht (by omega)
  replace g_0 := g_0.touch ht (by omega)
  replace x_a := x_a.again om
  have hs_w8 : w7.heap.size ≤ w8.heap.size := ht.size
  replace hT := hT.trans (ht.below (by omega) (by omega))
  clear om hg ht
  clear x_a
  go_wp2_with fail
  refine (eqFloat32S_any _ _ _ _ _ g_0.rd w_0.rd (l_g_0) (l_w_0) (A_g_0.out.trans A_w_0.out.symm)).mono ?_
  rintro e w9 ⟨rfl, hd⟩
  have hb := below_of_drew hd
  clear hd
  replace w_0 := w_0.below hb
  replace g_0 := g_0.below hb
  have hs_w9 : w8.heap.size ≤ w9.heap.size := hb.size
  replace hT := below_to hT hb hT.size
  clear hb
  go_wp2_with fail
  refine (markFloat32S_any _ _ (1) (by omega) (by omega) _ _ g_0.own (l_g_0) (by omega)).mono ?_
  rintro e w10 ⟨rfl, om, hg⟩
  have ht := Touch.of_grown hg g_0.lt
  replace w_0 := w_0.touch ht (by omega)
  replace g_0 := g_0.again om
  have hs_w10 : w9.heap.size ≤ w10.heap.size := ht.size
  replace hT := hT.trans (ht.below (by omega) (by omega))
  clear om hg ht
  go_wp2_with fail
  refine (heldFloat32S_any _ y_g_0.length ((1)) (by omega) (by omega) _ g_0.rd (l_g_0)).mono ?_
  rintro e z11 ⟨rfl, rfl⟩
  go_wp2_with fail
  refine (toFloat32S_any _ xa _ (HRa.out.below hT) hma).mono ?_
  rintro e w12 ⟨v_ja, rfl, ja, hb, -⟩
  replace ja := ja.ranged
  replace w_0 := w_0.below hb
  replace g_0 := g_0.below hb
  have hs_w12 : w10.heap.size ≤ w12.heap.size := hb.size
  replace hT := below_to hT hb hT.size
  clear hb
  go_wp2_with fail
  refine (implPlainMany_any _ xa hma _ ja.rd).mono ?_
  rintro e w13 ⟨v_h_0, y_h_0, rfl, h_0, l_h_0, a_h_0, hb⟩
  have A_h_0 := Lib.hid a_h_0
  clear a_h_0
  replace h_0 := h_0.ranged
  replace w_0 := w_0.below hb
  replace g_0 := g_0.below hb
  replace ja := ja.below hb
  have hs_w13 : w12.heap.size ≤ w13.heap.size := hb.size
  replace hT := below_to hT hb hT.size
  clear hb
  clear ja
  go_wp2_with fail
  refine (eqFloat32S_any _ _ _ _ _ h_0.rd w_0.rd (l_h_0) (l_w_0) (A_h_0.out.trans A_w_0.out.symm)).mono ?_
  rintro e w14 ⟨rfl, hd⟩
  have hb := below_of_drew hd
  clear hd
  replace w_0 := w_0.below hb
  replace g_0 := g_0.below hb
  replace h_0 := h_0.below hb
  have hs_w14 : w13.heap.size ≤ w14.heap.size := hb.size
  replace hT := below_to hT hb hT.size
  clear hb
  go_wp2_with fail
  refine (heldFloat32S_any _ y_g_0.length ((1)) (by omega) (by omega) _ g_0.rd (l_g_0)).mono ?_
  rintro e z15 ⟨rfl, rfl⟩
  go_wp2
  go_ret
  exact ⟨rfl, hT⟩

/-! The row's step, and the statement. -/
section
open Go.ChangeShapes Go.WideShapes Go.ChangeAt Go.RowKit
set_option maxRecDepth 100000 in
theorem lawPlainMany_lifted (os : Os) (started : os.Started) (H : Type) (enc : TypeId × Value → H) :
    ReturnsInHanded {} Try.checked os 3 .any (Rows.fnExactPlainManySpec.pre6 enc Try.prog Try.f3 Rows.fnExactPlainManyRow.domain false) (Rows.fnExactPlainManySpec.post enc Try.prog Try.f3 false true false false) := by
  refine returnsInHanded_of_change (C := Try.checked) own_knob started (by kernel_rfl) Try.func3
    (ChangeSpec.witness6 (enc := enc) (C := Try.checked) false ⟨#[], #[.slice none 0 0], []⟩ 8 (by kernel_rfl) (by kernel_rfl) (by kernel_rfl) (by kernel_rfl)) ?_
  intro W base args ds gs before hval0 hW hcnd _
  have hval : ∀ (j : Nat) t v, Try.f3.params[j]? = some t → args[j]? = some v → Value.okWide Try.prog W .any base t v := hval0
  have hW' := hW
  obtain ⟨p, q, hA0, hV, rfl, hfz, hnd⟩ := hW
  have hA : DataW.TrodAll enc Try.prog W 0 (fun _ => true) true Try.f3.params.toList args.toList ds p := hA0
  have hold := fun x hx => hW'.lt x hx
  rw [Try.params3] at hA hval
  have hl : laidOutB Try.prog = true := by kernel_rfl
  obtain ⟨v0, vs0, d0, ds0, p0, q0, hargs, rfl, rfl, h0, r0⟩ := trodAll_cons hA
  obtain ⟨rfl, rfl, rfl⟩ := trodAll_nil r0
  obtain rfl : args = #[v0] := by cases args; simp_all
  obtain ⟨rfl, rfl⟩ := trodVars_none hV
  obtain ⟨A0, n0, c0, rfl⟩ := okWide_slice Try.underlying22 (hval 0 22 v0 rfl rfl)
  obtain ⟨xa, hr0⟩ := rd_of_trod fV Try.underlying22 (by kernel_rfl) (elem_float Try.underlying39) h0
  clear hA0 hval0
  refine (lawPlainMany_any _ xa W hr0).mono fun e W' ⟨he, hg⟩ => ?_
  subst he
  exact ⟨_, rfl, post_below (pa := _) (pv := []) hW' (fun _ _ _ => (trodAll_cons_mk (shut_bool Try.underlying4 _) trodAll_mk0)) (fun sp hsp => (trodAll_cons_mk (WideElems.Trod_stays hl (by kernel_rfl) (of_decide_eq_true (by kernel_rfl)) h0 (fun x hx => hg.same (hold x (by simp [hx]))) (fun x hx => hsp x (by simp [hx]))) trodAll_mk0)) (fun _ _ => rfl) rfl
    hg (ok_one (by kernel_rfl) rfl (okWide_bool_mk Try.underlying4 _))⟩

theorem fnPlainMany_holds : Rows.FnExactPlainManySaid :=
  OpenClaim.holds_of_wide 3 Try.f3 rfl rfl rfl rfl rfl rfl rfl ⟨rfl, rfl, rfl, rfl, rfl⟩ rfl rfl rfl rfl rfl (by kernel_rfl) Try.func3 (by kernel_rfl)
    (of_decide_eq_true (by kernel_rfl)) (by unfold Func.isWrapper; first | (rw [if_pos (by decide +kernel)]; kernel_rfl) | (rw [if_neg (by decide +kernel)]; exact ⟨rfl, rfl⟩))
    (fun os started H enc _ => lawPlainMany_lifted os started H enc)
end
#print axioms fnPlainMany_holds
end Go.Proofs.Ytobheippncjjiaa
