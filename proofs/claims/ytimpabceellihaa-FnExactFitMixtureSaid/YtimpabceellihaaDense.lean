/-
  How dense a mixture is: impl.densities and spec.l05Dense, spec.l05At tell the same of every part.
-/
import Derived.Test.YtimpabceellihaaBell
import Derived.Test.YtimpabceellihaaEnt
import Derived.Test.YtimpabceellihaaMean
import Derived.Test.YtimpabceellihaaMixIs
import Derived.Test.YtimpabceellihaaBet
import Derived.Test.YtimpabceellihaaKey
namespace Go.Proofs.Ytimpabceellihaa
open Go.RowKit
attribute [local go_sem] run_fl_add run_fl_sub run_fl_mul run_fl_quo run_up_

/-! What is no NaN. -/
def NumA (o : Option Nat) : Prop := ∃ b, o = some b ∧ ((∃ s m p, FloatKind.f32.format.read b = .number s m p) ∨ ∃ s, FloatKind.f32.format.read b = .infinity s)
theorem numA_near (s : Bool) (m : Nat) (p : Int) : NumA (some (FloatKind.f32.encode (.number s m p))) := by
  refine ⟨_, rfl, ?_⟩
  obtain ⟨r, -, -, h⟩ := near_sign .f32 s m p
  rcases h with ⟨_, h⟩ | h
  · exact .inl ⟨_, _, _, h⟩
  · exact .inr ⟨_, h⟩
theorem numA_inf (s : Bool) : NumA (some (FloatKind.f32.encode (.infinity s))) := ⟨_, rfl, .inr ⟨s, by cases s <;> decide⟩⟩
theorem numA_nan {b : Nat} (h : NumA (some b)) : (FloatKind.f32.decode b).isNaN = false := by
  obtain ⟨b', e, h⟩ := h
  cases e
  show (FloatKind.f32.format.read b).isNaN = false
  rcases h with ⟨s, m, p, h⟩ | ⟨s, h⟩ <;> rw [h] <;> rfl
theorem above_num {x : Nat} (h : aboveB x = true) : ∃ m p, FloatKind.f32.format.read x = .number false m p ∧ m ≠ 0 := by
  unfold aboveB at h
  rw [Bool.and_eq_true, beq_iff_eq] at h
  obtain ⟨h1, h2⟩ := h
  obtain ⟨s, m, p, e⟩ := fin_num h1
  have v0 : vD (.number false 0 (-149)) = 0 := by simp only [vD, mg_zero, sg_zero]
  have ho : ord32 x 0 = (Ieee.Datum.number s m p).order (.number false 0 (-149)) := by
    show (FloatKind.f32.format.read x).order (FloatKind.f32.format.read 0) = _
    rw [e]; rfl
  rw [ho] at h2
  have hv := (order_cmp _ _ _ _ _ _).2.1.1 h2
  rw [v0] at hv
  have hm := mg_nn m p
  cases s
  · refine ⟨m, p, e, ?_⟩
    rintro rfl
    simp only [vD, mg_zero, sg_zero] at hv
    exact absurd hv Rat.lt_irrefl
  · exfalso
    simp only [vD, sg_t] at hv
    grind
theorem numA_sub {x m : Nat} (hx : finB x = true) (hm : finB m = true) : NumA (opF .sub .f32 (absF .f32 x) (absF .f32 m)) := by
  obtain ⟨s, a, i, ex⟩ := fin_num hx
  obtain ⟨t, b, j, em⟩ := fin_num hm
  rw [num_abs ex, num_abs em]
  have eo : opF .sub .f32 (some x) (some m) = ((FloatKind.f32.format.read x).sum (FloatKind.f32.format.read m).opposite).map FloatKind.f32.format.write := rfl
  rw [eo, ex, em]
  show NumA (((Ieee.Datum.number s a i).sum (.number (!t) b j)).map FloatKind.f32.format.write)
  obtain ⟨r, l, p, es, -⟩ := sum_val s a i (!t) b j
  rw [es]
  exact numA_near r l p
theorem numA_quo {o : Option Nat} {y : Nat} (h : NumA o) (hy : aboveB y = true) : NumA (opF .quo .f32 o (absF .f32 y)) := by
  obtain ⟨n, j, ey, hn⟩ := above_num hy
  rw [num_abs ey]
  obtain ⟨u, rfl, hu⟩ := h
  have eo : opF .quo .f32 (some u) (some y) = ((FloatKind.f32.format.read u).quotient (FloatKind.f32.format.fractionBits + 2) (FloatKind.f32.format.read y)).map FloatKind.f32.format.write := rfl
  rw [eo, ey]
  rcases hu with ⟨s, m, i, eu⟩ | ⟨s, eu⟩ <;> rw [eu]
  · obtain ⟨l, p, es, -, -⟩ := quotient_val (FloatKind.f32.format.fractionBits + 2) (by decide) s m i false n j hn
    rw [es]
    exact numA_near _ l p
  · exact numA_inf _

/-! A part of a mixture. -/
def dU (x m s : Nat) : Option Nat := opF .quo .f32 (opF .sub .f32 (absF .f32 x) (absF .f32 m)) (absF .f32 s)
def dQ (u : Option Nat) : Option Nat := opF .mul .f32 (opF .mul .f32 (some 3204448256) u) u
def dPart (wt m s x : Nat) : Option Nat := opF .quo .f32 (opF .mul .f32 (absF .f32 wt) (exp32 (dQ (dU x m s)))) (opF .mul .f32 (some 1075866777) (absF .f32 s))
theorem mhalf32 : FloatKind.f32.format.read 3204448256 = .number true (2 ^ 23) (-24) := by decide
theorem mhalf32_le : mg (2 ^ 23) (-24) ≤ 1 := by
  rw [mg_pow, ← p2_zero]
  exact p2_mono (by omega)
theorem dQ_neg {x m s : Nat} (hx : finB x = true) (hm : finB m = true) (hs : aboveB s = true) : NegS .f32 (dQ (dU x m s)) := by
  have h := numA_quo (numA_sub hx hm) hs
  obtain ⟨u, e, h'⟩ := h
  unfold dU
  rw [e]
  exact negS_sq mhalf32 (by decide) mhalf32_le (numA_nan ⟨u, rfl, h'⟩)
def dAt (x0 x1 x2 : List Nat) (x k : Nat) : Option Nat := dPart (x0.getD k 0) (x1.getD k 0) (x2.getD k 0) x
def dList (x0 x1 x2 : List Nat) (x k : Nat) : List (Option Nat) := (List.range k).map (dAt x0 x1 x2 x)
theorem dList_succ (x0 x1 x2 : List Nat) (x k : Nat) : dList x0 x1 x2 x (k + 1) = dList x0 x1 x2 x k ++ [dAt x0 x1 x2 x k] := by simp [dList, List.range_succ]
theorem dList_len (x0 x1 x2 : List Nat) (x k : Nat) : (dList x0 x1 x2 x k).length = k := by simp [dList]
/-- The numbers of a mixture's parts. -/
def DenseOk (x0 x1 x2 : List Nat) (x : Nat) : Prop := x1.length = x0.length ∧ x2.length = x0.length ∧ ∀ (k m s : Nat), x1[k]? = some m → x2[k]? = some s → NegS .f32 (dQ (dU x m s))
theorem denseOk_of {x0 x1 x2 : List Nat} {x : Nat} (h : mixB x0 x1 x2 = true) (hx : finB x = true) : DenseOk x0 x1 x2 x := by
  have hl := mixB_len h
  unfold mixB at h
  simp only [Bool.and_eq_true] at h
  refine ⟨hl.2.1, hl.2.2, fun k m s hm hs => dQ_neg hx ?_ ?_⟩
  · exact List.all_eq_true.1 h.1.1.2 m (List.mem_of_getElem? hm)
  · exact List.all_eq_true.1 h.2 s (List.mem_of_getElem? hs)
theorem dAt_of {x0 x1 x2 : List Nat} {x k a m s : Nat} (h0 : x0[k]? = some a) (h1 : x1[k]? = some m) (h2 : x2[k]? = some s) : dAt x0 x1 x2 x k = dPart a m s x := by
  unfold dAt
  rw [getD_of h0, getD_of h1, getD_of h2]
theorem lit_mhalf : absF .f32 3204448256 = some 3204448256 := absF_of (by decide)
theorem lit_root : absF .f32 1075866777 = some 1075866777 := absF_of (by decide)
theorem dQ_abs {u : Nat} {U : Option Nat} {W1 W2 : World} (h : absF .f32 u = U) : absF .f32 (flR .mul .f32 (flR .mul .f32 3204448256 u W1) u W2) = dQ U := by
  rw [abs_flR .mul rfl, abs_flR .mul rfl, h, lit_mhalf]
  rfl

set_option maxHeartbeats 3200000 in
theorem densities_any (s0 : Value) (x0 : List Nat) (s1 : Value) (x1 : List Nat) (s2 : Value) (x2 : List Nat) (hn0 : x0.length ≤ 65536) (x : Nat) (hd : DenseOk x0 x1 x2 x) (w : World) (hr0 : Rd fV w s0 x0) (hr1 : Rd fV w s1 x1) (hr2 : Rd fV w s2 x2) :
    Calls Try.prog 39 #[mxV s0 s1 s2, fV x] w fun e w' => ∃ v ys, e = .returned v ∧ Own fV 39 w' w.heap.size v ys ∧ ys.length = x0.length ∧ absL ys = dList x0 x1 x2 x x0.length ∧ Below w.heap.size w w' := by
  have HR0 := Lib.hid hr0
  obtain ⟨A0, cap0, rfl, hcap0, hA0⟩ := hr0
  have HA0 := Lib.hid hA0
  clear hA0
  have HR1 := Lib.hid hr1
  obtain ⟨A1, cap1, rfl, hcap1, hA1⟩ := hr1
  have HA1 := Lib.hid hA1
  clear hA1
  have HR2 := Lib.hid hr2
  obtain ⟨A2, cap2, rfl, hcap2, hA2⟩ := hr2
  have HA2 := Lib.hid hA2
  clear hA2
  obtain ⟨hl1, hl2, hneg⟩ := hd
  rw [hl1] at hcap1
  rw [hl2] at hcap2
  rw [hl1, hl2]
  have HL1 := Lib.hid hl1
  have HL2 := Lib.hid hl2
  have HN := Lib.hid hneg
  clear hl1 hl2 hneg
  go_enter Try.func39, Try.ntmps39
  have B0 : BoxAt (w.alloc (.cells ([.slice A0 x0.length cap0, .slice A1 x0.length cap1, .slice A2 x0.length cap2] : List Value).toArray 26)) w.heap.size [.slice A0 x0.length cap0, .slice A1 x0.length cap1, .slice A2 x0.length cap2] := BoxAt.new w _ _
  have hT0 := below_alloc w (.cells ([.slice A0 x0.length cap0, .slice A1 x0.length cap1, .slice A2 x0.length cap2] : List Value).toArray 26)
  have hz0 : (w.alloc (.cells ([.slice A0 x0.length cap0, .slice A1 x0.length cap1, .slice A2 x0.length cap2] : List Value).toArray 26)).heap.size = w.heap.size + 1 := size_alloc _ _
  have B1 := B0.alloc (.cells #[] 39)
  have c0 := B1.cell 0 _ rfl
  have c1 := B1.cell 1 _ rfl
  have c2 := B1.cell 2 _ rfl
  go_wp2
  go_loopw [5, 14] (fun so si wr => ∃ (k : Nat) (ys : List Nat), k ≤ x0.length ∧ si = .int .i64 k ∧ Own fV 39 wr (w.heap.size + 1) so ys ∧ ys.length = k ∧ Hid (absL ys = dList x0 x1 x2 x k) ∧ Below (w.heap.size + 1) (w.alloc (.cells ([.slice A0 x0.length cap0, .slice A1 x0.length cap1, .slice A2 x0.length cap2] : List Value).toArray 26)) wr) (fun _ si _ => x0.length - (intOf si).toNat)
  case atStart => exact ⟨0, [], by omega, rfl, by have := own_nil_new fV (w.alloc (.cells ([.slice A0 x0.length cap0, .slice A1 x0.length cap1, .slice A2 x0.length cap2] : List Value).toArray 26)) 39; rw [hz0] at this; exact this, rfl, rfl, by rw [← hz0]; exact below_alloc _ _⟩
  case round =>
    obtain ⟨k, ys, hk, rfl, hown, hyl, hy, hb⟩ := hrel
    have hb' := hb
    rw [← hz0] at hb'
    have B := B0.below hb'
    have hT : Below w.heap.size w wr := below_to hT0 hb' (by omega)
    have hz := hb.size
    clear c0 c1 c2 hb'
    have d0 := B.cell 0 _ rfl
    have d1 := B.cell 1 _ rfl
    have d2 := B.cell 2 _ rfl
    by_cases hlt : k < x0.length
    · obtain ⟨a, ha⟩ := get_of_lt hlt
      obtain ⟨m, hm⟩ := get_of_lt (xs := x1) (k := k) (by rw [HL1.out]; exact hlt)
      obtain ⟨s, hs⟩ := get_of_lt (xs := x2) (k := k) (by rw [HL2.out]; exact hlt)
      obtain ⟨ad0, rfl, hbl0, hcell0⟩ := HA0.out k a ha
      obtain ⟨ad1, rfl, hbl1, hcell1⟩ := HA1.out k m hm
      obtain ⟨ad2, rfl, hbl2, hcell2⟩ := HA2.out k s hs
      have e0 : wr.cell? (ad0.add k) = some (fV a) := by rw [hT.cell (by rw [add_block]; exact hbl0)]; exact hcell0
      have e1 : wr.cell? (ad1.add k) = some (fV m) := by rw [hT.cell (by rw [add_block]; exact hbl1)]; exact hcell1
      have e2 : wr.cell? (ad2.add k) = some (fV s) := by rw [hT.cell (by rw [add_block]; exact hbl2)]; exact hcell2
      have HD := Lib.hid (dAt_of (x := x) ha hm hs)
      have HG := Lib.hid (HN.out k m s hm hs)
      have hk0 : (0 : Int) ≤ (k : Int) := by omega
      have hk1 : (k : Int) < (x0.length : Int) := by omega
      clear ha hm hs hcell0 hcell1 hcell2
      go_wp2
      refine wp_region_fq 14 (fun _ _ _ => True) (by kernel_rfl) (by kernel_rfl) ?_
      simp only [List.take, List.drop]
      repeat (first | (refine wpFq_one (by rfl) ?_; go_big_quiet_step (fail); refine wpQuiet_nil ?_) | (refine wpFq_nilc (by rfl) _ rfl _ (by rfl) ?_; simp only [Act.put, List.setIfInBounds_toArray, List.set_cons_zero, List.set_cons_succ]) | (refine wpFq_fl (by rfl) _ _ _ _ _ rfl (by rfl) _ _ _ (by rfl) (by rfl) ?_; intro fb hfb; simp only [Act.put, List.setIfInBounds_toArray, List.set_cons_zero, List.set_cons_succ]) | (refine wpFq_up (by rfl) _ _ _ rfl (by kernel_rfl) (by kernel_rfl) _ (by rfl) ?_; intro fb hfb; simp only [Act.put, List.setIfInBounds_toArray, List.set_cons_zero, List.set_cons_succ]))
      refine wpFq_nil ?_
      intro nq
      have HU := Lib.hid (show absF .f32 fb = dU x m s by rw [hfb, ‹absF .f32 _ = opF .sub .f32 (absF .f32 x) (absF .f32 m)›]; rfl)
      go_wp2_with fail
      refine (expNumber_any _ (by rw [dQ_abs HU.out]; exact HG.out) _).mono ?_
      rintro e w2 ⟨eb, rfl, he, ne, rfl⟩
      have HE := Lib.hid (he.trans (congrArg exp32 (dQ_abs HU.out)))
      clear he
      go_wp2_with (at_builtin; go_loud (refine elF_.app (fun _ => rfl) _ rfl _ _ rfl (w.heap.size + 1) _ ys rfl (Own.alloc (Own.drewN hown _) _) _ _ rfl (rd_one fV _ _ _) (by omega) (by simp; omega) (by simp; omega) ?_))
      intro v' w' ho hg hbb hp
      go_wp2
      go_roundw
      case rel => exact ⟨k + 1, _, by omega, by go_num, ho, by simp [hyl], by (unfold Hid; rw [dList_succ, absL_append', hy.out, HD.out]; simp only [absL, List.map_cons, List.map_nil, abs_flR .quo rfl, abs_flR .mul rfl, HE.out, lit_root]; rfl), ((below_drewN' _ hb).alloc (by simpa using hz) _).trans hbb⟩
      case measure => simp [intOf]; omega
    · have hke : k = x0.length := by omega
      have HK := Lib.hid hke
      clear hke
      go_wp2
      go_ret
      exact ⟨_, ys, rfl, hown.base_ (by omega), by rw [hyl, HK.out], by rw [hy.out, HK.out], hT⟩

set_option maxHeartbeats 3200000 in
theorem l05Dense_any (b : Nat) (s0 s1 s2 : Value) (x0 x1 x2 : List Nat) (x : Nat) (hd : DenseOk x0 x1 x2 x) (k : Nat) (hk : k < x0.length) (_hn : x0.length ≤ 65536) (w : World) (ha : BoxAt w b [s0, s1, s2]) (hr0 : Rd fV w s0 x0) (hr1 : Rd fV w s1 x1) (hr2 : Rd fV w s2 x2) :
    Calls Try.prog 28 #[.pointer (some ⟨b, 0, none⟩), .int .i64 k, fV x] w fun e w' => ∃ r, e = .returned (fV r) ∧ absF .f32 r = dAt x0 x1 x2 x k ∧ ∃ n, w.drewN n = w' := by
  have HR0 := Lib.hid hr0
  obtain ⟨A0, cap0, rfl, hcap0, hA0⟩ := hr0
  have HA0 := Lib.hid hA0
  clear hA0
  have HR1 := Lib.hid hr1
  obtain ⟨A1, cap1, rfl, hcap1, hA1⟩ := hr1
  have HA1 := Lib.hid hA1
  clear hA1
  have HR2 := Lib.hid hr2
  obtain ⟨A2, cap2, rfl, hcap2, hA2⟩ := hr2
  have HA2 := Lib.hid hA2
  clear hA2
  obtain ⟨hl1, hl2, hneg⟩ := hd
  rw [hl1] at hcap1
  rw [hl2] at hcap2
  rw [hl1, hl2] at ha
  have c0 := ha.cell 0 _ rfl
  have c1 := ha.cell 1 _ rfl
  have c2 := ha.cell 2 _ rfl
  obtain ⟨a, hxa⟩ := get_of_lt hk
  obtain ⟨m, hm⟩ := get_of_lt (xs := x1) (k := k) (by rw [hl1]; exact hk)
  obtain ⟨s, hs⟩ := get_of_lt (xs := x2) (k := k) (by rw [hl2]; exact hk)
  obtain ⟨ad0, rfl, hbl0, e0⟩ := HA0.out k a hxa
  obtain ⟨ad1, rfl, hbl1, e1⟩ := HA1.out k m hm
  obtain ⟨ad2, rfl, hbl2, e2⟩ := HA2.out k s hs
  have HD := Lib.hid (dAt_of (x := x) hxa hm hs)
  have HG := Lib.hid (hneg k m s hm hs)
  have hk0 : (0 : Int) ≤ (k : Int) := by omega
  have hk1 : (k : Int) < (x0.length : Int) := by omega
  clear hxa hm hs hl1 hl2 hneg
  go_enter Try.func28, Try.ntmps28
  go_wp2
  refine wp_region_fq 18 (fun _ _ _ => True) (by kernel_rfl) (by kernel_rfl) ?_
  simp only [List.take, List.drop]
  repeat (first | (refine wpFq_one (by rfl) ?_; go_big_quiet_step (fail); refine wpQuiet_nil ?_) | (refine wpFq_nilc (by rfl) _ rfl _ (by rfl) ?_; simp only [Act.put, List.setIfInBounds_toArray, List.set_cons_zero, List.set_cons_succ]) | (refine wpFq_fl (by rfl) _ _ _ _ _ rfl (by rfl) _ _ _ (by rfl) (by rfl) ?_; intro fb hfb; simp only [Act.put, List.setIfInBounds_toArray, List.set_cons_zero, List.set_cons_succ]) | (refine wpFq_up (by rfl) _ _ _ rfl (by kernel_rfl) (by kernel_rfl) _ (by rfl) ?_; intro fb hfb; simp only [Act.put, List.setIfInBounds_toArray, List.set_cons_zero, List.set_cons_succ]))
  refine wpFq_nil ?_
  intro nq
  have HU := Lib.hid (show absF .f32 fb = dU x m s by rw [hfb, ‹absF .f32 _ = opF .sub .f32 (absF .f32 x) (absF .f32 m)›]; rfl)
  go_wp2_with fail
  refine (l01Exp_any _ (by rw [dQ_abs HU.out]; exact HG.out) _).mono ?_
  rintro e w2 ⟨eb, rfl, he, ne, rfl⟩
  have HE := Lib.hid (he.trans (congrArg exp32 (dQ_abs HU.out)))
  clear he
  go_wp2
  refine wp_region_fq 19 (fun _ _ _ => True) (by kernel_rfl) (by kernel_rfl) ?_
  simp only [List.take, List.drop]
  repeat (first | (refine wpFq_one (by rfl) ?_; go_big_quiet_step (fail); refine wpQuiet_nil ?_) | (refine wpFq_nilc (by rfl) _ rfl _ (by rfl) ?_; simp only [Act.put, List.setIfInBounds_toArray, List.set_cons_zero, List.set_cons_succ]) | (refine wpFq_fl (by rfl) _ _ _ _ _ rfl (by rfl) _ _ _ (by rfl) (by rfl) ?_; intro fb hfb; simp only [Act.put, List.setIfInBounds_toArray, List.set_cons_zero, List.set_cons_succ]) | (refine wpFq_up (by rfl) _ _ _ rfl (by kernel_rfl) (by kernel_rfl) _ (by rfl) ?_; intro fb hfb; simp only [Act.put, List.setIfInBounds_toArray, List.set_cons_zero, List.set_cons_succ]))
  refine wpFq_nil ?_
  intro nq
  have g1 := ‹absF .f32 _ = opF .mul .f32 (absF .f32 a) (absF .f32 eb)›
  have g2 := ‹absF .f32 _ = opF .mul .f32 (absF .f32 1075866777) (absF .f32 s)›
  have HV := Lib.hid (show absF .f32 fb = dAt x0 x1 x2 x k by rw [hfb, g1, g2, HE.out, lit_root, HD.out]; rfl)
  go_wp2
  go_ret
  exact ⟨_, rfl, HV.out, _, by rw [World.drewN_drewN]⟩

set_option maxHeartbeats 1600000 in
theorem l05At_any (b : Nat) (s0 s1 s2 : Value) (x0 x1 x2 : List Nat) (x : Nat) (hd : DenseOk x0 x1 x2 x) (hn : x0.length ≤ 65536) (w : World) (ha : BoxAt w b [s0, s1, s2]) (hr0 : Rd fV w s0 x0) (hr1 : Rd fV w s1 x1) (hr2 : Rd fV w s2 x2) :
    Calls Try.prog 26 #[.pointer (some ⟨b, 0, none⟩), fV x] w fun e w' => ∃ r, e = .returned (fV r) ∧ absF .f32 r = sumF (dList x0 x1 x2 x x0.length) ∧ Below w.heap.size w w' := by
  have HR0 := Lib.hid hr0
  have HR1 := Lib.hid hr1
  have HR2 := Lib.hid hr2
  have HD := Lib.hid hd
  obtain ⟨A0, cap0, rfl, hcap0, hA0⟩ := hr0
  have c0 := ha.cell 0 _ rfl
  have c1 := ha.cell 1 _ rfl
  have c2 := ha.cell 2 _ rfl
  clear hA0 hr1 hr2 hd
  go_enter Try.func26, Try.ntmps26
  go_wp2
  go_loopw [5, 12] (fun ss si wr => ∃ (k r : Nat), k ≤ x0.length ∧ si = .int .i64 k ∧ ss = fV r ∧ Hid (absF .f32 r = sumF (dList x0 x1 x2 x k)) ∧ Below w.heap.size w wr) (fun _ si _ => x0.length - (intOf si).toNat)
  case atStart => exact ⟨0, 0, by omega, rfl, rfl, abs_zero, Below.refl _ _⟩
  case round =>
    obtain ⟨k, r, hk, rfl, rfl, hs, hb⟩ := hrel
    have B := ha.below hb
    by_cases hlt : k < x0.length
    · go_wp2_with fail
      refine (l05Dense_any b _ s1 s2 x0 x1 x2 x HD.out k hlt hn _ B (HR0.out.below hb) (HR1.out.below hb) (HR2.out.below hb)).mono ?_
      rintro e w2 ⟨d, rfl, hdd, n, rfl⟩
      have HV := Lib.hid hdd
      clear hdd
      go_wp2
      go_roundw
      case rel => exact ⟨k + 1, _, by omega, by go_num, rfl, by unfold Hid; rw [dList_succ, sumF_snoc, abs_flR .add rfl, hs.out, HV.out], below_drewN_ hb⟩
      case measure => simp [intOf]; omega
    · have hke : k = x0.length := by omega
      have HK := Lib.hid hke
      clear hke
      go_wp2
      go_ret
      exact ⟨r, rfl, by rw [hs.out, HK.out], hb⟩
end Go.Proofs.Ytimpabceellihaa
