/-
  AddShares and GreaterShare, walked in the program and in the reference.
-/
import Derived.Test.YtjajlddnhmbekaaPairs
namespace Go.Proofs.Ytjajlddnhmbekaa
open Go.RowKit
attribute [local go_sem] run_fl_add run_fl_sub run_fl_mul run_fl_quo run_up_

theorem addClosure (a b : Nat) (w : World) (ha : finB a = true) (hb : finB b = true) : Calls Try.prog 25 #[fV a, fV b] w fun e w' => e = .returned (fV (pairR true a b)) ∧ w = w' := by
  have HE := Lib.hid (addR_bits ha hb)
  clear ha hb
  go_enter Try.func25, Try.ntmps25
  go_wp2
  refine bodyPost_ret (v := fV (pairR true a b)) (by simp [results, Try.results25, go_sem, flR_some HE.out, pairR]) rfl ⟨rfl, ?_⟩
  simp only [flN_some HE.out, World.drewN_zero]
set_option maxHeartbeats 3200000 in
set_option maxRecDepth 100000 in
theorem implAddShares_any (s0 : Value) (x0 : List Nat) (s1 : Value) (x1 : List Nat) (hn0 : x0.length ≤ 1099511627776) (hn1 : x1.length ≤ 1099511627776) (s2 : Value) (x2 : List Nat) (s3 : Value) (x3 : List Nat) (hn2 : x2.length ≤ 1099511627776) (hn3 : x3.length ≤ 1099511627776) (w : World) (hr0 : Rd fV w s0 x0) (hr1 : Rd fV w s1 x1) (hr2 : Rd fV w s2 x2) (hr3 : Rd fV w s3 x3) :
    Calls Try.prog 9 #[shV s0 s1, shV s2 s3] w (RetComb (pairG true) x0 x1 x2 x3 w) := by
  have HR0 := Lib.hid hr0
  obtain ⟨A0, cap0, rfl, hcap0, hA0⟩ := hr0
  have HA0 := Lib.hid hA0
  clear hA0
  have HR1 := Lib.hid hr1
  obtain ⟨A1, cap1, rfl, hcap1, hA1⟩ := hr1
  have HA1 := Lib.hid hA1
  clear hA1
  have HR2 := Lib.hid hr2
  obtain ⟨A2, cap2, rfl, hcap2, hA2⟩ := hr2
  have HA2 := Lib.hid hA2
  clear hA2
  have HR3 := Lib.hid hr3
  obtain ⟨A3, cap3, rfl, hcap3, hA3⟩ := hr3
  have HA3 := Lib.hid hA3
  clear hA3
  go_enter Try.func9, Try.ntmps9
  go_wp2_with fail
  have B0 : BoxAt (((w.alloc (.cells ([.slice A0 x0.length cap0, .slice A1 x1.length cap1] : List Value).toArray 26)).alloc (.cells ([.slice A2 x2.length cap2, .slice A3 x3.length cap3] : List Value).toArray 26)).alloc (.cells ([.slice none 0 0, .slice none 0 0] : List Value).toArray 26)) w.heap.size [.slice A0 x0.length cap0, .slice A1 x1.length cap1] := ((BoxAt.new w _ _).alloc _).alloc _
  have B2 : BoxAt (((w.alloc (.cells ([.slice A0 x0.length cap0, .slice A1 x1.length cap1] : List Value).toArray 26)).alloc (.cells ([.slice A2 x2.length cap2, .slice A3 x3.length cap3] : List Value).toArray 26)).alloc (.cells ([.slice none 0 0, .slice none 0 0] : List Value).toArray 26)) (w.heap.size + 1) [.slice A2 x2.length cap2, .slice A3 x3.length cap3] := by
    have := (BoxAt.new (w.alloc (.cells ([.slice A0 x0.length cap0, .slice A1 x1.length cap1] : List Value).toArray 26)) [.slice A2 x2.length cap2, .slice A3 x3.length cap3] 26).alloc (.cells ([.slice none 0 0, .slice none 0 0] : List Value).toArray 26)
    rwa [size_alloc] at this
  have B1 : BoxAt (((w.alloc (.cells ([.slice A0 x0.length cap0, .slice A1 x1.length cap1] : List Value).toArray 26)).alloc (.cells ([.slice A2 x2.length cap2, .slice A3 x3.length cap3] : List Value).toArray 26)).alloc (.cells ([.slice none 0 0, .slice none 0 0] : List Value).toArray 26)) (w.heap.size + 2) [.slice none 0 0, .slice none 0 0] := by
    have := BoxAt.new ((w.alloc (.cells ([.slice A0 x0.length cap0, .slice A1 x1.length cap1] : List Value).toArray 26)).alloc (.cells ([.slice A2 x2.length cap2, .slice A3 x3.length cap3] : List Value).toArray 26)) [.slice none 0 0, .slice none 0 0] 26
    rwa [size_alloc, size_alloc] at this
  have hT : Below w.heap.size w (((w.alloc (.cells ([.slice A0 x0.length cap0, .slice A1 x1.length cap1] : List Value).toArray 26)).alloc (.cells ([.slice A2 x2.length cap2, .slice A3 x3.length cap3] : List Value).toArray 26)).alloc (.cells ([.slice none 0 0, .slice none 0 0] : List Value).toArray 26)) := (((Below.refl _ _).alloc (Nat.le_refl _) _).alloc (by simp) _).alloc (by simp; omega) _
  generalize hg : ((w.alloc _).alloc _).alloc _ = W0 at *
  clear hg
  clear B0 B2
  refine (implCombine_any (pairG true) (pairR true) 25 (fun _ _ => rfl) (fun a b w ha hb => addClosure a b w ha hb) (pair_abs true) _ x0 _ x1 _ x2 _ x3 hn0 hn1 hn2 hn3 _ (HR0.out.below hT) (HR1.out.below hT) (HR2.out.below hT) (HR3.out.below hT)).mono ?_
  rintro e w6 ⟨u0, z0, u1, z1, rfl, o0, o1, ap, l0, l1, a0, a1, hb6⟩
  have hB := B1.below hb6
  have hT6 := below_to hT hb6 hT.size
  have hlt6 := B1.lt
  obtain ⟨E0, c0, rfl, -, -⟩ := o0.rd
  obtain ⟨E1, c1, rfl, -, -⟩ := o1.rd
  have HF := Lib.hid (fun u v => retSh_stored (w := w) (b := w.heap.size + 2) o0 o1 ap l0 l1 a0 a1 hT6 (by omega) hlt6 hT.size u v)
  clear o0 o1 ap a0 a1 l0 l1 hb6 hT6 B1 hT hlt6
  have r0 := hB.cell 0 _ rfl
  have r1 := hB.cell 1 _ rfl
  have f0 := hB.free 0
  have f1 := hB.free 1
  have HB := Lib.hid hB
  clear hB
  go_wp2
  refine bodyPost_ret (v := .tuple #[shV (.slice E0 z0.length c0) (.slice E1 z1.length c1), .bool (combOk (pairG true) x0 x1 x2 x3)]) (by simp [results, Try.results9, go_sem, *]) rfl ?_
  unfold RetComb
  exact HF.out _ _
set_option maxHeartbeats 3200000 in
set_option maxRecDepth 100000 in
theorem specAddShares_any (s0 : Value) (x0 : List Nat) (s1 : Value) (x1 : List Nat) (hn0 : x0.length ≤ 1099511627776) (hn1 : x1.length ≤ 1099511627776) (s2 : Value) (x2 : List Nat) (s3 : Value) (x3 : List Nat) (hn2 : x2.length ≤ 1099511627776) (hn3 : x3.length ≤ 1099511627776) (w : World) (hr0 : Rd fV w s0 x0) (hr1 : Rd fV w s1 x1) (hr2 : Rd fV w s2 x2) (hr3 : Rd fV w s3 x3) :
    Calls Try.prog 8 #[shV s0 s1, shV s2 s3] w (RetComb (pairG true) x0 x1 x2 x3 w) := by
  have HR0 := Lib.hid hr0
  obtain ⟨A0, cap0, rfl, hcap0, hA0⟩ := hr0
  have HA0 := Lib.hid hA0
  clear hA0
  have HR1 := Lib.hid hr1
  obtain ⟨A1, cap1, rfl, hcap1, hA1⟩ := hr1
  have HA1 := Lib.hid hA1
  clear hA1
  have HR2 := Lib.hid hr2
  obtain ⟨A2, cap2, rfl, hcap2, hA2⟩ := hr2
  have HA2 := Lib.hid hA2
  clear hA2
  have HR3 := Lib.hid hr3
  obtain ⟨A3, cap3, rfl, hcap3, hA3⟩ := hr3
  have HA3 := Lib.hid hA3
  clear hA3
  go_enter Try.func8, Try.ntmps8
  go_wp2_with fail
  have B0 : BoxAt (((w.alloc (.cells ([.slice A0 x0.length cap0, .slice A1 x1.length cap1] : List Value).toArray 26)).alloc (.cells ([.slice A2 x2.length cap2, .slice A3 x3.length cap3] : List Value).toArray 26)).alloc (.cells ([.slice none 0 0, .slice none 0 0] : List Value).toArray 26)) w.heap.size [.slice A0 x0.length cap0, .slice A1 x1.length cap1] := ((BoxAt.new w _ _).alloc _).alloc _
  have B2 : BoxAt (((w.alloc (.cells ([.slice A0 x0.length cap0, .slice A1 x1.length cap1] : List Value).toArray 26)).alloc (.cells ([.slice A2 x2.length cap2, .slice A3 x3.length cap3] : List Value).toArray 26)).alloc (.cells ([.slice none 0 0, .slice none 0 0] : List Value).toArray 26)) (w.heap.size + 1) [.slice A2 x2.length cap2, .slice A3 x3.length cap3] := by
    have := (BoxAt.new (w.alloc (.cells ([.slice A0 x0.length cap0, .slice A1 x1.length cap1] : List Value).toArray 26)) [.slice A2 x2.length cap2, .slice A3 x3.length cap3] 26).alloc (.cells ([.slice none 0 0, .slice none 0 0] : List Value).toArray 26)
    rwa [size_alloc] at this
  have B1 : BoxAt (((w.alloc (.cells ([.slice A0 x0.length cap0, .slice A1 x1.length cap1] : List Value).toArray 26)).alloc (.cells ([.slice A2 x2.length cap2, .slice A3 x3.length cap3] : List Value).toArray 26)).alloc (.cells ([.slice none 0 0, .slice none 0 0] : List Value).toArray 26)) (w.heap.size + 2) [.slice none 0 0, .slice none 0 0] := by
    have := BoxAt.new ((w.alloc (.cells ([.slice A0 x0.length cap0, .slice A1 x1.length cap1] : List Value).toArray 26)).alloc (.cells ([.slice A2 x2.length cap2, .slice A3 x3.length cap3] : List Value).toArray 26)) [.slice none 0 0, .slice none 0 0] 26
    rwa [size_alloc, size_alloc] at this
  have hT : Below w.heap.size w (((w.alloc (.cells ([.slice A0 x0.length cap0, .slice A1 x1.length cap1] : List Value).toArray 26)).alloc (.cells ([.slice A2 x2.length cap2, .slice A3 x3.length cap3] : List Value).toArray 26)).alloc (.cells ([.slice none 0 0, .slice none 0 0] : List Value).toArray 26)) := (((Below.refl _ _).alloc (Nat.le_refl _) _).alloc (by simp) _).alloc (by simp; omega) _
  generalize hg : ((w.alloc _).alloc _).alloc _ = W0 at *
  clear hg
  refine (l05Is_any _ _ _ x0 x1 hn0 hn1 _ B0 (HR0.out.below hT) (HR1.out.below hT)).mono ?_
  rintro e w1 ⟨rfl, hb⟩
  replace B0 := B0.below hb
  replace B2 := B2.below hb
  replace B1 := B1.below hb
  replace hT := below_to hT hb hT.size
  clear hb
  cases hs : shareB x0 x1
  · have Ho := Lib.hid (combOk_f (g := pairG true) (show combG x0 x1 x2 x3 = false by unfold combG; rw [hs]; rfl))
    clear hs
    have d0 := B1.cell 0 _ rfl
    have d1 := B1.cell 1 _ rfl
    have f0 := B1.free 0
    have f1 := B1.free 1
    have HT := Lib.hid hT
    clear hT
    go_wp2
    refine bodyPost_ret (v := .tuple #[shV (.slice none 0 0) (.slice none 0 0), .bool false]) (by simp [results, Try.results8, go_sem, *]) rfl ?_
    unfold RetComb
    rw [Ho.out]
    exact RetSh.none ((HT.out.setCell (by first | (simp; done) | (simp; omega)) _).setCell (by first | (simp; done) | (simp; omega)) _)
  have Hs := Lib.hid hs
  clear hs
  go_wp2_with fail
  refine (l05Is_any _ _ _ x2 x3 hn2 hn3 _ B2 (HR2.out.below hT) (HR3.out.below hT)).mono ?_
  rintro e w2 ⟨rfl, hb⟩
  replace B0 := B0.below hb
  replace B2 := B2.below hb
  replace B1 := B1.below hb
  replace hT := below_to hT hb hT.size
  clear hb
  cases hs2 : shareB x2 x3
  · have Ho := Lib.hid (combOk_f (g := pairG true) (show combG x0 x1 x2 x3 = false by unfold combG; rw [hs2]; simp))
    clear hs2
    have d0 := B1.cell 0 _ rfl
    have d1 := B1.cell 1 _ rfl
    have f0 := B1.free 0
    have f1 := B1.free 1
    have HT := Lib.hid hT
    clear hT
    go_wp2
    refine bodyPost_ret (v := .tuple #[shV (.slice none 0 0) (.slice none 0 0), .bool false]) (by simp [results, Try.results8, go_sem, *]) rfl ?_
    unfold RetComb
    rw [Ho.out]
    exact RetSh.none ((HT.out.setCell (by first | (simp; done) | (simp; omega)) _).setCell (by first | (simp; done) | (simp; omega)) _)
  have Hok := Lib.hid (combOk_t (g := pairG true) (show combG x0 x1 x2 x3 = true by unfold combG; rw [Hs.out, hs2]; rfl))
  have Hs2 := Lib.hid hs2
  clear hs2
  go_wp2_with fail
  refine (l05Pairs_any true _ _ _ x0 _ x1 _ x2 _ x3 Hs.out Hs2.out _ B0 B2 (HR0.out.below hT) (HR1.out.below hT) (HR2.out.below hT) (HR3.out.below hT)).mono ?_
  rintro e w6 ⟨u0, z0, u1, z1, rfl, o0, o1, ap, l0, l1, a0, a1, hb6⟩
  have hB := B1.below hb6
  have hT6 := below_to hT hb6 hT.size
  have hlt6 := B1.lt
  obtain ⟨E0, c0, rfl, -, -⟩ := o0.rd
  obtain ⟨E1, c1, rfl, -, -⟩ := o1.rd
  have HF := Lib.hid (fun u v => retSh_stored (w := w) (b := w.heap.size + 2) o0 o1 ap l0 l1 a0 a1 hT6 (by omega) hlt6 hT.size u v)
  clear B0 B2
  clear o0 o1 ap a0 a1 l0 l1 hb6 hT6 B1 hT hlt6
  have r0 := hB.cell 0 _ rfl
  have r1 := hB.cell 1 _ rfl
  have f0 := hB.free 0
  have f1 := hB.free 1
  have HB := Lib.hid hB
  clear hB
  go_wp2
  refine bodyPost_ret (v := .tuple #[shV (.slice E0 z0.length c0) (.slice E1 z1.length c1), .bool (gatOk (combV (pairG true) x0 x2) (combC x1 x3))]) (by simp [results, Try.results8, go_sem, *]) rfl ?_
  unfold RetComb
  rw [Hok.out]
  exact HF.out _ _
end Go.Proofs.Ytjajlddnhmbekaa
