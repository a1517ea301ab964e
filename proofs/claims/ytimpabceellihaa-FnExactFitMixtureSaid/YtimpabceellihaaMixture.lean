/-
  Mixtures by value: laws.szMixture, toMixture, eqMixture, markMixture, heldMixture.
-/
import Derived.Test.YtimpabceellihaaBox
import Derived.Test.YtimpabceellihaaShare
namespace Go.Proofs.Ytimpabceellihaa
open Go.RowKit

/-- A Mixture as a value. -/
abbrev mxV (s0 s1 s2 : Value) : Value := .agg #[s0, s1, s2]


theorem szMixture_any (s0 : Value) (x0 : List Nat) (s1 : Value) (x1 : List Nat) (s2 : Value) (x2 : List Nat) (m : Int) (hm0 : 0 ≤ m) (hm : m ≤ 1048576) (w : World) (hr0 : Rd fV w s0 x0) (hr1 : Rd fV w s1 x1) (hr2 : Rd fV w s2 x2) (hx0 : x0.length ≤ 9223372036854775807) (hx1 : x1.length ≤ 9223372036854775807) (hx2 : x2.length ≤ 9223372036854775807) :
    Calls Try.prog 5 #[mxV s0 s1 s2, .int .i64 m] w fun e w' => e = .returned (.int .i64 (if m < (x0.length : Int) + (x1.length : Int) + (x2.length : Int) then -1 else m - ((x0.length : Int) + (x1.length : Int) + (x2.length : Int)))) ∧ Below w.heap.size w w' := by
  have HR0 := Lib.hid hr0
  obtain ⟨A0, cap0, rfl, hcap0, hA0⟩ := hr0
  clear hA0
  have HR1 := Lib.hid hr1
  obtain ⟨A1, cap1, rfl, hcap1, hA1⟩ := hr1
  clear hA1
  have HR2 := Lib.hid hr2
  obtain ⟨A2, cap2, rfl, hcap2, hA2⟩ := hr2
  clear hA2
  by_cases h0 : m < (x0.length : Int)
  · go_enter Try.func5, Try.ntmps5
    go_wp2_with fail
    refine (szFloat32S_any _ x0 (m) (by omega) (by omega) _ (HR0.out.below (below_alloc _ _)) hx0).mono ?_
    rintro e w0 ⟨rfl, rfl⟩
    rw [if_pos (by omega)]
    go_wp2
    go_ret
    exact ⟨ret_int (by first | rfl | (rw [if_pos (by omega)])), below_alloc _ _⟩
  by_cases h1 : m - (x0.length : Int) < (x1.length : Int)
  · go_enter Try.func5, Try.ntmps5
    go_wp2_with fail
    refine (szFloat32S_any _ x0 (m) (by omega) (by omega) _ (HR0.out.below (below_alloc _ _)) hx0).mono ?_
    rintro e w0 ⟨rfl, rfl⟩
    rw [if_neg (by omega)]
    go_wp2_with fail
    refine (szFloat32S_any _ x1 (m - (x0.length : Int)) (by omega) (by omega) _ (HR1.out.below (below_alloc _ _)) hx1).mono ?_
    rintro e w1 ⟨rfl, rfl⟩
    rw [if_pos (by omega)]
    go_wp2
    go_ret
    exact ⟨ret_int (by first | rfl | (rw [if_pos (by omega)])), below_alloc _ _⟩
  by_cases h2 : m - (x0.length : Int) - (x1.length : Int) < (x2.length : Int)
  · go_enter Try.func5, Try.ntmps5
    go_wp2_with fail
    refine (szFloat32S_any _ x0 (m) (by omega) (by omega) _ (HR0.out.below (below_alloc _ _)) hx0).mono ?_
    rintro e w0 ⟨rfl, rfl⟩
    rw [if_neg (by omega)]
    go_wp2_with fail
    refine (szFloat32S_any _ x1 (m - (x0.length : Int)) (by omega) (by omega) _ (HR1.out.below (below_alloc _ _)) hx1).mono ?_
    rintro e w1 ⟨rfl, rfl⟩
    rw [if_neg (by omega)]
    go_wp2_with fail
    refine (szFloat32S_any _ x2 (m - (x0.length : Int) - (x1.length : Int)) (by omega) (by omega) _ (HR2.out.below (below_alloc _ _)) hx2).mono ?_
    rintro e w2 ⟨rfl, rfl⟩
    rw [if_pos (by omega)]
    go_wp2
    go_ret
    exact ⟨ret_int (by first | rfl | (rw [if_pos (by omega)])), below_alloc _ _⟩
  go_enter Try.func5, Try.ntmps5
  go_wp2_with fail
  refine (szFloat32S_any _ x0 (m) (by omega) (by omega) _ (HR0.out.below (below_alloc _ _)) hx0).mono ?_
  rintro e w0 ⟨rfl, rfl⟩
  rw [if_neg (by omega)]
  go_wp2_with fail
  refine (szFloat32S_any _ x1 (m - (x0.length : Int)) (by omega) (by omega) _ (HR1.out.below (below_alloc _ _)) hx1).mono ?_
  rintro e w1 ⟨rfl, rfl⟩
  rw [if_neg (by omega)]
  go_wp2_with fail
  refine (szFloat32S_any _ x2 (m - (x0.length : Int) - (x1.length : Int)) (by omega) (by omega) _ (HR2.out.below (below_alloc _ _)) hx2).mono ?_
  rintro e w2 ⟨rfl, rfl⟩
  rw [if_neg (by omega)]
  go_wp2
  go_ret
  exact ⟨ret_int (by first | omega | (rw [if_neg (by omega)]; omega)), below_alloc _ _⟩

set_option maxHeartbeats 1600000 in
theorem toMixture_any (s0 : Value) (x0 : List Nat) (s1 : Value) (x1 : List Nat) (s2 : Value) (x2 : List Nat) (hn0 : x0.length ≤ 1099511627776) (hn1 : x1.length ≤ 1099511627776) (hn2 : x2.length ≤ 1099511627776) (w : World) (hr0 : Rd fV w s0 x0) (hr1 : Rd fV w s1 x1) (hr2 : Rd fV w s2 x2) :
    Calls Try.prog 7 #[mxV s0 s1 s2] w fun e w' => ∃ t0 t1 t2 m1 m2, e = .returned (mxV t0 t1 t2) ∧ OwnR fV 39 w' w.heap.size m1 t0 x0 ∧ OwnR fV 39 w' m1 m2 t1 x1 ∧ OwnR fV 39 w' m2 w'.heap.size t2 x2 ∧ w.heap.size ≤ m1 ∧ m1 ≤ m2 ∧ m2 ≤ w'.heap.size ∧ Below w.heap.size w w' := by
  have HR0 := Lib.hid hr0
  obtain ⟨A0, cap0, rfl, hcap0, hA0⟩ := hr0
  clear hA0
  have HR1 := Lib.hid hr1
  obtain ⟨A1, cap1, rfl, hcap1, hA1⟩ := hr1
  clear hA1
  have HR2 := Lib.hid hr2
  obtain ⟨A2, cap2, rfl, hcap2, hA2⟩ := hr2
  clear hA2
  go_enter Try.func7, Try.ntmps7
  go_wp2_with fail
  have B0 : BoxAt (((w.alloc (.cells ([.slice A0 x0.length cap0, .slice A1 x1.length cap1, .slice A2 x2.length cap2] : List Value).toArray 24)).alloc (.cells ([.slice none 0 0, .slice none 0 0, .slice none 0 0] : List Value).toArray 26)).alloc (.cells ([.slice none 0 0, .slice none 0 0, .slice none 0 0] : List Value).toArray 26)) w.heap.size [.slice A0 x0.length cap0, .slice A1 x1.length cap1, .slice A2 x2.length cap2] := ((BoxAt.new w [.slice A0 x0.length cap0, .slice A1 x1.length cap1, .slice A2 x2.length cap2] 24).alloc _).alloc _
  have B1 : BoxAt (((w.alloc (.cells ([.slice A0 x0.length cap0, .slice A1 x1.length cap1, .slice A2 x2.length cap2] : List Value).toArray 24)).alloc (.cells ([.slice none 0 0, .slice none 0 0, .slice none 0 0] : List Value).toArray 26)).alloc (.cells ([.slice none 0 0, .slice none 0 0, .slice none 0 0] : List Value).toArray 26)) (w.heap.size + 1) [.slice none 0 0, .slice none 0 0, .slice none 0 0] := by
    have := (BoxAt.new (w.alloc (.cells ([.slice A0 x0.length cap0, .slice A1 x1.length cap1, .slice A2 x2.length cap2] : List Value).toArray 24)) [.slice none 0 0, .slice none 0 0, .slice none 0 0] 26).alloc (.cells ([.slice none 0 0, .slice none 0 0, .slice none 0 0] : List Value).toArray 26)
    rwa [size_alloc] at this
  have B2 : BoxAt (((w.alloc (.cells ([.slice A0 x0.length cap0, .slice A1 x1.length cap1, .slice A2 x2.length cap2] : List Value).toArray 24)).alloc (.cells ([.slice none 0 0, .slice none 0 0, .slice none 0 0] : List Value).toArray 26)).alloc (.cells ([.slice none 0 0, .slice none 0 0, .slice none 0 0] : List Value).toArray 26)) (w.heap.size + 2) [.slice none 0 0, .slice none 0 0, .slice none 0 0] := by
    have := BoxAt.new ((w.alloc (.cells ([.slice A0 x0.length cap0, .slice A1 x1.length cap1, .slice A2 x2.length cap2] : List Value).toArray 24)).alloc (.cells ([.slice none 0 0, .slice none 0 0, .slice none 0 0] : List Value).toArray 26)) [.slice none 0 0, .slice none 0 0, .slice none 0 0] 26
    rwa [size_alloc, size_alloc] at this
  have hT : Below w.heap.size w (((w.alloc (.cells ([.slice A0 x0.length cap0, .slice A1 x1.length cap1, .slice A2 x2.length cap2] : List Value).toArray 24)).alloc (.cells ([.slice none 0 0, .slice none 0 0, .slice none 0 0] : List Value).toArray 26)).alloc (.cells ([.slice none 0 0, .slice none 0 0, .slice none 0 0] : List Value).toArray 26)) := (((Below.refl _ _).alloc (Nat.le_refl _) _).alloc (by simp) _).alloc (by simp; omega) _
  have hz : (((w.alloc (.cells ([.slice A0 x0.length cap0, .slice A1 x1.length cap1, .slice A2 x2.length cap2] : List Value).toArray 24)).alloc (.cells ([.slice none 0 0, .slice none 0 0, .slice none 0 0] : List Value).toArray 26)).alloc (.cells ([.slice none 0 0, .slice none 0 0, .slice none 0 0] : List Value).toArray 26)).heap.size = w.heap.size + 3 := by rw [size_alloc, size_alloc, size_alloc]
  generalize hW : ((w.alloc _).alloc _).alloc _ = W0 at *
  clear hW
  refine (toFloat32S_any _ x0 _ (HR0.out.below hT) hn0).mono ?_
  rintro e V0 ⟨t0, rfl, o0, hb, -⟩
  replace o0 := o0.ranged
  have hs0 : W0.heap.size ≤ V0.heap.size := hb.size
  replace B0 := B0.below hb
  replace B1 := B1.below hb
  replace B2 := B2.below hb
  replace hT := below_to hT hb hT.size
  clear hb
  obtain ⟨E0, f0, rfl, -, -⟩ := o0.rd
  have k00 := B0.cell 0 _ rfl
  have k10 := B1.cell 0 _ rfl
  have k20 := B2.cell 0 _ rfl
  have q10 := B1.free 0
  have q20 := B2.free 0
  have k01 := B0.cell 1 _ rfl
  have k11 := B1.cell 1 _ rfl
  have k21 := B2.cell 1 _ rfl
  have q11 := B1.free 1
  have q21 := B2.free 1
  have k02 := B0.cell 2 _ rfl
  have k12 := B1.cell 2 _ rfl
  have k22 := B2.cell 2 _ rfl
  have q12 := B1.free 2
  have q22 := B2.free 2
  go_wp2_with fail
  have B0' := B0.other (p := ⟨w.heap.size + 2, 0, none⟩) (by simp) (.slice E0 x0.length f0)
  have B1' := B1.other (p := ⟨w.heap.size + 2, 0, none⟩) (by simp) (.slice E0 x0.length f0)
  have B2' := B2.set (i := 0) rfl (.slice E0 x0.length f0)
  have p0 := o0.other (p := ⟨w.heap.size + 2, 0, none⟩) (by simp; omega) (.slice E0 x0.length f0)
  have hT' := hT.setCell (p := ⟨w.heap.size + 2, 0, none⟩) (by simp) (.slice E0 x0.length f0)
  have hz0 : (World.setCell V0 ⟨w.heap.size + 2, 0, none⟩ (.slice E0 x0.length f0)).heap.size = V0.heap.size := by simp
  clear k00 k10 k20 q10 q20 k01 k11 k21 q11 q21 k02 k12 k22 q12 q22 B0 B1 B2 hT o0
  have B0 := B0'
  have B1 := B1'
  have B2 := B2'
  have hT := hT'
  have o0 := p0
  clear B0' B1' B2' hT' p0
  generalize hW : World.setCell V0 _ _ = W1 at *
  clear hW
  simp only [List.set_cons_zero] at B2
  refine (toFloat32S_any _ x1 _ (HR1.out.below hT) hn1).mono ?_
  rintro e V1 ⟨t1, rfl, o1, hb, -⟩
  replace o1 := o1.ranged
  have hs1 : W1.heap.size ≤ V1.heap.size := hb.size
  replace o0 := o0.below hb
  replace B0 := B0.below hb
  replace B1 := B1.below hb
  replace B2 := B2.below hb
  replace hT := below_to hT hb hT.size
  clear hb
  obtain ⟨E1, f1, rfl, -, -⟩ := o1.rd
  have k00 := B0.cell 0 _ rfl
  have k10 := B1.cell 0 _ rfl
  have k20 := B2.cell 0 _ rfl
  have q10 := B1.free 0
  have q20 := B2.free 0
  have k01 := B0.cell 1 _ rfl
  have k11 := B1.cell 1 _ rfl
  have k21 := B2.cell 1 _ rfl
  have q11 := B1.free 1
  have q21 := B2.free 1
  have k02 := B0.cell 2 _ rfl
  have k12 := B1.cell 2 _ rfl
  have k22 := B2.cell 2 _ rfl
  have q12 := B1.free 2
  have q22 := B2.free 2
  go_wp2_with fail
  have B0' := B0.other (p := ⟨w.heap.size + 2, 1, none⟩) (by simp) (.slice E1 x1.length f1)
  have B1' := B1.other (p := ⟨w.heap.size + 2, 1, none⟩) (by simp) (.slice E1 x1.length f1)
  have B2' := B2.set (i := 1) rfl (.slice E1 x1.length f1)
  have p0 := o0.other (p := ⟨w.heap.size + 2, 1, none⟩) (by simp; omega) (.slice E1 x1.length f1)
  have p1 := o1.other (p := ⟨w.heap.size + 2, 1, none⟩) (by simp; omega) (.slice E1 x1.length f1)
  have hT' := hT.setCell (p := ⟨w.heap.size + 2, 1, none⟩) (by simp) (.slice E1 x1.length f1)
  have hz1 : (World.setCell V1 ⟨w.heap.size + 2, 1, none⟩ (.slice E1 x1.length f1)).heap.size = V1.heap.size := by simp
  clear k00 k10 k20 q10 q20 k01 k11 k21 q11 q21 k02 k12 k22 q12 q22 B0 B1 B2 hT o0 o1
  have B0 := B0'
  have B1 := B1'
  have B2 := B2'
  have hT := hT'
  have o0 := p0
  have o1 := p1
  clear B0' B1' B2' hT' p0 p1
  generalize hW : World.setCell V1 _ _ = W2 at *
  clear hW
  simp only [List.set_cons_zero, List.set_cons_succ] at B2
  refine (toFloat32S_any _ x2 _ (HR2.out.below hT) hn2).mono ?_
  rintro e V2 ⟨t2, rfl, o2, hb, -⟩
  replace o2 := o2.ranged
  have hs2 : W2.heap.size ≤ V2.heap.size := hb.size
  replace o0 := o0.below hb
  replace o1 := o1.below hb
  replace B0 := B0.below hb
  replace B1 := B1.below hb
  replace B2 := B2.below hb
  replace hT := below_to hT hb hT.size
  clear hb
  obtain ⟨E2, f2, rfl, -, -⟩ := o2.rd
  have k00 := B0.cell 0 _ rfl
  have k10 := B1.cell 0 _ rfl
  have k20 := B2.cell 0 _ rfl
  have q10 := B1.free 0
  have q20 := B2.free 0
  have k01 := B0.cell 1 _ rfl
  have k11 := B1.cell 1 _ rfl
  have k21 := B2.cell 1 _ rfl
  have q11 := B1.free 1
  have q21 := B2.free 1
  have k02 := B0.cell 2 _ rfl
  have k12 := B1.cell 2 _ rfl
  have k22 := B2.cell 2 _ rfl
  have q12 := B1.free 2
  have q22 := B2.free 2
  go_wp2
  refine bodyPost_ret (v := mxV (.slice E0 x0.length f0) (.slice E1 x1.length f1) (.slice E2 x2.length f2)) (by simp [results, Try.results7, go_sem, *]) rfl ⟨_, _, _, V0.heap.size, V1.heap.size, rfl, ?_, ?_, ?_, ?_, ?_, ?_, ?_⟩
  · exact (((((o0.other (p := ⟨w.heap.size + 2, 2, none⟩) (by simp; omega) _).other (p := ⟨w.heap.size + 1, 0, none⟩) (by simp; omega) _).other (p := ⟨w.heap.size + 1, 1, none⟩) (by simp; omega) _).other (p := ⟨w.heap.size + 1, 2, none⟩) (by simp; omega) _)).mono (by omega) (by omega)
  · exact (((((o1.other (p := ⟨w.heap.size + 2, 2, none⟩) (by simp; omega) _).other (p := ⟨w.heap.size + 1, 0, none⟩) (by simp; omega) _).other (p := ⟨w.heap.size + 1, 1, none⟩) (by simp; omega) _).other (p := ⟨w.heap.size + 1, 2, none⟩) (by simp; omega) _)).mono (by omega) (by omega)
  · exact (((((o2.other (p := ⟨w.heap.size + 2, 2, none⟩) (by simp; omega) _).other (p := ⟨w.heap.size + 1, 0, none⟩) (by simp; omega) _).other (p := ⟨w.heap.size + 1, 1, none⟩) (by simp; omega) _).other (p := ⟨w.heap.size + 1, 2, none⟩) (by simp; omega) _)).mono (by omega) (by simp)
  · first | omega | (simp; omega)
  · first | omega | (simp; omega)
  · first | omega | (simp; omega)
  · exact ((((hT.setCell (p := ⟨w.heap.size + 2, 2, none⟩) (by simp) _).setCell (p := ⟨w.heap.size + 1, 0, none⟩) (by simp) _).setCell (p := ⟨w.heap.size + 1, 1, none⟩) (by simp) _).setCell (p := ⟨w.heap.size + 1, 2, none⟩) (by simp) _)

/-- Two that read as lists that stand for the same. -/
theorem eqMixture_any (s0 r0 : Value) (x0 y0 : List Nat) (s1 r1 : Value) (x1 y1 : List Nat) (s2 r2 : Value) (x2 y2 : List Nat) (hn0 : x0.length ≤ 1099511627776) (hm0 : y0.length ≤ 1099511627776) (hn1 : x1.length ≤ 1099511627776) (hm1 : y1.length ≤ 1099511627776) (hn2 : x2.length ≤ 1099511627776) (hm2 : y2.length ≤ 1099511627776) (w : World) (hr0 : Rd fV w s0 x0) (hq0 : Rd fV w r0 y0) (he0 : absL x0 = absL y0) (hr1 : Rd fV w s1 x1) (hq1 : Rd fV w r1 y1) (he1 : absL x1 = absL y1) (hr2 : Rd fV w s2 x2) (hq2 : Rd fV w r2 y2) (he2 : absL x2 = absL y2) :
    Calls Try.prog 10 #[mxV s0 s1 s2, mxV r0 r1 r2] w fun e w' => e = .returned (.bool true) ∧ Below w.heap.size w w' := by
  have HR0 := Lib.hid hr0
  obtain ⟨A0, cap0, rfl, hcap0, hA0⟩ := hr0
  clear hA0
  have HR1 := Lib.hid hr1
  obtain ⟨A1, cap1, rfl, hcap1, hA1⟩ := hr1
  clear hA1
  have HR2 := Lib.hid hr2
  obtain ⟨A2, cap2, rfl, hcap2, hA2⟩ := hr2
  clear hA2
  have HQ0 := Lib.hid hq0
  obtain ⟨C0, d0, rfl, hd0, hC0⟩ := hq0
  clear hC0
  have HE0 := Lib.hid he0
  clear he0
  have HQ1 := Lib.hid hq1
  obtain ⟨C1, d1, rfl, hd1, hC1⟩ := hq1
  clear hC1
  have HE1 := Lib.hid he1
  clear he1
  have HQ2 := Lib.hid hq2
  obtain ⟨C2, d2, rfl, hd2, hC2⟩ := hq2
  clear hC2
  have HE2 := Lib.hid he2
  clear he2
  go_enter Try.func10, Try.ntmps10
  go_wp2_with fail
  refine (eqFloat32S_any _ _ x0 y0 _ (HR0.out.below (((Below.refl _ _).alloc (Nat.le_refl _) _).alloc (by simp) _)) (HQ0.out.below (((Below.refl _ _).alloc (Nat.le_refl _) _).alloc (by simp) _)) hn0 hm0 HE0.out).mono ?_
  rintro e V0 ⟨rfl, n0, rfl⟩
  go_wp2_with fail
  refine (eqFloat32S_any _ _ x1 y1 _ (HR1.out.below (below_drewN_ (((Below.refl _ _).alloc (Nat.le_refl _) _).alloc (by simp) _))) (HQ1.out.below (below_drewN_ (((Below.refl _ _).alloc (Nat.le_refl _) _).alloc (by simp) _))) hn1 hm1 HE1.out).mono ?_
  rintro e V1 ⟨rfl, n1, rfl⟩
  go_wp2_with fail
  refine (eqFloat32S_any _ _ x2 y2 _ (HR2.out.below (below_drewN_ (((Below.refl _ _).alloc (Nat.le_refl _) _).alloc (by simp) _))) (HQ2.out.below (below_drewN_ (((Below.refl _ _).alloc (Nat.le_refl _) _).alloc (by simp) _))) hn2 hm2 HE2.out).mono ?_
  rintro e V2 ⟨rfl, n2, rfl⟩
  go_wp2
  go_ret
  exact ⟨rfl, below_drewN_ (((Below.refl _ _).alloc (Nat.le_refl _) _).alloc (by simp) _)⟩

theorem markMixture_any (s0 : Value) (x0 : List Nat) (s1 : Value) (x1 : List Nat) (s2 : Value) (x2 : List Nat) (j : Int) (hj0 : 0 ≤ j) (hj : j ≤ 109951162777) (lo0 hi0 : Nat) (lo1 hi1 : Nat) (lo2 hi2 : Nat) (w : World) (hr0 : OwnR fV 39 w lo0 hi0 s0 x0) (hr1 : OwnR fV 39 w lo1 hi1 s1 x1) (hr2 : OwnR fV 39 w lo2 hi2 s2 x2) (hn0 : x0.length ≤ 109951162777) (hn1 : x1.length ≤ 109951162777) (hn2 : x2.length ≤ 109951162777) (hl0 : lo0 ≤ w.heap.size) (hh0 : hi0 ≤ w.heap.size) (hl1 : lo1 ≤ w.heap.size) (hh1 : hi1 ≤ w.heap.size) (hl2 : lo2 ≤ w.heap.size) (hh2 : hi2 ≤ w.heap.size)
    (hd01 : hi0 ≤ lo1 ∨ hi1 ≤ lo0) (hd02 : hi0 ≤ lo2 ∨ hi2 ≤ lo0) (hd12 : hi1 ≤ lo2 ∨ hi2 ≤ lo1) :
    Calls Try.prog 12 #[mxV s0 s1 s2, .int .i64 j] w fun e w' => ∃ V0 V1 V2, e = .returned (.int .i64 (j + x0.length + x1.length + x2.length)) ∧ Below w.heap.size w V0 ∧ Touch lo0 hi0 V0 V1 ∧ Touch lo1 hi1 V1 V2 ∧ Touch lo2 hi2 V2 w' ∧ OwnR fV 39 w' lo0 hi0 s0 (marksFloat32S (j) x0.length) ∧ OwnR fV 39 w' lo1 hi1 s1 (marksFloat32S (j + x0.length) x1.length) ∧ OwnR fV 39 w' lo2 hi2 s2 (marksFloat32S (j + x0.length + x1.length) x2.length) := by
  have HR0 := Lib.hid hr0.rd
  obtain ⟨A0, cap0, rfl, hcap0, hA0⟩ := hr0.rd
  clear hA0
  have HR1 := Lib.hid hr1.rd
  obtain ⟨A1, cap1, rfl, hcap1, hA1⟩ := hr1.rd
  clear hA1
  have HR2 := Lib.hid hr2.rd
  obtain ⟨A2, cap2, rfl, hcap2, hA2⟩ := hr2.rd
  clear hA2
  go_enter Try.func12, Try.ntmps12
  go_wp2_with fail
  have hb : Below w.heap.size w (w.alloc (.cells ([.slice A0 x0.length cap0, .slice A1 x1.length cap1, .slice A2 x2.length cap2] : List Value).toArray 26)) := below_alloc _ _
  have B : BoxAt (w.alloc (.cells ([.slice A0 x0.length cap0, .slice A1 x1.length cap1, .slice A2 x2.length cap2] : List Value).toArray 26)) w.heap.size [.slice A0 x0.length cap0, .slice A1 x1.length cap1, .slice A2 x2.length cap2] := BoxAt.new w [.slice A0 x0.length cap0, .slice A1 x1.length cap1, .slice A2 x2.length cap2] 26
  have hz : (w.alloc (.cells ([.slice A0 x0.length cap0, .slice A1 x1.length cap1, .slice A2 x2.length cap2] : List Value).toArray 26)).heap.size = w.heap.size + 1 := size_alloc _ _
  generalize hW : w.alloc _ = W0 at *
  clear hW
  have HB0 := Lib.hid hb
  replace hr0 := hr0.below hb
  replace hr1 := hr1.below hb
  replace hr2 := hr2.below hb
  clear hb
  refine (markFloat32S_any _ x0 (j) (by omega) (by omega) lo0 _ hr0.own (by omega) (by omega)).mono ?_
  rintro e U0 ⟨rfl, om, hg⟩
  have ht := Touch.of_grown hg hr0.lt
  have hz0 : W0.heap.size ≤ U0.heap.size := ht.size
  replace B := B.touch ht (by omega)
  replace hr1 := hr1.touch ht (by omega)
  replace hr2 := hr2.touch ht (by omega)
  replace hr0 := hr0.again om
  have HT0 := Lib.hid ht
  clear om hg ht
  have c1 := B.cell 1 _ rfl
  go_wp2_with fail
  refine (markFloat32S_any _ x1 (j + x0.length) (by omega) (by omega) lo1 _ hr1.own (by omega) (by omega)).mono ?_
  rintro e U1 ⟨rfl, om, hg⟩
  have ht := Touch.of_grown hg hr1.lt
  have hz1 : U0.heap.size ≤ U1.heap.size := ht.size
  replace B := B.touch ht (by omega)
  replace hr0 := hr0.touch ht (by omega)
  replace hr2 := hr2.touch ht (by omega)
  replace hr1 := hr1.again om
  have HT1 := Lib.hid ht
  clear om hg ht
  have c2 := B.cell 2 _ rfl
  go_wp2_with fail
  refine (markFloat32S_any _ x2 (j + x0.length + x1.length) (by omega) (by omega) lo2 _ hr2.own (by omega) (by omega)).mono ?_
  rintro e U2 ⟨rfl, om, hg⟩
  have ht := Touch.of_grown hg hr2.lt
  have hz2 : U1.heap.size ≤ U2.heap.size := ht.size
  replace B := B.touch ht (by omega)
  replace hr0 := hr0.touch ht (by omega)
  replace hr1 := hr1.touch ht (by omega)
  replace hr2 := hr2.again om
  have HT2 := Lib.hid ht
  clear om hg ht
  go_wp2
  go_ret
  exact ⟨W0, U0, U1, rfl, HB0.out, HT0.out, HT1.out, HT2.out, hr0, hr1, hr2⟩
theorem heldMixture_any (s0 : Value) (n0 : Nat) (s1 : Value) (n1 : Nat) (s2 : Value) (n2 : Nat) (j : Int) (hj0 : 0 ≤ j) (hj : j ≤ 109951162777) (w : World) (hr0 : Rd fV w s0 (marksFloat32S (j) n0)) (hr1 : Rd fV w s1 (marksFloat32S (j + n0) n1)) (hr2 : Rd fV w s2 (marksFloat32S (j + n0 + n1) n2)) (hn0 : n0 ≤ 109951162777) (hn1 : n1 ≤ 109951162777) (hn2 : n2 ≤ 109951162777) :
    Calls Try.prog 14 #[mxV s0 s1 s2, .int .i64 j] w fun e w' => e = .returned (.int .i64 (j + n0 + n1 + n2)) ∧ Below w.heap.size w w' := by
  have HR0 := Lib.hid hr0
  obtain ⟨A0, cap0, rfl, hcap0, hA0⟩ := hr0
  clear hA0
  have HR1 := Lib.hid hr1
  obtain ⟨A1, cap1, rfl, hcap1, hA1⟩ := hr1
  clear hA1
  have HR2 := Lib.hid hr2
  obtain ⟨A2, cap2, rfl, hcap2, hA2⟩ := hr2
  clear hA2
  go_enter Try.func14, Try.ntmps14
  go_wp2_with fail
  refine (heldFloat32S_any _ n0 (j) (by omega) (by omega) _ (HR0.out.below (below_alloc _ _)) (by omega)).mono ?_
  rintro e U0 ⟨rfl, rfl⟩
  go_wp2_with fail
  refine (heldFloat32S_any _ n1 (j + n0) (by omega) (by omega) _ (HR1.out.below (below_alloc _ _)) (by omega)).mono ?_
  rintro e U1 ⟨rfl, rfl⟩
  go_wp2_with fail
  refine (heldFloat32S_any _ n2 (j + n0 + n1) (by omega) (by omega) _ (HR2.out.below (below_alloc _ _)) (by omega)).mono ?_
  rintro e U2 ⟨rfl, rfl⟩
  go_wp2
  go_ret
  exact ⟨rfl, below_alloc _ _⟩
end Go.Proofs.Ytimpabceellihaa
