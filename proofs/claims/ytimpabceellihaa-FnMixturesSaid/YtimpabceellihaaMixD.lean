/-
  Mixtures by value: laws.szMixture, toMixture, eqMixture, markMixture, heldMixture.
  A mixture is one: spec.l05Mixture, both ValidMixture.
  The walks of laws.toBoolS, eqBoolS, markBoolS, heldBoolS.
  Wealth by bets: both BetWealth.
  How dense a mixture is: impl.densities and spec.l05Dense, spec.l05At tell the same of every part.
  slices.Clone of numbers; the end of a list; where a rising list passes a number.
-/
import Derived.Test.YtimpabceellihaaSl
import Derived.Test.YtimpabceellihaaShareIs2
import Derived.Deep.QuietTactic
import Derived.BigQuiet
import Derived.Test.YtimpabceellihaaMean
import Derived.Test.YtimpabceellihaaLogE
import Derived.Test.YtimpabceellihaaKey
import Derived.Test.YtimpabceellihaaShRet
namespace Go.Proofs.Ytimpabceellihaa
section
open Go.RowKit

/-- A Mixture as a value. -/
abbrev mxV (s0 s1 s2 : Value) : Value := .agg #[s0, s1, s2]


theorem szMixture_any (s0 : Value) (x0 : List Nat) (s1 : Value) (x1 : List Nat) (s2 : Value) (x2 : List Nat) (m : Int) (hm0 : 0 ≤ m) (hm : m ≤ 1048576) (w : World) (hr0 : Rd fV w s0 x0) (hr1 : Rd fV w s1 x1) (hr2 : Rd fV w s2 x2) (hx0 : x0.length ≤ 9223372036854775807) (hx1 : x1.length ≤ 9223372036854775807) (hx2 : x2.length ≤ 9223372036854775807) :
    Calls Try.prog 5 #[mxV s0 s1 s2, .int .i64 m] w fun e w' => e = .returned (.int .i64 (if m < (x0.length : Int) + (x1.length : Int) + (x2.length : Int) then -1 else m - ((x0.length : Int) + (x1.length : Int) + (x2.length : Int)))) ∧ Below w.heap.size w w' := by
  have HR0 := Lib.hid hr0
  obtain ⟨A0, cap0, rfl, hcap0, hA0⟩ := hr0
  clear hA0
  have HR1 := Lib.hid hr1
  obtain ⟨A1, cap1, rfl, hcap1, hA1⟩ := hr1
  clear hA1
  have HR2 := Lib.hid hr2
  obtain ⟨A2, cap2, rfl, hcap2, hA2⟩ := hr2
  clear hA2
  by_cases h0 : m < (x0.length : Int)
  · go_enter Try.func5, Try.ntmps5
    go_wp2_with fail
    refine (szFloat32S_any _ x0 (m) (by omega) (by omega) _ (HR0.out.below (below_alloc _ _)) hx0).mono ?_
    rintro e w0 ⟨rfl, rfl⟩
    rw [if_pos (by omega)]
    go_wp2
    go_ret
    exact ⟨ret_int (by first | rfl | (rw [if_pos (by omega)])), below_alloc _ _⟩
  by_cases h1 : m - (x0.length : Int) < (x1.length : Int)
  · go_enter Try.func5, Try.ntmps5
    go_wp2_with fail
    refine (szFloat32S_any _ x0 (m) (by omega) (by omega) _ (HR0.out.below (below_alloc _ _)) hx0).mono ?_
    rintro e w0 ⟨rfl, rfl⟩
    rw [if_neg (by omega)]
    go_wp2_with fail
    refine (szFloat32S_any _ x1 (m - (x0.length : Int)) (by omega) (by omega) _ (HR1.out.below (below_alloc _ _)) hx1).mono ?_
    rintro e w1 ⟨rfl, rfl⟩
    rw [if_pos (by omega)]
    go_wp2
    go_ret
    exact ⟨ret_int (by first | rfl | (rw [if_pos (by omega)])), below_alloc _ _⟩
  by_cases h2 : m - (x0.length : Int) - (x1.length : Int) < (x2.length : Int)
  · go_enter Try.func5, Try.ntmps5
    go_wp2_with fail
    refine (szFloat32S_any _ x0 (m) (by omega) (by omega) _ (HR0.out.below (below_alloc _ _)) hx0).mono ?_
    rintro e w0 ⟨rfl, rfl⟩
    rw [if_neg (by omega)]
    go_wp2_with fail
    refine (szFloat32S_any _ x1 (m - (x0.length : Int)) (by omega) (by omega) _ (HR1.out.below (below_alloc _ _)) hx1).mono ?_
    rintro e w1 ⟨rfl, rfl⟩
    rw [if_neg (by omega)]
    go_wp2_with fail
    refine (szFloat32S_any _ x2 (m - (x0.length : Int) - (x1.length : Int)) (by omega) (by omega) _ (HR2.out.below (below_alloc _ _)) hx2).mono ?_
    rintro e w2 ⟨rfl, rfl⟩
    rw [if_pos (by omega)]
    go_wp2
    go_ret
    exact ⟨ret_int (by first | rfl | (rw [if_pos (by omega)])), below_alloc _ _⟩
  go_enter Try.func5, Try.ntmps5
  go_wp2_with fail
  refine (szFloat32S_any _ x0 (m) (by omega) (by omega) _ (HR0.out.below (below_alloc _ _)) hx0).mono ?_
  rintro e w0 ⟨rfl, rfl⟩
  rw [if_neg (by omega)]
  go_wp2_with fail
  refine (szFloat32S_any _ x1 (m - (x0.length : Int)) (by omega) (by omega) _ (HR1.out.below (below_alloc _ _)) hx1).mono ?_
  rintro e w1 ⟨rfl, rfl⟩
  rw [if_neg (by omega)]
  go_wp2_with fail
  refine (szFloat32S_any _ x2 (m - (x0.length : Int) - (x1.length : Int)) (by omega) (by omega) _ (HR2.out.below (below_alloc _ _)) hx2).mono ?_
  rintro e w2 ⟨rfl, rfl⟩
  rw [if_neg (by omega)]
  go_wp2
  go_ret
  exact ⟨ret_int (by first | omega | (rw [if_neg (by omega)]; omega)), below_alloc _ _⟩

set_option maxHeartbeats 1600000 in
theorem toMixture_any (s0 : Value) (x0 : List Nat) (s1 : Value) (x1 : List Nat) (s2 : Value) (x2 : List Nat) (hn0 : x0.length ≤ 1099511627776) (hn1 : x1.length ≤ 1099511627776) (hn2 : x2.length ≤ 1099511627776) (w : World) (hr0 : Rd fV w s0 x0) (hr1 : Rd fV w s1 x1) (hr2 : Rd fV w s2 x2) :
    Calls Try.prog 7 #[mxV s0 s1 s2] w fun e w' => ∃ t0 t1 t2 m1 m2, e = .returned (mxV t0 t1 t2) ∧ OwnR fV 39 w' w.heap.size m1 t0 x0 ∧ OwnR fV 39 w' m1 m2 t1 x1 ∧ OwnR fV 39 w' m2 w'.heap.size t2 x2 ∧ w.heap.size ≤ m1 ∧ m1 ≤ m2 ∧ m2 ≤ w'.heap.size ∧ Below w.heap.size w w' := by
  have HR0 := Lib.hid hr0
  obtain ⟨A0, cap0, rfl, hcap0, hA0⟩ := hr0
  clear hA0
  have HR1 := Lib.hid hr1
  obtain ⟨A1, cap1, rfl, hcap1, hA1⟩ := hr1
  clear hA1
  have HR2 := Lib.hid hr2
  obtain ⟨A2, cap2, rfl, hcap2, hA2⟩ := hr2
  clear hA2
  go_enter Try.func7, Try.ntmps7
  go_wp2_with fail
  have B0 : BoxAt (((w.alloc (.cells ([.slice A0 x0.length cap0, .slice A1 x1.length cap1, .slice A2 x2.length cap2] : List Value).toArray 24)).alloc (.cells ([.slice none 0 0, .slice none 0 0, .slice none 0 0] : List Value).toArray 26)).alloc (.cells ([.slice none 0 0, .slice none 0 0, .slice none 0 0] : List Value).toArray 26)) w.heap.size [.slice A0 x0.length cap0, .slice A1 x1.length cap1, .slice A2 x2.length cap2] := ((BoxAt.new w [.slice A0 x0.length cap0, .slice A1 x1.length cap1, .slice A2 x2.length cap2] 24).alloc _).alloc _
  have B1 : BoxAt (((w.alloc (.cells ([.slice A0 x0.length cap0, .slice A1 x1.length cap1, .slice A2 x2.length cap2] : List Value).toArray 24)).alloc (.cells ([.slice none 0 0, .slice none 0 0, .slice none 0 0] : List Value).toArray 26)).alloc (.cells ([.slice none 0 0, .slice none 0 0, .slice none 0 0] : List Value).toArray 26)) (w.heap.size + 1) [.slice none 0 0, .slice none 0 0, .slice none 0 0] := by
    have := (BoxAt.new (w.alloc (.cells ([.slice A0 x0.length cap0, .slice A1 x1.length cap1, .slice A2 x2.length cap2] : List Value).toArray 24)) [.slice none 0 0, .slice none 0 0, .slice none 0 0] 26).alloc (.cells ([.slice none 0 0, .slice none 0 0, .slice none 0 0] : List Value).toArray 26)
    rwa [size_alloc] at this
  have B2 : BoxAt (((w.alloc (.cells ([.slice A0 x0.length cap0, .slice A1 x1.length cap1, .slice A2 x2.length cap2] : List Value).toArray 24)).alloc (.cells ([.slice none 0 0, .slice none 0 0, .slice none 0 0] : List Value).toArray 26)).alloc (.cells ([.slice none 0 0, .slice none 0 0, .slice none 0 0] : List Value).toArray 26)) (w.heap.size + 2) [.slice none 0 0, .slice none 0 0, .slice none 0 0] := by
    have := BoxAt.new ((w.alloc (.cells ([.slice A0 x0.length cap0, .slice A1 x1.length cap1, .slice A2 x2.length cap2] : List Value).toArray 24)).alloc (.cells ([.slice none 0 0, .slice none 0 0, .slice none 0 0] : List Value).toArray 26)) [.slice none 0 0, .slice none 0 0, .slice none 0 0] 26
    rwa [size_alloc, size_alloc] at this
  have hT : Below w.heap.size w (((w.alloc (.cells ([.slice A0 x0.length cap0, .slice A1 x1.length cap1, .slice A2 x2.length cap2] : List Value).toArray 24)).alloc (.cells ([.slice none 0 0, .slice none 0 0, .slice none 0 0] : List Value).toArray 26)).alloc (.cells ([.slice none 0 0, .slice none 0 0, .slice none 0 0] : List Value).toArray 26)) := (((Below.refl _ _).alloc (Nat.le_refl _) _).alloc (by simp) _).alloc (by simp; omega) _
  have hz : (((w.alloc (.cells ([.slice A0 x0.length cap0, .slice A1 x1.length cap1, .slice A2 x2.length cap2] : List Value).toArray 24)).alloc (.cells ([.slice none 0 0, .slice none 0 0, .slice none 0 0] : List Value).toArray 26)).alloc (.cells ([.slice none 0 0, .slice none 0 0, .slice none 0 0] : List Value).toArray 26)).heap.size = w.heap.size + 3 := by rw [size_alloc, size_alloc, size_alloc]
  generalize hW : ((w.alloc _).alloc _).alloc _ = W0 at *
  clear hW
  refine (toFloat32S_any _ x0 _ (HR0.out.below hT) hn0).mono ?_
  rintro e V0 ⟨t0, rfl, o0, hb, -⟩
  replace o0 := o0.ranged
  have hs0 : W0.heap.size ≤ V0.heap.size := hb.size
  replace B0 := B0.below hb
  replace B1 := B1.below hb
  replace B2 := B2.below hb
  replace hT := below_to hT hb hT.size
  clear hb
  obtain ⟨E0, f0, rfl, -, -⟩ := o0.rd
  have k00 := B0.cell 0 _ rfl
  have k10 := B1.cell 0 _ rfl
  have k20 := B2.cell 0 _ rfl
  have q10 := B1.free 0
  have q20 := B2.free 0
  have k01 := B0.cell 1 _ rfl
  have k11 := B1.cell 1 _ rfl
  have k21 := B2.cell 1 _ rfl
  have q11 := B1.free 1
  have q21 := B2.free 1
  have k02 := B0.cell 2 _ rfl
  have k12 := B1.cell 2 _ rfl
  have k22 := B2.cell 2 _ rfl
  have q12 := B1.free 2
  have q22 := B2.free 2
  go_wp2_with fail
  have B0' := B0.other (p := ⟨w.heap.size + 2, 0, none⟩) (by simp) (.slice E0 x0.length f0)
  have B1' := B1.other (p := ⟨w.heap.size + 2, 0, none⟩) (by simp) (.slice E0 x0.length f0)
  have B2' := B2.set (i := 0) rfl (.slice E0 x0.length f0)
  have p0 := o0.other (p := ⟨w.heap.size + 2, 0, none⟩) (by simp; omega) (.slice E0 x0.length f0)
  have hT' := hT.setCell (p := ⟨w.heap.size + 2, 0, none⟩) (by simp) (.slice E0 x0.length f0)
  have hz0 : (World.setCell V0 ⟨w.heap.size + 2, 0, none⟩ (.slice E0 x0.length f0)).heap.size = V0.heap.size := by simp
  clear k00 k10 k20 q10 q20 k01 k11 k21 q11 q21 k02 k12 k22 q12 q22 B0 B1 B2 hT o0
  have B0 := B0'
  have B1 := B1'
  have B2 := B2'
  have hT := hT'
  have o0 := p0
  clear B0' B1' B2' hT' p0
  generalize hW : World.setCell V0 _ _ = W1 at *
  clear hW
  simp only [List.set_cons_zero] at B2
  refine (toFloat32S_any _ x1 _ (HR1.out.below hT) hn1).mono ?_
  rintro e V1 ⟨t1, rfl, o1, hb, -⟩
  replace o1 := o1.ranged
  have hs1 : W1.heap.size ≤ V1.heap.size := hb.size
  replace o0 := o0.below hb
  replace B0 := B0.below hb
  replace B1 := B1.below hb
  replace B2 := B2.below hb
  replace hT := below_to hT hb hT.size
  clear hb
  obtain ⟨E1, f1, rfl, -, -⟩ := o1.rd
  have k00 := B0.cell 0 _ rfl
  have k10 := B1.cell 0 _ rfl
  have k20 := B2.cell 0 _ rfl
  have q10 := B1.free 0
  have q20 := B2.free 0
  have k01 := B0.cell 1 _ rfl
  have k11 := B1.cell 1 _ rfl
  have k21 := B2.cell 1 _ rfl
  have q11 := B1.free 1
  have q21 := B2.free 1
  have k02 := B0.cell 2 _ rfl
  have k12 := B1.cell 2 _ rfl
  have k22 := B2.cell 2 _ rfl
  have q12 := B1.free 2
  have q22 := B2.free 2
  go_wp2_with fail
  have B0' := B0.other (p := ⟨w.heap.size + 2, 1, none⟩) (by simp) (.slice E1 x1.length f1)
  have B1' := B1.other (p := ⟨w.heap.size + 2, 1, none⟩) (by simp) (.slice E1 x1.length f1)
  have B2' := B2.set (i := 1) rfl (.slice E1 x1.length f1)
  have p0 := o0.other (p := ⟨w.heap.size + 2, 1, none⟩) (by simp; omega) (.slice E1 x1.length f1)
  have p1 := o1.other (p := ⟨w.heap.size + 2, 1, none⟩) (by simp; omega) (.slice E1 x1.length f1)
  have hT' := hT.setCell (p := ⟨w.heap.size + 2, 1, none⟩) (by simp) (.slice E1 x1.length f1)
  have hz1 : (World.setCell V1 ⟨w.heap.size + 2, 1, none⟩ (.slice E1 x1.length f1)).heap.size = V1.heap.size := by simp
  clear k00 k10 k20 q10 q20 k01 k11 k21 q11 q21 k02 k12 k22 q12 q22 B0 B1 B2 hT o0 o1
  have B0 := B0'
  have B1 := B1'
  have B2 := B2'
  have hT := hT'
  have o0 := p0
  have o1 := p1
  clear B0' B1' B2' hT' p0 p1
  generalize hW : World.setCell V1 _ _ = W2 at *
  clear hW
  simp only [List.set_cons_zero, List.set_cons_succ] at B2
  refine (toFloat32S_any _ x2 _ (HR2.out.below hT) hn2).mono ?_
  rintro e V2 ⟨t2, rfl, o2, hb, -⟩
  replace o2 := o2.ranged
  have hs2 : W2.heap.size ≤ V2.heap.size := hb.size
  replace o0 := o0.below hb
  replace o1 := o1.below hb
  replace B0 := B0.below hb
  replace B1 := B1.below hb
  replace B2 := B2.below hb
  replace hT := below_to hT hb hT.size
  clear hb
  obtain ⟨E2, f2, rfl, -, -⟩ := o2.rd
  have k00 := B0.cell 0 _ rfl
  have k10 := B1.cell 0 _ rfl
  have k20 := B2.cell 0 _ rfl
  have q10 := B1.free 0
  have q20 := B2.free 0
  have k01 := B0.cell 1 _ rfl
  have k11 := B1.cell 1 _ rfl
  have k21 := B2.cell 1 _ rfl
  have q11 := B1.free 1
  have q21 := B2.free 1
  have k02 := B0.cell 2 _ rfl
  have k12 := B1.cell 2 _ rfl
  have k22 := B2.cell 2 _ rfl
  have q12 := B1.free 2
  have q22 := B2.free 2
  go_wp2
  refine bodyPost_ret (v := mxV (.slice E0 x0.length f0) (.slice E1 x1.length f1) (.slice E2 x2.length f2)) (by simp [results, Try.results7, go_sem, *]) rfl ⟨_, _, _, V0.heap.size, V1.heap.size, rfl, ?_, ?_, ?_, ?_, ?_, ?_, ?_⟩
  · exact (((((o0.other (p := ⟨w.heap.size + 2, 2, none⟩) (by simp; omega) _).other (p := ⟨w.heap.size + 1, 0, none⟩) (by simp; omega) _).other (p := ⟨w.heap.size + 1, 1, none⟩) (by simp; omega) _).other (p := ⟨w.heap.size + 1, 2, none⟩) (by simp; omega) _)).mono (by omega) (by omega)
  · exact (((((o1.other (p := ⟨w.heap.size + 2, 2, none⟩) (by simp; omega) _).other (p := ⟨w.heap.size + 1, 0, none⟩) (by simp; omega) _).other (p := ⟨w.heap.size + 1, 1, none⟩) (by simp; omega) _).other (p := ⟨w.heap.size + 1, 2, none⟩) (by simp; omega) _)).mono (by omega) (by omega)
  · exact (((((o2.other (p := ⟨w.heap.size + 2, 2, none⟩) (by simp; omega) _).other (p := ⟨w.heap.size + 1, 0, none⟩) (by simp; omega) _).other (p := ⟨w.heap.size + 1, 1, none⟩) (by simp; omega) _).other (p := ⟨w.heap.size + 1, 2, none⟩) (by simp; omega) _)).mono (by omega) (by simp)
  · first | omega | (simp; omega)
  · first | omega | (simp; omega)
  · first | omega | (simp; omega)
  · exact ((((hT.setCell (p := ⟨w.heap.size + 2, 2, none⟩) (by simp) _).setCell (p := ⟨w.heap.size + 1, 0, none⟩) (by simp) _).setCell (p := ⟨w.heap.size + 1, 1, none⟩) (by simp) _).setCell (p := ⟨w.heap.size + 1, 2, none⟩) (by simp) _)

/-- Two that read as lists that stand for the same. -/
theorem eqMixture_any (s0 r0 : Value) (x0 y0 : List Nat) (s1 r1 : Value) (x1 y1 : List Nat) (s2 r2 : Value) (x2 y2 : List Nat) (hn0 : x0.length ≤ 1099511627776) (hm0 : y0.length ≤ 1099511627776) (hn1 : x1.length ≤ 1099511627776) (hm1 : y1.length ≤ 1099511627776) (hn2 : x2.length ≤ 1099511627776) (hm2 : y2.length ≤ 1099511627776) (w : World) (hr0 : Rd fV w s0 x0) (hq0 : Rd fV w r0 y0) (he0 : absL x0 = absL y0) (hr1 : Rd fV w s1 x1) (hq1 : Rd fV w r1 y1) (he1 : absL x1 = absL y1) (hr2 : Rd fV w s2 x2) (hq2 : Rd fV w r2 y2) (he2 : absL x2 = absL y2) :
    Calls Try.prog 10 #[mxV s0 s1 s2, mxV r0 r1 r2] w fun e w' => e = .returned (.bool true) ∧ Below w.heap.size w w' := by
  have HR0 := Lib.hid hr0
  obtain ⟨A0, cap0, rfl, hcap0, hA0⟩ := hr0
  clear hA0
  have HR1 := Lib.hid hr1
  obtain ⟨A1, cap1, rfl, hcap1, hA1⟩ := hr1
  clear hA1
  have HR2 := Lib.hid hr2
  obtain ⟨A2, cap2, rfl, hcap2, hA2⟩ := hr2
  clear hA2
  have HQ0 := Lib.hid hq0
  obtain ⟨C0, d0, rfl, hd0, hC0⟩ := hq0
  clear hC0
  have HE0 := Lib.hid he0
  clear he0
  have HQ1 := Lib.hid hq1
  obtain ⟨C1, d1, rfl, hd1, hC1⟩ := hq1
  clear hC1
  have HE1 := Lib.hid he1
  clear he1
  have HQ2 := Lib.hid hq2
  obtain ⟨C2, d2, rfl, hd2, hC2⟩ := hq2
  clear hC2
  have HE2 := Lib.hid he2
  clear he2
  go_enter Try.func10, Try.ntmps10
  go_wp2_with fail
  refine (eqFloat32S_any _ _ x0 y0 _ (HR0.out.below (((Below.refl _ _).alloc (Nat.le_refl _) _).alloc (by simp) _)) (HQ0.out.below (((Below.refl _ _).alloc (Nat.le_refl _) _).alloc (by simp) _)) hn0 hm0 HE0.out).mono ?_
  rintro e V0 ⟨rfl, n0, rfl⟩
  go_wp2_with fail
  refine (eqFloat32S_any _ _ x1 y1 _ (HR1.out.below (below_drewN_ (((Below.refl _ _).alloc (Nat.le_refl _) _).alloc (by simp) _))) (HQ1.out.below (below_drewN_ (((Below.refl _ _).alloc (Nat.le_refl _) _).alloc (by simp) _))) hn1 hm1 HE1.out).mono ?_
  rintro e V1 ⟨rfl, n1, rfl⟩
  go_wp2_with fail
  refine (eqFloat32S_any _ _ x2 y2 _ (HR2.out.below (below_drewN_ (((Below.refl _ _).alloc (Nat.le_refl _) _).alloc (by simp) _))) (HQ2.out.below (below_drewN_ (((Below.refl _ _).alloc (Nat.le_refl _) _).alloc (by simp) _))) hn2 hm2 HE2.out).mono ?_
  rintro e V2 ⟨rfl, n2, rfl⟩
  go_wp2
  go_ret
  exact ⟨rfl, below_drewN_ (((Below.refl _ _).alloc (Nat.le_refl _) _).alloc (by simp) _)⟩

theorem markMixture_any (s0 : Value) (x0 : List Nat) (s1 : Value) (x1 : List Nat) (s2 : Value) (x2 : List Nat) (j : Int) (hj0 : 0 ≤ j) (hj : j ≤ 109951162777) (lo0 hi0 : Nat) (lo1 hi1 : Nat) (lo2 hi2 : Nat) (w : World) (hr0 : OwnR fV 39 w lo0 hi0 s0 x0) (hr1 : OwnR fV 39 w lo1 hi1 s1 x1) (hr2 : OwnR fV 39 w lo2 hi2 s2 x2) (hn0 : x0.length ≤ 109951162777) (hn1 : x1.length ≤ 109951162777) (hn2 : x2.length ≤ 109951162777) (hl0 : lo0 ≤ w.heap.size) (hh0 : hi0 ≤ w.heap.size) (hl1 : lo1 ≤ w.heap.size) (hh1 : hi1 ≤ w.heap.size) (hl2 : lo2 ≤ w.heap.size) (hh2 : hi2 ≤ w.heap.size)
    (hd01 : hi0 ≤ lo1 ∨ hi1 ≤ lo0) (hd02 : hi0 ≤ lo2 ∨ hi2 ≤ lo0) (hd12 : hi1 ≤ lo2 ∨ hi2 ≤ lo1) :
    Calls Try.prog 12 #[mxV s0 s1 s2, .int .i64 j] w fun e w' => ∃ V0 V1 V2, e = .returned (.int .i64 (j + x0.length + x1.length + x2.length)) ∧ Below w.heap.size w V0 ∧ Touch lo0 hi0 V0 V1 ∧ Touch lo1 hi1 V1 V2 ∧ Touch lo2 hi2 V2 w' ∧ OwnR fV 39 w' lo0 hi0 s0 (marksFloat32S (j) x0.length) ∧ OwnR fV 39 w' lo1 hi1 s1 (marksFloat32S (j + x0.length) x1.length) ∧ OwnR fV 39 w' lo2 hi2 s2 (marksFloat32S (j + x0.length + x1.length) x2.length) := by
  have HR0 := Lib.hid hr0.rd
  obtain ⟨A0, cap0, rfl, hcap0, hA0⟩ := hr0.rd
  clear hA0
  have HR1 := Lib.hid hr1.rd
  obtain ⟨A1, cap1, rfl, hcap1, hA1⟩ := hr1.rd
  clear hA1
  have HR2 := Lib.hid hr2.rd
  obtain ⟨A2, cap2, rfl, hcap2, hA2⟩ := hr2.rd
  clear hA2
  go_enter Try.func12, Try.ntmps12
  go_wp2_with fail
  have hb : Below w.heap.size w (w.alloc (.cells ([.slice A0 x0.length cap0, .slice A1 x1.length cap1, .slice A2 x2.length cap2] : List Value).toArray 26)) := below_alloc _ _
  have B : BoxAt (w.alloc (.cells ([.slice A0 x0.length cap0, .slice A1 x1.length cap1, .slice A2 x2.length cap2] : List Value).toArray 26)) w.heap.size [.slice A0 x0.length cap0, .slice A1 x1.length cap1, .slice A2 x2.length cap2] := BoxAt.new w [.slice A0 x0.length cap0, .slice A1 x1.length cap1, .slice A2 x2.length cap2] 26
  have hz : (w.alloc (.cells ([.slice A0 x0.length cap0, .slice A1 x1.length cap1, .slice A2 x2.length cap2] : List Value).toArray 26)).heap.size = w.heap.size + 1 := size_alloc _ _
  generalize hW : w.alloc _ = W0 at *
  clear hW
  have HB0 := Lib.hid hb
  replace hr0 := hr0.below hb
  replace hr1 := hr1.below hb
  replace hr2 := hr2.below hb
  clear hb
  refine (markFloat32S_any _ x0 (j) (by omega) (by omega) lo0 _ hr0.own (by omega) (by omega)).mono ?_
  rintro e U0 ⟨rfl, om, hg⟩
  have ht := Touch.of_grown hg hr0.lt
  have hz0 : W0.heap.size ≤ U0.heap.size := ht.size
  replace B := B.touch ht (by omega)
  replace hr1 := hr1.touch ht (by omega)
  replace hr2 := hr2.touch ht (by omega)
  replace hr0 := hr0.again om
  have HT0 := Lib.hid ht
  clear om hg ht
  have c1 := B.cell 1 _ rfl
  go_wp2_with fail
  refine (markFloat32S_any _ x1 (j + x0.length) (by omega) (by omega) lo1 _ hr1.own (by omega) (by omega)).mono ?_
  rintro e U1 ⟨rfl, om, hg⟩
  have ht := Touch.of_grown hg hr1.lt
  have hz1 : U0.heap.size ≤ U1.heap.size := ht.size
  replace B := B.touch ht (by omega)
  replace hr0 := hr0.touch ht (by omega)
  replace hr2 := hr2.touch ht (by omega)
  replace hr1 := hr1.again om
  have HT1 := Lib.hid ht
  clear om hg ht
  have c2 := B.cell 2 _ rfl
  go_wp2_with fail
  refine (markFloat32S_any _ x2 (j + x0.length + x1.length) (by omega) (by omega) lo2 _ hr2.own (by omega) (by omega)).mono ?_
  rintro e U2 ⟨rfl, om, hg⟩
  have ht := Touch.of_grown hg hr2.lt
  have hz2 : U1.heap.size ≤ U2.heap.size := ht.size
  replace B := B.touch ht (by omega)
  replace hr0 := hr0.touch ht (by omega)
  replace hr1 := hr1.touch ht (by omega)
  replace hr2 := hr2.again om
  have HT2 := Lib.hid ht
  clear om hg ht
  go_wp2
  go_ret
  exact ⟨W0, U0, U1, rfl, HB0.out, HT0.out, HT1.out, HT2.out, hr0, hr1, hr2⟩
theorem heldMixture_any (s0 : Value) (n0 : Nat) (s1 : Value) (n1 : Nat) (s2 : Value) (n2 : Nat) (j : Int) (hj0 : 0 ≤ j) (hj : j ≤ 109951162777) (w : World) (hr0 : Rd fV w s0 (marksFloat32S (j) n0)) (hr1 : Rd fV w s1 (marksFloat32S (j + n0) n1)) (hr2 : Rd fV w s2 (marksFloat32S (j + n0 + n1) n2)) (hn0 : n0 ≤ 109951162777) (hn1 : n1 ≤ 109951162777) (hn2 : n2 ≤ 109951162777) :
    Calls Try.prog 14 #[mxV s0 s1 s2, .int .i64 j] w fun e w' => e = .returned (.int .i64 (j + n0 + n1 + n2)) ∧ Below w.heap.size w w' := by
  have HR0 := Lib.hid hr0
  obtain ⟨A0, cap0, rfl, hcap0, hA0⟩ := hr0
  clear hA0
  have HR1 := Lib.hid hr1
  obtain ⟨A1, cap1, rfl, hcap1, hA1⟩ := hr1
  clear hA1
  have HR2 := Lib.hid hr2
  obtain ⟨A2, cap2, rfl, hcap2, hA2⟩ := hr2
  clear hA2
  go_enter Try.func14, Try.ntmps14
  go_wp2_with fail
  refine (heldFloat32S_any _ n0 (j) (by omega) (by omega) _ (HR0.out.below (below_alloc _ _)) (by omega)).mono ?_
  rintro e U0 ⟨rfl, rfl⟩
  go_wp2_with fail
  refine (heldFloat32S_any _ n1 (j + n0) (by omega) (by omega) _ (HR1.out.below (below_alloc _ _)) (by omega)).mono ?_
  rintro e U1 ⟨rfl, rfl⟩
  go_wp2_with fail
  refine (heldFloat32S_any _ n2 (j + n0 + n1) (by omega) (by omega) _ (HR2.out.below (below_alloc _ _)) (by omega)).mono ?_
  rintro e U2 ⟨rfl, rfl⟩
  go_wp2
  go_ret
  exact ⟨rfl, below_alloc _ _⟩
end

section
open Go.RowKit
attribute [local go_sem] run_fl_add run_fl_sub run_fl_mul run_fl_quo

def mixB (v m s : List Nat) : Bool := decide (1 ≤ v.length ∧ v.length ≤ 8) && decide (m.length = v.length) && decide (s.length = v.length) && m.all finB && (v.all leastB && nearA (sumF (absL v))) && s.all aboveB
theorem mixB_f1 {v m s : List Nat} (h : ¬ (1 ≤ v.length ∧ v.length ≤ 8)) : mixB v m s = false := by unfold mixB; rw [decide_eq_false h]; rfl
theorem mixB_f2 {v m s : List Nat} (h : ¬ m.length = v.length) : mixB v m s = false := by unfold mixB; rw [decide_eq_false h]; simp
theorem mixB_f3 {v m s : List Nat} (h : ¬ s.length = v.length) : mixB v m s = false := by unfold mixB; rw [decide_eq_false h]; simp
theorem mixB_f4 {v m s : List Nat} (h : m.all finB = false) : mixB v m s = false := by unfold mixB; rw [h]; simp
theorem mixB_f5 {v m s : List Nat} (h : v.all leastB = false) : mixB v m s = false := by unfold mixB; rw [h]; simp
theorem mixB_f6 {v m s : List Nat} (h : s.all aboveB = false) : mixB v m s = false := by unfold mixB; rw [h]; simp
theorem mixB_t {v m s : List Nat} (h1 : 1 ≤ v.length ∧ v.length ≤ 8) (h2 : m.length = v.length) (h3 : s.length = v.length) (h4 : m.all finB = true) : mixB v m s = ((v.all leastB && nearA (sumF (absL v))) && s.all aboveB) := by
  unfold mixB
  rw [decide_eq_true h1, decide_eq_true h2, decide_eq_true h3, h4]; rfl
theorem mixB_len {v m s : List Nat} (h : mixB v m s = true) : (1 ≤ v.length ∧ v.length ≤ 8) ∧ m.length = v.length ∧ s.length = v.length := by
  unfold mixB at h
  simp only [Bool.and_eq_true, decide_eq_true_eq] at h
  exact ⟨h.1.1.1.1.1, h.1.1.1.1.2, h.1.1.1.2⟩

set_option maxHeartbeats 3200000 in
theorem l05Mixture_any (a : Nat) (s0 s1 s2 : Value) (x0 x1 x2 : List Nat) (hn0 : x0.length ≤ 1099511627776) (hn1 : x1.length ≤ 1099511627776) (_hn2 : x2.length ≤ 1099511627776) (w : World) (ha : BoxAt w a [s0, s1, s2]) (hr0 : Rd fV w s0 x0) (hr1 : Rd fV w s1 x1) (hr2 : Rd fV w s2 x2) :
    Calls Try.prog 23 #[.pointer (some ⟨a, 0, none⟩)] w fun e w' => e = .returned (.bool (mixB x0 x1 x2)) ∧ Below w.heap.size w w' := by
  have HR0 := Lib.hid hr0
  obtain ⟨A0, cap0, rfl, hcap0, hA0⟩ := hr0
  have HA0 := Lib.hid hA0
  clear hA0
  have HR1 := Lib.hid hr1
  obtain ⟨A1, cap1, rfl, hcap1, hA1⟩ := hr1
  have HA1 := Lib.hid hA1
  clear hA1
  have HR2 := Lib.hid hr2
  obtain ⟨A2, cap2, rfl, hcap2, hA2⟩ := hr2
  have HA2 := Lib.hid hA2
  clear hA2
  have c0 := ha.cell 0 _ rfl
  have c1 := ha.cell 1 _ rfl
  have c2 := ha.cell 2 _ rfl
  by_cases h1 : 1 ≤ x0.length
  · by_cases h2 : x0.length ≤ 8
    · by_cases h3 : x1.length = x0.length
      · by_cases h4 : x2.length = x0.length
        · have H3 := Lib.hid h3
          have H4 := Lib.hid h4
          have HN1 := Lib.hid hn1
          rw [h3] at c1 hcap1
          rw [h4] at c2 hcap2
          rw [h3, h4] at ha
          have HR1' : Hid (Rd fV w (.slice A1 x0.length cap1) x1) := by have := HR1.out; rw [h3] at this; exact this
          clear h3 h4 hn1 _hn2 HR1
          go_enter Try.func23, Try.ntmps23
          go_wp2_with fail
          refine (l02Finite_any _ x1 HN1.out _ HR1'.out).mono ?_
          rintro e w1 ⟨rfl, hd⟩
          have hT := below_of_drew hd
          clear hd
          have B := ha.below hT
          cases hf : x1.all finB
          · have Hf := Lib.hid hf
            clear hf
            go_wp2
            go_ret
            exact ⟨ret_bool (mixB_f4 Hf.out).symm, hT⟩
          · have HF := Lib.hid hf
            clear hf c0 c1 c2
            have c0 := B.cell 0 _ rfl
            have c1 := B.cell 1 _ rfl
            have c2 := B.cell 2 _ rfl
            go_wp2
            go_loopw [4, 48] (fun ss si wr => ∃ (k b : Nat), k ≤ x0.length ∧ si = .int .i64 k ∧ ss = fV b ∧ Hid (absF .f32 b = sumF (absL (x0.take k))) ∧ Hid ((x0.take k).all leastB = true) ∧ Hid ((x2.take k).all aboveB = true) ∧ Below w1.heap.size w1 wr) (fun _ si _ => x0.length - (intOf si).toNat)
            case atStart => exact ⟨0, 0, by omega, rfl, rfl, rfl, rfl, rfl, Below.refl _ _⟩
            case round =>
              obtain ⟨k, b, hk, rfl, rfl, hs, hle, hab, hb⟩ := hrel
              have B' := B.below hb
              have hb0 := hb
              replace hb := below_to hT hb hT.size
              clear c0 c1 c2
              have d0 := B'.cell 0 _ rfl
              have d1 := B'.cell 1 _ rfl
              have d2 := B'.cell 2 _ rfl
              by_cases hlt : k < x0.length
              · obtain ⟨x, hx⟩ := get_of_lt hlt
                obtain ⟨z, hz⟩ := get_of_lt (xs := x2) (k := k) (by rw [H4.out]; exact hlt)
                obtain ⟨ad, rfl, hbl, hcell⟩ := HA0.out k x hx
                obtain ⟨ad2, rfl, hbl2, hcell2⟩ := HA2.out k z hz
                have e0 : wr.cell? (ad.add k) = some (fV x) := by rw [hb.cell (by rw [add_block]; exact hbl)]; exact hcell
                have e2 : wr.cell? (ad2.add k) = some (fV z) := by rw [hb.cell (by rw [add_block]; exact hbl2)]; exact hcell2
                have HX := Lib.hid hx
                have HZ := Lib.hid hz
                clear hx hz hcell hcell2
                go_wp2_with fail
                refine (l02Least_any _ _).mono ?_
                rintro e w' ⟨rfl, n, rfl⟩
                cases hl : leastB x
                · have HL := Lib.hid hl
                  clear hl
                  go_wp2
                  go_ret
                  exact ⟨ret_bool (mixB_f5 (all_false_of HX.out HL.out)).symm, below_drewN_ hb⟩
                · have HL := Lib.hid hl
                  clear hl
                  go_wp2_with fail
                  refine (l02Above_any _ _).mono ?_
                  rintro e w' ⟨rfl, m, rfl⟩
                  cases hl : aboveB z
                  · have HL2 := Lib.hid hl
                    clear hl
                    go_wp2
                    go_ret
                    exact ⟨ret_bool (mixB_f6 (all_false_of HZ.out HL2.out)).symm, below_drewN_ hb⟩
                  · have HL2 := Lib.hid hl
                    clear hl
                    go_wp2
                    go_roundw
                    case rel => exact ⟨k + 1, _, by omega, by go_num, rfl, by unfold Hid; rw [absL_snoc HX.out, sumF_snoc, abs_flR .add rfl, hs.out], by unfold Hid; rw [take_snoc HX.out, List.all_append, hle.out]; simp [HL.out], by unfold Hid; rw [take_snoc HZ.out, List.all_append, hab.out]; simp [HL2.out], below_drewN_ hb0⟩
                    case measure => simp [intOf]; omega
              · have hke : k = x0.length := by omega
                have HK := Lib.hid hke
                clear hke
                have HT : Hid (mixB x0 x1 x2 = nearA (absF .f32 b)) := by
                  unfold Hid
                  have e2 := hab.out; have e3 := hle.out; have e4 := hs.out
                  rw [HK.out, List.take_length] at e3 e4
                  rw [HK.out, ← H4.out, List.take_length] at e2
                  rw [mixB_t ⟨h1, h2⟩ H3.out H4.out HF.out, e2, e3, e4]; simp
                obtain ⟨t1, r1⟩ := near_lt b 981668463 (by decide)
                obtain ⟨t2, r2⟩ := near_eq b 981668463 (by decide)
                obtain ⟨t3, r3⟩ := near_gt b 3129152111 (by decide)
                obtain ⟨t4, r4⟩ := near_eq b 3129152111 (by decide)
                have HN : Hid (nearA (absF .f32 b) = ((t1 || t2) && (t3 || t4))) := by
                  unfold Hid
                  rw [← near_bits (d := flR .sub .f32 b 1065353216 wr) rfl (abs_flR .sub rfl .f32 _ _ _)]
                  unfold leB geB ord32
                  rw [r1, r2, r3, r4]
                clear hs hab hle
                cases t1 <;> cases t2 <;> cases t3 <;> cases t4
                all_goals
                  go_wp2
                  go_ret
                  exact ⟨ret_bool (by rw [HT.out, HN.out]; rfl), by first | exact hb | exact below_drewN_ hb⟩
        · have H4 := Lib.hid h4
          have h4' : ((x2.length : Int) != (x0.length : Int)) = true := by simp; omega
          rw [h3] at c1
          clear h4
          go_enter Try.func23, Try.ntmps23
          go_wp2
          go_ret
          exact ⟨ret_bool (mixB_f3 H4.out).symm, Below.refl _ _⟩
      · have H3 := Lib.hid h3
        have h3' : ((x1.length : Int) != (x0.length : Int)) = true := by simp; omega
        clear h3
        go_enter Try.func23, Try.ntmps23
        go_wp2
        go_ret
        exact ⟨ret_bool (mixB_f2 H3.out).symm, Below.refl _ _⟩
    · go_enter Try.func23, Try.ntmps23
      go_wp2
      go_ret
      exact ⟨ret_bool (mixB_f1 (by omega)).symm, Below.refl _ _⟩
  · go_enter Try.func23, Try.ntmps23
    go_wp2
    go_ret
    exact ⟨ret_bool (mixB_f1 (by omega)).symm, Below.refl _ _⟩

set_option maxHeartbeats 1600000 in
theorem implValidMixture_any (s0 : Value) (x0 : List Nat) (s1 : Value) (x1 : List Nat) (s2 : Value) (x2 : List Nat) (hn0 : x0.length ≤ 1099511627776) (hn1 : x1.length ≤ 1099511627776) (hn2 : x2.length ≤ 1099511627776) (w : World) (hr0 : Rd fV w s0 x0) (hr1 : Rd fV w s1 x1) (hr2 : Rd fV w s2 x2) :
    Calls Try.prog 19 #[mxV s0 s1 s2] w fun e w' => e = .returned (.bool (mixB x0 x1 x2)) ∧ Below w.heap.size w w' := by
  have HR0 := Lib.hid hr0
  obtain ⟨A0, cap0, rfl, hcap0, hA0⟩ := hr0
  have HA0 := Lib.hid hA0
  clear hA0
  have HR1 := Lib.hid hr1
  obtain ⟨A1, cap1, rfl, hcap1, hA1⟩ := hr1
  have HA1 := Lib.hid hA1
  clear hA1
  have HR2 := Lib.hid hr2
  obtain ⟨A2, cap2, rfl, hcap2, hA2⟩ := hr2
  have HA2 := Lib.hid hA2
  clear hA2
  have hb0 := below_alloc w (.cells ([.slice A0 x0.length cap0, .slice A1 x1.length cap1, .slice A2 x2.length cap2] : List Value).toArray 26)
  by_cases h1 : 1 ≤ x0.length
  · by_cases h2 : x0.length ≤ 8
    · by_cases h3 : x1.length = x0.length
      · by_cases h4 : x2.length = x0.length
        · have H3 := Lib.hid h3
          have H4 := Lib.hid h4
          have HN1 := Lib.hid hn1
          have HN2 := Lib.hid hn2
          have HR1' : Hid (Rd fV w (.slice A1 x0.length cap1) x1) := by have := HR1.out; rw [h3] at this; exact this
          have HR2' : Hid (Rd fV w (.slice A2 x0.length cap2) x2) := by have := HR2.out; rw [h4] at this; exact this
          rw [h3] at hcap1
          rw [h4] at hcap2
          rw [h3, h4]
          clear h3 h4 hn1 hn2 HR1 HR2 hb0
          go_enter Try.func19, Try.ntmps19
          go_wp2_with fail
          have B := BoxAt.new w [.slice A0 x0.length cap0, .slice A1 x0.length cap1, .slice A2 x0.length cap2] 26
          have hT := below_alloc w (.cells ([.slice A0 x0.length cap0, .slice A1 x0.length cap1, .slice A2 x0.length cap2] : List Value).toArray 26)
          generalize hg : World.alloc w _ = W0 at *
          clear hg
          refine (areChances_any _ x0 hn0 _ (HR0.out.below hT)).mono ?_
          rintro e w1 ⟨rfl, hd⟩
          have hb := below_of_drew hd
          clear hd
          replace B := B.below hb
          replace hT := below_to hT hb hT.size
          clear hb
          cases hc : (x0.all leastB && nearA (sumF (absL x0)))
          · have HC := Lib.hid hc
            clear hc
            go_wp2
            go_ret
            exact ⟨ret_bool (by unfold mixB; rw [HC.out]; simp), hT⟩
          · have HC := Lib.hid hc
            clear hc
            have d0 := B.cell 0 _ rfl
            have d1 := B.cell 1 _ rfl
            have d2 := B.cell 2 _ rfl
            go_wp2_with fail
            refine (areFinite_any _ x1 HN1.out _ (HR1'.out.below hT)).mono ?_
            rintro e w2 ⟨rfl, hd⟩
            have hb := below_of_drew hd
            clear hd d0 d1 d2
            replace B := B.below hb
            replace hT := below_to hT hb hT.size
            clear hb
            cases hc : x1.all finB
            · have HC2 := Lib.hid hc
              clear hc
              go_wp2
              go_ret
              exact ⟨ret_bool (mixB_f4 HC2.out).symm, hT⟩
            · have HC2 := Lib.hid hc
              clear hc
              have d0 := B.cell 0 _ rfl
              have d1 := B.cell 1 _ rfl
              have d2 := B.cell 2 _ rfl
              go_wp2_with fail
              refine (arePositive_any _ x2 HN2.out _ (HR2'.out.below hT)).mono ?_
              rintro e w3 ⟨rfl, hd⟩
              have hb := below_of_drew hd
              clear hd d0 d1 d2
              replace B := B.below hb
              replace hT := below_to hT hb hT.size
              clear hb
              go_wp2
              go_ret
              exact ⟨ret_bool (by rw [mixB_t ⟨h1, h2⟩ H3.out H4.out HC2.out, HC.out]; simp), hT⟩
        · have H4 := Lib.hid h4
          have h4' : ((x2.length : Int) == (x0.length : Int)) = false := by simp; omega
          have HB0 := Lib.hid hb0
          rw [h3] at HB0 ⊢
          clear h4 hb0
          go_enter Try.func19, Try.ntmps19
          go_wp2
          go_ret
          exact ⟨ret_bool (mixB_f3 H4.out).symm, HB0.out⟩
      · have H3 := Lib.hid h3
        have h3' : ((x1.length : Int) == (x0.length : Int)) = false := by simp; omega
        clear h3
        go_enter Try.func19, Try.ntmps19
        go_wp2
        go_ret
        exact ⟨ret_bool (mixB_f2 H3.out).symm, hb0⟩
    · go_enter Try.func19, Try.ntmps19
      go_wp2
      go_ret
      exact ⟨ret_bool (mixB_f1 (by omega)).symm, hb0⟩
  · go_enter Try.func19, Try.ntmps19
    go_wp2
    go_ret
    exact ⟨ret_bool (mixB_f1 (by omega)).symm, hb0⟩
end

section
open Go.RowKit
/-- A bool as a cell. -/
abbrev bV (b : Bool) : Value := .bool b
/-- What markBoolS lays from j on. -/
def mkBoolS (n : Int) : Bool := n % 3 == 0
def marksBoolS (j : Int) (n : Nat) : List Bool := (List.range n).map fun (t : Nat) => mkBoolS (j + (t : Int))
def markRowBoolS (j : Int) (xs : List Bool) (k : Nat) : List Value := (List.range k).map (fun (t : Nat) => bV (mkBoolS (j + (t : Int)))) ++ (xs.drop k).map bV
theorem markRowBoolS_at (j : Int) {xs : List Bool} {k : Nat} {x : Bool} (h : xs[k]? = some x) : (markRowBoolS j xs k)[k]? = some (bV x) := by
  unfold markRowBoolS
  rw [List.getElem?_append_right (by simp)]
  simp [h]
theorem markRowBoolS_set (j : Int) {xs : List Bool} {k : Nat} (h : k < xs.length) : (markRowBoolS j xs k).set k (bV (mkBoolS (j + k))) = markRowBoolS j xs (k + 1) := by
  unfold markRowBoolS
  have hd : (xs.drop k).map bV = bV (xs[k]'h) :: (xs.drop (k + 1)).map bV := by rw [List.drop_eq_getElem_cons h, List.map_cons]
  rw [List.set_append_right _ _ (by simp), List.range_succ, List.map_append, hd, List.length_map, List.length_range, Nat.sub_self, List.set_cons_zero]
  simp only [List.map_cons, List.map_nil, List.append_assoc, List.cons_append, List.nil_append]
theorem markRowBoolS_end (j : Int) (xs : List Bool) : markRowBoolS j xs xs.length = (marksBoolS j xs.length).map bV := by
  unfold markRowBoolS marksBoolS
  simp
theorem marksBoolS_at {j : Int} {n k : Nat} {x : Bool} (h : (marksBoolS j n)[k]? = some x) : x = mkBoolS (j + k) := by
  unfold marksBoolS at h
  rw [List.getElem?_map] at h
  have hk : k < n := by
    rcases Nat.lt_or_ge k n with h1 | h1
    · exact h1
    · rw [List.getElem?_eq_none (by simpa using h1)] at h; cases h
  rw [List.getElem?_range hk] at h
  simpa using h.symm
theorem marksBoolS_len (j : Int) (n : Nat) : (marksBoolS j n).length = n := by simp [marksBoolS]

end

section
open Go.RowKit
attribute [local go_sem] run_fl_add run_fl_sub run_fl_mul run_fl_quo run_up_

def oneN : Option Nat := some 1065353216
theorem abs_one : absF .f32 1065353216 = oneN := by decide
def betStep (sh st : Option Nat) (s : Option Nat) (b : Bool) : Option Nat :=
  if b then opF .mul .f32 s (opF .add .f32 oneN (opF .mul .f32 st (opF .sub .f32 oneN sh))) else opF .mul .f32 s (opF .sub .f32 oneN (opF .mul .f32 st sh))
def betTo (sh st : Option Nat) (xs : List Bool) (k : Nat) : Option Nat := (xs.take k).foldl (betStep sh st) oneN
def betL (sh st : Option Nat) (xs : List Bool) (k : Nat) : List (Option Nat) := (List.range k).map fun i => betTo sh st xs (i + 1)
theorem betTo_succ (sh st : Option Nat) {xs : List Bool} {k : Nat} {x : Bool} (h : xs[k]? = some x) : betTo sh st xs (k + 1) = betStep sh st (betTo sh st xs k) x := by simp [betTo, take_snoc h]
theorem betL_succ (sh st : Option Nat) (xs : List Bool) (k : Nat) : betL sh st xs (k + 1) = betL sh st xs k ++ [betTo sh st xs (k + 1)] := by simp [betL, List.range_succ]
theorem betL_len (sh st : Option Nat) (xs : List Bool) (k : Nat) : (betL sh st xs k).length = k := by simp [betL]
def betOk1 (xs : List Bool) (sh st : Nat) : Bool := decide (1 ≤ xs.length ∧ xs.length ≤ 256) && partB sh && partB st
def betR (xs : List Bool) (sh st : Nat) : List (Option Nat) := betL (absF .f32 sh) (absF .f32 st) xs xs.length
def betOk (xs : List Bool) (sh st : Nat) : Bool := betOk1 xs sh st && (betR xs sh st).all finA
def RetBetWealth (xs : List Bool) (sh st : Nat) (w : World) (e : Ending) (w' : World) : Prop :=
  ∃ v y, e = .returned (.tuple #[v, .bool (betOk xs sh st)]) ∧ Own fV 39 w' w.heap.size v y ∧ y.length ≤ 1099511627776 ∧ absL y = (if betOk xs sh st = true then betR xs sh st else []) ∧ Below w.heap.size w w'
theorem all_fin (y : List Nat) : y.all finB = (absL y).all finA := by
  unfold absL
  rw [List.all_map]
  congr 1
  funext b
  exact fin_abs b
theorem betOk_f1 {xs : List Bool} {sh st : Nat} (h : betOk1 xs sh st = false) : betOk xs sh st = false := by unfold betOk; rw [h]; rfl
theorem betOk_t {xs : List Bool} {sh st : Nat} (h : betOk1 xs sh st = true) : betOk xs sh st = (betR xs sh st).all finA := by unfold betOk; rw [h]; rfl
theorem absL_append' (a b : List Nat) : absL (a ++ b) = absL a ++ absL b := by simp [absL]

theorem below_alloc' (w : World) (o : Obj) : Below w.heap.size w (w.alloc o) := (Below.refl _ _).alloc (Nat.le_refl _) o
theorem rd_twoB (w : World) (x y : Nat) (E : TypeId) : Rd fV (w.alloc (.cells #[fV x, fV y] E)) (.slice (some ⟨w.heap.size, 0, none⟩) 2 2) [x, y] :=
  ⟨_, 2, rfl, Nat.le_refl _, fun k z hk => by
    match k, hk with
    | 0, hk => simp at hk; subst hk; exact ⟨_, rfl, by simp, by simp [Addr.add]⟩
    | 1, hk => simp at hk; subst hk; exact ⟨_, rfl, by simp, by simp [Addr.add]⟩⟩

end

section
open Go.RowKit
attribute [local go_sem] run_fl_add run_fl_sub run_fl_mul run_fl_quo run_up_

/-! What is no NaN. -/
def NumA (o : Option Nat) : Prop := ∃ b, o = some b ∧ ((∃ s m p, FloatKind.f32.format.read b = .number s m p) ∨ ∃ s, FloatKind.f32.format.read b = .infinity s)
theorem numA_near (s : Bool) (m : Nat) (p : Int) : NumA (some (FloatKind.f32.encode (.number s m p))) := by
  refine ⟨_, rfl, ?_⟩
  obtain ⟨r, -, -, h⟩ := near_sign .f32 s m p
  rcases h with ⟨_, h⟩ | h
  · exact .inl ⟨_, _, _, h⟩
  · exact .inr ⟨_, h⟩
theorem numA_inf (s : Bool) : NumA (some (FloatKind.f32.encode (.infinity s))) := ⟨_, rfl, .inr ⟨s, by cases s <;> decide⟩⟩
theorem numA_nan {b : Nat} (h : NumA (some b)) : (FloatKind.f32.decode b).isNaN = false := by
  obtain ⟨b', e, h⟩ := h
  cases e
  show (FloatKind.f32.format.read b).isNaN = false
  rcases h with ⟨s, m, p, h⟩ | ⟨s, h⟩ <;> rw [h] <;> rfl
theorem above_num {x : Nat} (h : aboveB x = true) : ∃ m p, FloatKind.f32.format.read x = .number false m p ∧ m ≠ 0 := by
  unfold aboveB at h
  rw [Bool.and_eq_true, beq_iff_eq] at h
  obtain ⟨h1, h2⟩ := h
  obtain ⟨s, m, p, e⟩ := fin_num h1
  have v0 : vD (.number false 0 (-149)) = 0 := by simp only [vD, mg_zero, sg_zero]
  have ho : ord32 x 0 = (Ieee.Datum.number s m p).order (.number false 0 (-149)) := by
    show (FloatKind.f32.format.read x).order (FloatKind.f32.format.read 0) = _
    rw [e]; rfl
  rw [ho] at h2
  have hv := (order_cmp _ _ _ _ _ _).2.1.1 h2
  rw [v0] at hv
  have hm := mg_nn m p
  cases s
  · refine ⟨m, p, e, ?_⟩
    rintro rfl
    simp only [vD, mg_zero, sg_zero] at hv
    exact absurd hv Rat.lt_irrefl
  · exfalso
    simp only [vD, sg_t] at hv
    grind
theorem numA_sub {x m : Nat} (hx : finB x = true) (hm : finB m = true) : NumA (opF .sub .f32 (absF .f32 x) (absF .f32 m)) := by
  obtain ⟨s, a, i, ex⟩ := fin_num hx
  obtain ⟨t, b, j, em⟩ := fin_num hm
  rw [num_abs ex, num_abs em]
  have eo : opF .sub .f32 (some x) (some m) = ((FloatKind.f32.format.read x).sum (FloatKind.f32.format.read m).opposite).map FloatKind.f32.format.write := rfl
  rw [eo, ex, em]
  show NumA (((Ieee.Datum.number s a i).sum (.number (!t) b j)).map FloatKind.f32.format.write)
  obtain ⟨r, l, p, es, -⟩ := sum_val s a i (!t) b j
  rw [es]
  exact numA_near r l p
theorem numA_quo {o : Option Nat} {y : Nat} (h : NumA o) (hy : aboveB y = true) : NumA (opF .quo .f32 o (absF .f32 y)) := by
  obtain ⟨n, j, ey, hn⟩ := above_num hy
  rw [num_abs ey]
  obtain ⟨u, rfl, hu⟩ := h
  have eo : opF .quo .f32 (some u) (some y) = ((FloatKind.f32.format.read u).quotient (FloatKind.f32.format.fractionBits + 2) (FloatKind.f32.format.read y)).map FloatKind.f32.format.write := rfl
  rw [eo, ey]
  rcases hu with ⟨s, m, i, eu⟩ | ⟨s, eu⟩ <;> rw [eu]
  · obtain ⟨l, p, es, -, -⟩ := quotient_val (FloatKind.f32.format.fractionBits + 2) (by decide) s m i false n j hn
    rw [es]
    exact numA_near _ l p
  · exact numA_inf _

/-! A part of a mixture. -/
def dU (x m s : Nat) : Option Nat := opF .quo .f32 (opF .sub .f32 (absF .f32 x) (absF .f32 m)) (absF .f32 s)
def dQ (u : Option Nat) : Option Nat := opF .mul .f32 (opF .mul .f32 (some 3204448256) u) u
def dPart (wt m s x : Nat) : Option Nat := opF .quo .f32 (opF .mul .f32 (absF .f32 wt) (exp32 (dQ (dU x m s)))) (opF .mul .f32 (some 1075866777) (absF .f32 s))
theorem mhalf32 : FloatKind.f32.format.read 3204448256 = .number true (2 ^ 23) (-24) := by decide
theorem mhalf32_le : mg (2 ^ 23) (-24) ≤ 1 := by
  rw [mg_pow, ← p2_zero]
  exact p2_mono (by omega)
theorem dQ_neg {x m s : Nat} (hx : finB x = true) (hm : finB m = true) (hs : aboveB s = true) : NegS .f32 (dQ (dU x m s)) := by
  have h := numA_quo (numA_sub hx hm) hs
  obtain ⟨u, e, h'⟩ := h
  unfold dU
  rw [e]
  exact negS_sq mhalf32 (by decide) mhalf32_le (numA_nan ⟨u, rfl, h'⟩)
def dAt (x0 x1 x2 : List Nat) (x k : Nat) : Option Nat := dPart (x0.getD k 0) (x1.getD k 0) (x2.getD k 0) x
def dList (x0 x1 x2 : List Nat) (x k : Nat) : List (Option Nat) := (List.range k).map (dAt x0 x1 x2 x)
theorem dList_succ (x0 x1 x2 : List Nat) (x k : Nat) : dList x0 x1 x2 x (k + 1) = dList x0 x1 x2 x k ++ [dAt x0 x1 x2 x k] := by simp [dList, List.range_succ]
theorem dList_len (x0 x1 x2 : List Nat) (x k : Nat) : (dList x0 x1 x2 x k).length = k := by simp [dList]
/-- The numbers of a mixture's parts. -/
def DenseOk (x0 x1 x2 : List Nat) (x : Nat) : Prop := x1.length = x0.length ∧ x2.length = x0.length ∧ ∀ (k m s : Nat), x1[k]? = some m → x2[k]? = some s → NegS .f32 (dQ (dU x m s))
theorem denseOk_of {x0 x1 x2 : List Nat} {x : Nat} (h : mixB x0 x1 x2 = true) (hx : finB x = true) : DenseOk x0 x1 x2 x := by
  have hl := mixB_len h
  unfold mixB at h
  simp only [Bool.and_eq_true] at h
  refine ⟨hl.2.1, hl.2.2, fun k m s hm hs => dQ_neg hx ?_ ?_⟩
  · exact List.all_eq_true.1 h.1.1.2 m (List.mem_of_getElem? hm)
  · exact List.all_eq_true.1 h.2 s (List.mem_of_getElem? hs)
theorem dAt_of {x0 x1 x2 : List Nat} {x k a m s : Nat} (h0 : x0[k]? = some a) (h1 : x1[k]? = some m) (h2 : x2[k]? = some s) : dAt x0 x1 x2 x k = dPart a m s x := by
  unfold dAt
  rw [getD_of h0, getD_of h1, getD_of h2]
theorem lit_mhalf : absF .f32 3204448256 = some 3204448256 := absF_of (by decide)
theorem lit_root : absF .f32 1075866777 = some 1075866777 := absF_of (by decide)
theorem dQ_abs {u : Nat} {U : Option Nat} {W1 W2 : World} (h : absF .f32 u = U) : absF .f32 (flR .mul .f32 (flR .mul .f32 3204448256 u W1) u W2) = dQ U := by
  rw [abs_flR .mul rfl, abs_flR .mul rfl, h, lit_mhalf]
  rfl

set_option maxHeartbeats 3200000 in
theorem densities_any (s0 : Value) (x0 : List Nat) (s1 : Value) (x1 : List Nat) (s2 : Value) (x2 : List Nat) (hn0 : x0.length ≤ 65536) (x : Nat) (hd : DenseOk x0 x1 x2 x) (w : World) (hr0 : Rd fV w s0 x0) (hr1 : Rd fV w s1 x1) (hr2 : Rd fV w s2 x2) :
    Calls Try.prog 39 #[mxV s0 s1 s2, fV x] w fun e w' => ∃ v ys, e = .returned v ∧ Own fV 39 w' w.heap.size v ys ∧ ys.length = x0.length ∧ absL ys = dList x0 x1 x2 x x0.length ∧ Below w.heap.size w w' := by
  have HR0 := Lib.hid hr0
  obtain ⟨A0, cap0, rfl, hcap0, hA0⟩ := hr0
  have HA0 := Lib.hid hA0
  clear hA0
  have HR1 := Lib.hid hr1
  obtain ⟨A1, cap1, rfl, hcap1, hA1⟩ := hr1
  have HA1 := Lib.hid hA1
  clear hA1
  have HR2 := Lib.hid hr2
  obtain ⟨A2, cap2, rfl, hcap2, hA2⟩ := hr2
  have HA2 := Lib.hid hA2
  clear hA2
  obtain ⟨hl1, hl2, hneg⟩ := hd
  rw [hl1] at hcap1
  rw [hl2] at hcap2
  rw [hl1, hl2]
  have HL1 := Lib.hid hl1
  have HL2 := Lib.hid hl2
  have HN := Lib.hid hneg
  clear hl1 hl2 hneg
  go_enter Try.func39, Try.ntmps39
  have B0 : BoxAt (w.alloc (.cells ([.slice A0 x0.length cap0, .slice A1 x0.length cap1, .slice A2 x0.length cap2] : List Value).toArray 26)) w.heap.size [.slice A0 x0.length cap0, .slice A1 x0.length cap1, .slice A2 x0.length cap2] := BoxAt.new w _ _
  have hT0 := below_alloc w (.cells ([.slice A0 x0.length cap0, .slice A1 x0.length cap1, .slice A2 x0.length cap2] : List Value).toArray 26)
  have hz0 : (w.alloc (.cells ([.slice A0 x0.length cap0, .slice A1 x0.length cap1, .slice A2 x0.length cap2] : List Value).toArray 26)).heap.size = w.heap.size + 1 := size_alloc _ _
  have B1 := B0.alloc (.cells #[] 39)
  have c0 := B1.cell 0 _ rfl
  have c1 := B1.cell 1 _ rfl
  have c2 := B1.cell 2 _ rfl
  go_wp2
  go_loopw [5, 14] (fun so si wr => ∃ (k : Nat) (ys : List Nat), k ≤ x0.length ∧ si = .int .i64 k ∧ Own fV 39 wr (w.heap.size + 1) so ys ∧ ys.length = k ∧ Hid (absL ys = dList x0 x1 x2 x k) ∧ Below (w.heap.size + 1) (w.alloc (.cells ([.slice A0 x0.length cap0, .slice A1 x0.length cap1, .slice A2 x0.length cap2] : List Value).toArray 26)) wr) (fun _ si _ => x0.length - (intOf si).toNat)
  case atStart => exact ⟨0, [], by omega, rfl, by have := own_nil_new fV (w.alloc (.cells ([.slice A0 x0.length cap0, .slice A1 x0.length cap1, .slice A2 x0.length cap2] : List Value).toArray 26)) 39; rw [hz0] at this; exact this, rfl, rfl, by rw [← hz0]; exact below_alloc _ _⟩
  case round =>
    obtain ⟨k, ys, hk, rfl, hown, hyl, hy, hb⟩ := hrel
    have hb' := hb
    rw [← hz0] at hb'
    have B := B0.below hb'
    have hT : Below w.heap.size w wr := below_to hT0 hb' (by omega)
    have hz := hb.size
    clear c0 c1 c2 hb'
    have d0 := B.cell 0 _ rfl
    have d1 := B.cell 1 _ rfl
    have d2 := B.cell 2 _ rfl
    by_cases hlt : k < x0.length
    · obtain ⟨a, ha⟩ := get_of_lt hlt
      obtain ⟨m, hm⟩ := get_of_lt (xs := x1) (k := k) (by rw [HL1.out]; exact hlt)
      obtain ⟨s, hs⟩ := get_of_lt (xs := x2) (k := k) (by rw [HL2.out]; exact hlt)
      obtain ⟨ad0, rfl, hbl0, hcell0⟩ := HA0.out k a ha
      obtain ⟨ad1, rfl, hbl1, hcell1⟩ := HA1.out k m hm
      obtain ⟨ad2, rfl, hbl2, hcell2⟩ := HA2.out k s hs
      have e0 : wr.cell? (ad0.add k) = some (fV a) := by rw [hT.cell (by rw [add_block]; exact hbl0)]; exact hcell0
      have e1 : wr.cell? (ad1.add k) = some (fV m) := by rw [hT.cell (by rw [add_block]; exact hbl1)]; exact hcell1
      have e2 : wr.cell? (ad2.add k) = some (fV s) := by rw [hT.cell (by rw [add_block]; exact hbl2)]; exact hcell2
      have HD := Lib.hid (dAt_of (x := x) ha hm hs)
      have HG := Lib.hid (HN.out k m s hm hs)
      have hk0 : (0 : Int) ≤ (k : Int) := by omega
      have hk1 : (k : Int) < (x0.length : Int) := by omega
      clear ha hm hs hcell0 hcell1 hcell2
      go_wp2
      refine wp_region_fq 14 (fun _ _ _ => True) (by kernel_rfl) (by kernel_rfl) ?_
      simp only [List.take, List.drop]
      repeat (first | (refine wpFq_one (by rfl) ?_; go_big_quiet_step (fail); refine wpQuiet_nil ?_) | (refine wpFq_nilc (by rfl) _ rfl _ (by rfl) ?_; simp only [Act.put, List.setIfInBounds_toArray, List.set_cons_zero, List.set_cons_succ]) | (refine wpFq_fl (by rfl) _ _ _ _ _ rfl (by rfl) _ _ _ (by rfl) (by rfl) ?_; intro fb hfb; simp only [Act.put, List.setIfInBounds_toArray, List.set_cons_zero, List.set_cons_succ]) | (refine wpFq_up (by rfl) _ _ _ rfl (by kernel_rfl) (by kernel_rfl) _ (by rfl) ?_; intro fb hfb; simp only [Act.put, List.setIfInBounds_toArray, List.set_cons_zero, List.set_cons_succ]))
      refine wpFq_nil ?_
      intro nq
      have HU := Lib.hid (show absF .f32 fb = dU x m s by rw [hfb, ‹absF .f32 _ = opF .sub .f32 (absF .f32 x) (absF .f32 m)›]; rfl)
      go_wp2_with fail
      refine (expNumber_any _ (by rw [dQ_abs HU.out]; exact HG.out) _).mono ?_
      rintro e w2 ⟨eb, rfl, he, ne, rfl⟩
      have HE := Lib.hid (he.trans (congrArg exp32 (dQ_abs HU.out)))
      clear he
      go_wp2_with (at_builtin; go_loud (refine elF_.app (fun _ => rfl) _ rfl _ _ rfl (w.heap.size + 1) _ ys rfl (Own.alloc (Own.drewN hown _) _) _ _ rfl (rd_one fV _ _ _) (by omega) (by simp; omega) (by simp; omega) ?_))
      intro v' w' ho hg hbb hp
      go_wp2
      go_roundw
      case rel => exact ⟨k + 1, _, by omega, by go_num, ho, by simp [hyl], by (unfold Hid; rw [dList_succ, absL_append', hy.out, HD.out]; simp only [absL, List.map_cons, List.map_nil, abs_flR .quo rfl, abs_flR .mul rfl, HE.out, lit_root]; rfl), ((below_drewN' _ hb).alloc (by simpa using hz) _).trans hbb⟩
      case measure => simp [intOf]; omega
    · have hke : k = x0.length := by omega
      have HK := Lib.hid hke
      clear hke
      go_wp2
      go_ret
      exact ⟨_, ys, rfl, hown.base_ (by omega), by rw [hyl, HK.out], by rw [hy.out, HK.out], hT⟩

set_option maxHeartbeats 3200000 in
theorem l05Dense_any (b : Nat) (s0 s1 s2 : Value) (x0 x1 x2 : List Nat) (x : Nat) (hd : DenseOk x0 x1 x2 x) (k : Nat) (hk : k < x0.length) (_hn : x0.length ≤ 65536) (w : World) (ha : BoxAt w b [s0, s1, s2]) (hr0 : Rd fV w s0 x0) (hr1 : Rd fV w s1 x1) (hr2 : Rd fV w s2 x2) :
    Calls Try.prog 28 #[.pointer (some ⟨b, 0, none⟩), .int .i64 k, fV x] w fun e w' => ∃ r, e = .returned (fV r) ∧ absF .f32 r = dAt x0 x1 x2 x k ∧ ∃ n, w.drewN n = w' := by
  have HR0 := Lib.hid hr0
  obtain ⟨A0, cap0, rfl, hcap0, hA0⟩ := hr0
  have HA0 := Lib.hid hA0
  clear hA0
  have HR1 := Lib.hid hr1
  obtain ⟨A1, cap1, rfl, hcap1, hA1⟩ := hr1
  have HA1 := Lib.hid hA1
  clear hA1
  have HR2 := Lib.hid hr2
  obtain ⟨A2, cap2, rfl, hcap2, hA2⟩ := hr2
  have HA2 := Lib.hid hA2
  clear hA2
  obtain ⟨hl1, hl2, hneg⟩ := hd
  rw [hl1] at hcap1
  rw [hl2] at hcap2
  rw [hl1, hl2] at ha
  have c0 := ha.cell 0 _ rfl
  have c1 := ha.cell 1 _ rfl
  have c2 := ha.cell 2 _ rfl
  obtain ⟨a, hxa⟩ := get_of_lt hk
  obtain ⟨m, hm⟩ := get_of_lt (xs := x1) (k := k) (by rw [hl1]; exact hk)
  obtain ⟨s, hs⟩ := get_of_lt (xs := x2) (k := k) (by rw [hl2]; exact hk)
  obtain ⟨ad0, rfl, hbl0, e0⟩ := HA0.out k a hxa
  obtain ⟨ad1, rfl, hbl1, e1⟩ := HA1.out k m hm
  obtain ⟨ad2, rfl, hbl2, e2⟩ := HA2.out k s hs
  have HD := Lib.hid (dAt_of (x := x) hxa hm hs)
  have HG := Lib.hid (hneg k m s hm hs)
  have hk0 : (0 : Int) ≤ (k : Int) := by omega
  have hk1 : (k : Int) < (x0.length : Int) := by omega
  clear hxa hm hs hl1 hl2 hneg
  go_enter Try.func28, Try.ntmps28
  go_wp2
  refine wp_region_fq 18 (fun _ _ _ => True) (by kernel_rfl) (by kernel_rfl) ?_
  simp only [List.take, List.drop]
  repeat (first | (refine wpFq_one (by rfl) ?_; go_big_quiet_step (fail); refine wpQuiet_nil ?_) | (refine wpFq_nilc (by rfl) _ rfl _ (by rfl) ?_; simp only [Act.put, List.setIfInBounds_toArray, List.set_cons_zero, List.set_cons_succ]) | (refine wpFq_fl (by rfl) _ _ _ _ _ rfl (by rfl) _ _ _ (by rfl) (by rfl) ?_; intro fb hfb; simp only [Act.put, List.setIfInBounds_toArray, List.set_cons_zero, List.set_cons_succ]) | (refine wpFq_up (by rfl) _ _ _ rfl (by kernel_rfl) (by kernel_rfl) _ (by rfl) ?_; intro fb hfb; simp only [Act.put, List.setIfInBounds_toArray, List.set_cons_zero, List.set_cons_succ]))
  refine wpFq_nil ?_
  intro nq
  have HU := Lib.hid (show absF .f32 fb = dU x m s by rw [hfb, ‹absF .f32 _ = opF .sub .f32 (absF .f32 x) (absF .f32 m)›]; rfl)
  go_wp2_with fail
  refine (l01Exp_any _ (by rw [dQ_abs HU.out]; exact HG.out) _).mono ?_
  rintro e w2 ⟨eb, rfl, he, ne, rfl⟩
  have HE := Lib.hid (he.trans (congrArg exp32 (dQ_abs HU.out)))
  clear he
  go_wp2
  refine wp_region_fq 19 (fun _ _ _ => True) (by kernel_rfl) (by kernel_rfl) ?_
  simp only [List.take, List.drop]
  repeat (first | (refine wpFq_one (by rfl) ?_; go_big_quiet_step (fail); refine wpQuiet_nil ?_) | (refine wpFq_nilc (by rfl) _ rfl _ (by rfl) ?_; simp only [Act.put, List.setIfInBounds_toArray, List.set_cons_zero, List.set_cons_succ]) | (refine wpFq_fl (by rfl) _ _ _ _ _ rfl (by rfl) _ _ _ (by rfl) (by rfl) ?_; intro fb hfb; simp only [Act.put, List.setIfInBounds_toArray, List.set_cons_zero, List.set_cons_succ]) | (refine wpFq_up (by rfl) _ _ _ rfl (by kernel_rfl) (by kernel_rfl) _ (by rfl) ?_; intro fb hfb; simp only [Act.put, List.setIfInBounds_toArray, List.set_cons_zero, List.set_cons_succ]))
  refine wpFq_nil ?_
  intro nq
  have g1 := ‹absF .f32 _ = opF .mul .f32 (absF .f32 a) (absF .f32 eb)›
  have g2 := ‹absF .f32 _ = opF .mul .f32 (absF .f32 1075866777) (absF .f32 s)›
  have HV := Lib.hid (show absF .f32 fb = dAt x0 x1 x2 x k by rw [hfb, g1, g2, HE.out, lit_root, HD.out]; rfl)
  go_wp2
  go_ret
  exact ⟨_, rfl, HV.out, _, by rw [World.drewN_drewN]⟩

set_option maxHeartbeats 1600000 in
theorem l05At_any (b : Nat) (s0 s1 s2 : Value) (x0 x1 x2 : List Nat) (x : Nat) (hd : DenseOk x0 x1 x2 x) (hn : x0.length ≤ 65536) (w : World) (ha : BoxAt w b [s0, s1, s2]) (hr0 : Rd fV w s0 x0) (hr1 : Rd fV w s1 x1) (hr2 : Rd fV w s2 x2) :
    Calls Try.prog 26 #[.pointer (some ⟨b, 0, none⟩), fV x] w fun e w' => ∃ r, e = .returned (fV r) ∧ absF .f32 r = sumF (dList x0 x1 x2 x x0.length) ∧ Below w.heap.size w w' := by
  have HR0 := Lib.hid hr0
  have HR1 := Lib.hid hr1
  have HR2 := Lib.hid hr2
  have HD := Lib.hid hd
  obtain ⟨A0, cap0, rfl, hcap0, hA0⟩ := hr0
  have c0 := ha.cell 0 _ rfl
  have c1 := ha.cell 1 _ rfl
  have c2 := ha.cell 2 _ rfl
  clear hA0 hr1 hr2 hd
  go_enter Try.func26, Try.ntmps26
  go_wp2
  go_loopw [5, 12] (fun ss si wr => ∃ (k r : Nat), k ≤ x0.length ∧ si = .int .i64 k ∧ ss = fV r ∧ Hid (absF .f32 r = sumF (dList x0 x1 x2 x k)) ∧ Below w.heap.size w wr) (fun _ si _ => x0.length - (intOf si).toNat)
  case atStart => exact ⟨0, 0, by omega, rfl, rfl, abs_zero, Below.refl _ _⟩
  case round =>
    obtain ⟨k, r, hk, rfl, rfl, hs, hb⟩ := hrel
    have B := ha.below hb
    by_cases hlt : k < x0.length
    · go_wp2_with fail
      refine (l05Dense_any b _ s1 s2 x0 x1 x2 x HD.out k hlt hn _ B (HR0.out.below hb) (HR1.out.below hb) (HR2.out.below hb)).mono ?_
      rintro e w2 ⟨d, rfl, hdd, n, rfl⟩
      have HV := Lib.hid hdd
      clear hdd
      go_wp2
      go_roundw
      case rel => exact ⟨k + 1, _, by omega, by go_num, rfl, by unfold Hid; rw [dList_succ, sumF_snoc, abs_flR .add rfl, hs.out, HV.out], below_drewN_ hb⟩
      case measure => simp [intOf]; omega
    · have hke : k = x0.length := by omega
      have HK := Lib.hid hke
      clear hke
      go_wp2
      go_ret
      exact ⟨r, rfl, by rw [hs.out, HK.out], hb⟩
end

section
open Go.RowKit

theorem run_nil_sliceC (A : Option Addr) (n c : Nat) (w : World) : (binOp .eql 22 (.slice A n c) (.slice none 0 0)).run Try.prog w = .ok (.bool A.isNone) w := by cases A <;> kernel_rfl
set_option maxRecDepth 100000 in
theorem clone_anyC (v : Value) (xs : List Nat) (hn : xs.length ≤ 65536) (w : World) (hr : Rd fV w v xs) :
    Calls Try.prog 32 #[v] w fun e w' => ∃ v', e = .returned v' ∧ Own fV 39 w' w.heap.size v' xs ∧ Below w.heap.size w w' := by
  have HR := Lib.hid hr
  obtain ⟨A, cap, rfl, hcap, hA⟩ := hr
  cases A with
  | none =>
    have hx : xs = [] := by
      cases xs with
      | nil => rfl
      | cons x t => obtain ⟨ad, e, _⟩ := hA 0 x rfl; cases e
    subst hx
    clear hA
    have hnil := run_nil_sliceC none 0 cap
    go_enter Try.func32, Try.ntmps32
    go_wp2
    go_ret
    exact ⟨_, rfl, Own.nil, Below.refl _ _⟩
  | some ad =>
    clear hA
    go_enter Try.func32, Try.ntmps32
    have hrd : Rd fV (w.alloc (.cells #[] 39)) (.slice (some ad) xs.length cap) xs := HR.out.below (below_alloc _ _)
    have HRD := Lib.hid hrd
    clear hrd
    have hnil := run_nil_sliceC (some ad) xs.length cap
    go_wp2_with (at_builtin; go_loud (refine elF_.app (fun _ => rfl) _ rfl _ _ rfl w.heap.size _ [] rfl (own_nil_new fV w 39) _ xs rfl HRD.out (by omega) (by simp; omega) (by simp) ?_))
    intro v' w' ho hg hbb hp
    go_wp2
    go_ret
    exact ⟨_, rfl, ho, (below_alloc w _).trans hbb⟩
theorem Rd.drop {α : Type} {f : α → Value} {w : World} {ad : Addr} {n cap : Nat} {xs : List α} (h : Rd f w (.slice (some ad) n cap) xs) {k : Nat} (hk : k ≤ xs.length) : Rd f w (.slice (some (ad.add k)) (xs.length - k) (cap - k)) (xs.drop k) := by
  obtain ⟨A, c, e, hc, hA⟩ := h
  cases e
  refine ⟨some (ad.add k), cap - k, by rw [List.length_drop], by rw [List.length_drop]; omega, fun i x hx => ?_⟩
  rw [List.getElem?_drop] at hx
  obtain ⟨ad', e, h1, h2⟩ := hA (k + i) x hx
  cases e
  refine ⟨_, rfl, by rw [add_block]; exact h1, ?_⟩
  rw [show (ad.add k).add i = ad.add (k + i) from Addr.add_add _ _ _]
  exact h2

/-- What 's[k:]' reads. -/
theorem Rd.cut {α : Type} {f : α → Value} {w : World} {ad : Addr} {n cap : Nat} {xs : List α} (h : Rd f w (.slice (some ad) n cap) xs) {k : Nat} (hk : k ≤ xs.length) : Rd f w (.slice (if cap = k then some ad else some (ad.add k)) (n - k) (cap - k)) (xs.drop k) := by
  have h' := h
  obtain ⟨A, c, e, hc, hA⟩ := h'
  cases e
  by_cases hck : cap = k
  · rw [if_pos hck]
    exact ⟨some ad, cap - k, by rw [List.length_drop], by rw [List.length_drop]; omega, fun i y hy => by rw [List.drop_eq_nil_of_le (by omega)] at hy; cases hy⟩
  · rw [if_neg hck]
    exact h.drop hk

/-- How many at the head are not above x. -/
def cutK (x : Nat) : List Nat → Nat
  | [] => 0
  | v :: t => if leX x v = true then cutK x t + 1 else 0
theorem cutK_le (x : Nat) : ∀ xs : List Nat, cutK x xs ≤ xs.length
  | [] => Nat.le_refl _
  | v :: t => by
    unfold cutK
    have := cutK_le x t
    split <;> simp <;> omega
theorem cutK_at (x : Nat) : ∀ (xs : List Nat) {k v : Nat}, k < cutK x xs → xs[k]? = some v → leX x v = true
  | [], _, _, h, _ => by simp [cutK] at h
  | u :: t, k, v, h, hv => by
    unfold cutK at h
    split at h
    · rename_i hu
      cases k with
      | zero => simp at hv; rw [← hv]; exact hu
      | succ k => exact cutK_at x t (k := k) (by omega) (by simpa using hv)
    · omega
theorem cutK_end (x : Nat) : ∀ (xs : List Nat) {v : Nat}, xs[cutK x xs]? = some v → leX x v = false
  | [], _, hv => by simp at hv
  | u :: t, v, hv => by
    by_cases hu : leX x u = true
    · unfold cutK at hv
      rw [if_pos hu] at hv
      exact cutK_end x t (by simpa using hv)
    · unfold cutK at hv
      rw [if_neg hu] at hv
      simp at hv
      rw [← hv]
      simpa using hu
theorem cutK_of {x k : Nat} {xs : List Nat} (h1 : ∀ i v, i < k → xs[i]? = some v → leX x v = true) (hk : k ≤ xs.length) (h2 : ∀ v, xs[k]? = some v → leX x v = false) : k = cutK x xs := by
  have hc := cutK_le x xs
  rcases Nat.lt_trichotomy k (cutK x xs) with h | h | h
  · exfalso
    obtain ⟨v, hv⟩ := get_of_lt (xs := xs) (k := k) (by omega)
    have e1 := cutK_at x xs h hv
    rw [h2 v hv] at e1
    cases e1
  · exact h
  · exfalso
    obtain ⟨v, hv⟩ := get_of_lt (xs := xs) (k := cutK x xs) (by omega)
    have e1 := h1 _ v h hv
    rw [cutK_end x xs hv] at e1
    cases e1
theorem rise_step {xs : List Nat} (hr : riseTo xs xs.length = true) (hf : xs.all finB = true) {i u v : Nat} (hu : xs[i]? = some u) (hv : xs[i + 1]? = some v) : val u < val v := by
  have hp := List.all_eq_true.1 hr (i + 1) (List.mem_range.2 (lt_of_get hv))
  unfold pairB at hp
  rw [getD_of hv, getD_of (xs := xs) (k := i + 1 - 1) (x := u) hu] at hp
  have h1 : leX u v = false := by simpa [leX, leB, ord32] using hp
  have fu := List.all_eq_true.1 hf u (List.mem_of_getElem? hu)
  have fv := List.all_eq_true.1 hf v (List.mem_of_getElem? hv)
  by_cases h : val u < val v
  · exact h
  · exfalso
    have := (le_val fv fu).2 (by grind)
    rw [h1] at this
    cases this
theorem rise_mono {xs : List Nat} (hr : riseTo xs xs.length = true) (hf : xs.all finB = true) {i u : Nat} (hu : xs[i]? = some u) : ∀ (d : Nat) {v : Nat}, xs[i + d]? = some v → val u ≤ val v
  | 0, v, hv => by
    rw [Nat.add_zero, hu] at hv
    cases hv
    exact Rat.le_refl
  | d + 1, v, hv => by
    obtain ⟨t, ht⟩ := get_of_lt (xs := xs) (k := i + d) (by have := lt_of_get hv; omega)
    exact Rat.le_trans (rise_mono hr hf hu d ht) (Rat.le_of_lt (rise_step hr hf ht hv))
/-- Above x is what stands behind the place. -/
theorem gt_cut {xs : List Nat} {x : Nat} (hr : riseTo xs xs.length = true) (hf : xs.all finB = true) (hx : finB x = true) {k v : Nat} (hv : xs[k]? = some v) : gtX x v = decide (cutK x xs ≤ k) := by
  have fv := List.all_eq_true.1 hf v (List.mem_of_getElem? hv)
  by_cases hc : cutK x xs ≤ k
  · rw [decide_eq_true hc]
    obtain ⟨u, hu⟩ := get_of_lt (xs := xs) (k := cutK x xs) (by have := lt_of_get hv; omega)
    have fu := List.all_eq_true.1 hf u (List.mem_of_getElem? hu)
    have h1 := cutK_end x xs hu
    have h2 : ¬ val u ≤ val x := fun h => by
      rw [(le_val fu hx).2 h] at h1
      cases h1
    have h3 := rise_mono hr hf hu (k - cutK x xs) (v := v) (by rw [show cutK x xs + (k - cutK x xs) = k by omega]; exact hv)
    exact (gtX_val fv hx).2 (by grind)
  · rw [decide_eq_false hc]
    have h1 := (le_val fv hx).1 (cutK_at x xs (by omega) hv)
    cases h : gtX x v with
    | false => rfl
    | true =>
      have := (gtX_val fv hx).1 h
      exfalso
      grind
theorem cut_keep {xs : List Nat} {c k v : Nat} (hv : xs[k]? = some v) : (xs.take (k + 1)).drop c = if c ≤ k then (xs.take k).drop c ++ [v] else (xs.take k).drop c := by
  have hk := lt_of_get hv
  by_cases hc : c ≤ k
  · rw [if_pos hc, take_snoc hv, List.drop_append_of_le_length (by simp; omega)]
  · rw [if_neg hc, List.drop_eq_nil_of_le (by simp; omega), List.drop_eq_nil_of_le (by simp; omega)]
/-- The first k of a row, by S; the rest as it is. -/
def qTo (S : Option Nat) (l : List (Option Nat)) (k : Nat) : List (Option Nat) := (l.take k).map (fun x => opF .quo .f32 x S) ++ l.drop k
theorem qTo_zero (S : Option Nat) (l : List (Option Nat)) : qTo S l 0 = l := by simp [qTo]
theorem qTo_at (S : Option Nat) {l : List (Option Nat)} {k : Nat} (h : k < l.length) : (qTo S l k)[k]? = l[k]? := by
  unfold qTo
  rw [List.getElem?_append_right (by simp; omega)]
  simp
  congr 1
  omega
theorem qTo_set (S : Option Nat) {l : List (Option Nat)} {k : Nat} {a : Option Nat} (h : l[k]? = some a) : (qTo S l k).set k (opF .quo .f32 a S) = qTo S l (k + 1) := by
  have hk := lt_of_get h
  unfold qTo
  rw [List.set_append_right _ _ (by simp; omega), take_snoc h]
  have hl : ((l.take k).map fun x => opF .quo .f32 x S).length = k := by simp; omega
  rw [hl, Nat.sub_self]
  have hd : l.drop k = a :: l.drop (k + 1) := by
    rw [List.drop_eq_getElem_cons hk]
    congr 1
    rw [List.getElem?_eq_getElem hk] at h
    exact Option.some.inj h
  rw [hd, List.set_cons_zero]
  simp
theorem absl_get {xs : List Nat} {i : Nat} {a : Option Nat} (h : (absL xs)[i]? = some a) : ∃ x, xs[i]? = some x ∧ absF .f32 x = a := by
  unfold absL at h
  rw [List.getElem?_map] at h
  cases hx : xs[i]? with
  | none => rw [hx] at h; cases h
  | some x => rw [hx] at h; exact ⟨x, rfl, by simpa using h⟩
theorem absl_setC (xs : List Nat) (i x : Nat) : absL (xs.set i x) = (absL xs).set i (absF .f32 x) := by simp [absL, List.map_set]
theorem size_setc (w : World) (p : Addr) (u : Value) : (w.setCell p u).heap.size = w.heap.size := by simp
end
end Go.Proofs.Ytimpabceellihaa
