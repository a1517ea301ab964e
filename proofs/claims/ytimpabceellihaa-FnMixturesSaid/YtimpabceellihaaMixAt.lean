/-
  MixtureAt, walked in the program and in the reference.
-/
import Derived.Test.YtimpabceellihaaMixD
namespace Go.Proofs.Ytimpabceellihaa
open Go.RowKit
attribute [local go_sem] run_fl_add run_fl_sub run_fl_mul run_fl_quo run_up_

def mixS (x0 x1 x2 : List Nat) (x : Nat) : Option Nat := sumF (dList x0 x1 x2 x x0.length)
def mixOk (x0 x1 x2 : List Nat) (x : Nat) : Bool := mixB x0 x1 x2 && finB x && finA (mixS x0 x1 x2 x)
def mixV (x0 x1 x2 : List Nat) (x : Nat) : Option Nat := if mixOk x0 x1 x2 x = true then mixS x0 x1 x2 x else some 0
def RetMixtureAt (x0 x1 x2 : List Nat) (x : Nat) (w : World) (e : Ending) (w' : World) : Prop :=
  ∃ b, e = .returned (.tuple #[fV b, .bool (mixOk x0 x1 x2 x)]) ∧ absF .f32 b = mixV x0 x1 x2 x ∧ Below w.heap.size w w'
theorem mixAt_f1 {x0 x1 x2 : List Nat} {x : Nat} (h : mixB x0 x1 x2 = false) : mixOk x0 x1 x2 x = false ∧ mixV x0 x1 x2 x = some 0 := by
  have : mixOk x0 x1 x2 x = false := by unfold mixOk; rw [h]; rfl
  exact ⟨this, by unfold mixV; rw [this]; rfl⟩
theorem mixAt_f2 {x0 x1 x2 : List Nat} {x : Nat} (h : finB x = false) : mixOk x0 x1 x2 x = false ∧ mixV x0 x1 x2 x = some 0 := by
  have : mixOk x0 x1 x2 x = false := by unfold mixOk; rw [h]; simp
  exact ⟨this, by unfold mixV; rw [this]; rfl⟩
theorem mixAt_t {x0 x1 x2 : List Nat} {x b : Nat} (h1 : mixB x0 x1 x2 = true) (h2 : finB x = true) (hb : absF .f32 b = mixS x0 x1 x2 x) : finB b = mixOk x0 x1 x2 x ∧ absF .f32 (numF b) = mixV x0 x1 x2 x := by
  have h : finB b = mixOk x0 x1 x2 x := by unfold mixOk; rw [h1, h2, fin_abs, hb]; rfl
  refine ⟨h, ?_⟩
  unfold mixV numF
  rw [← h]
  split
  · exact hb
  · exact abs_zero
theorem mixB_len3 {x0 x1 x2 : List Nat} (h : mixB x0 x1 x2 = true) : x0.length ≤ 65536 ∧ x1.length ≤ 65536 ∧ x2.length ≤ 65536 := by
  have := mixB_len h
  omega

set_option maxHeartbeats 1600000 in
theorem implMixtureAt_any (s0 : Value) (x0 : List Nat) (s1 : Value) (x1 : List Nat) (s2 : Value) (x2 : List Nat) (hn0 : x0.length ≤ 1099511627776) (hn1 : x1.length ≤ 1099511627776) (hn2 : x2.length ≤ 1099511627776) (x : Nat) (w : World) (hr0 : Rd fV w s0 x0) (hr1 : Rd fV w s1 x1) (hr2 : Rd fV w s2 x2) :
    Calls Try.prog 17 #[mxV s0 s1 s2, fV x] w (RetMixtureAt x0 x1 x2 x w) := by
  have HR0 := Lib.hid hr0
  obtain ⟨A0, cap0, rfl, hcap0, hA0⟩ := hr0
  have HA0 := Lib.hid hA0
  clear hA0
  have HR1 := Lib.hid hr1
  obtain ⟨A1, cap1, rfl, hcap1, hA1⟩ := hr1
  have HA1 := Lib.hid hA1
  clear hA1
  have HR2 := Lib.hid hr2
  obtain ⟨A2, cap2, rfl, hcap2, hA2⟩ := hr2
  have HA2 := Lib.hid hA2
  clear hA2
  go_enter Try.func17, Try.ntmps17
  go_wp2_with fail
  have B := BoxAt.new w [.slice A0 x0.length cap0, .slice A1 x1.length cap1, .slice A2 x2.length cap2] 26
  have hT := below_alloc w (.cells ([.slice A0 x0.length cap0, .slice A1 x1.length cap1, .slice A2 x2.length cap2] : List Value).toArray 26)
  generalize hg : World.alloc w _ = W0 at *
  clear hg
  refine (implValidMixture_any _ x0 _ x1 _ x2 hn0 hn1 hn2 _ (HR0.out.below hT) (HR1.out.below hT) (HR2.out.below hT)).mono ?_
  rintro e w1 ⟨rfl, hb⟩
  replace B := B.below hb
  replace hT := below_to hT hb hT.size
  clear hb
  cases hs : mixB x0 x1 x2
  · have Ho := Lib.hid (mixAt_f1 (x := x) hs)
    have Hs := Lib.hid hs
    clear hs
    go_wp2
    go_ret2
    exact ⟨0, by rw [Ho.out.1] <;> rfl, by rw [Ho.out.2]; exact abs_zero, hT⟩
  · have HL := Lib.hid (mixB_len3 hs)
    have Hs := Lib.hid hs
    clear hs
    go_wp2_with fail
    refine (isFinite_any _ _).mono ?_
    rintro e w2 ⟨rfl, hd⟩
    have hb := below_of_drew hd
    clear hd
    replace B := B.below hb
    replace hT := below_to hT hb hT.size
    clear hb
    cases hf : finB x
    · have Ho := Lib.hid (mixAt_f2 (x0 := x0) (x1 := x1) (x2 := x2) hf)
      have Hf := Lib.hid hf
      clear hf
      go_wp2
      go_ret2
      exact ⟨0, by rw [Ho.out.1] <;> rfl, by rw [Ho.out.2]; exact abs_zero, hT⟩
    · have HD := Lib.hid (denseOk_of Hs.out hf)
      have Hf := Lib.hid hf
      clear hf
      have d0 := B.cell 0 _ rfl
      have d1 := B.cell 1 _ rfl
      have d2 := B.cell 2 _ rfl
      go_wp2_with fail
      refine (densities_any _ x0 _ x1 _ x2 HL.out.1 x HD.out _ (HR0.out.below hT) (HR1.out.below hT) (HR2.out.below hT)).mono ?_
      rintro e w3 ⟨v, ys, rfl, ho, hyl, hy, hb⟩
      clear d0 d1 d2
      have hyn : ys.length ≤ 1099511627776 := by have := HL.out.1; omega
      have HY := Lib.hid hy
      have HO := Lib.hid ho.rd
      clear hyl hy ho
      replace hT := below_to hT hb hT.size
      clear hb
      go_wp2_with fail
      refine (sum_any _ ys hyn _ HO.out).mono ?_
      rintro e w4 ⟨b, rfl, hv, hd⟩
      have hb := below_of_drew hd
      have HV := Lib.hid (mixAt_t Hs.out Hf.out (hv.trans (congrArg sumF HY.out)))
      clear hd hv
      replace hT := below_to hT hb hT.size
      clear hb
      go_wp2_with fail
      refine (checked_any _ _).mono ?_
      rintro e w5 ⟨rfl, hd⟩
      have hb := below_of_drew hd
      clear hd
      replace hT := below_to hT hb hT.size
      clear hb
      go_wp2
      go_ret2
      exact ⟨_, by rw [HV.out.1] <;> rfl, HV.out.2, hT⟩

end Go.Proofs.Ytimpabceellihaa
