/-
  LikeOf, walked in the program and in the reference.
-/
import Derived.Test.YtimpabceellihaaMixAt
import Derived.Test.YtimpabceellihaaRatio
import Derived.Test.YtimpabceellihaaLogE
namespace Go.Proofs.Ytimpabceellihaa
open Go.RowKit
attribute [local go_sem] run_fl_add run_fl_sub run_fl_mul run_fl_quo run_up_

def sampB (xs : List Nat) (n : Nat) : Bool := decide (n ≤ xs.length ∧ xs.length ≤ 256) && xs.all finB
theorem areSamples_any (v : Value) (xs : List Nat) (hn : xs.length ≤ 1099511627776) (n : Nat) (_hnn : n ≤ 1000) (w : World) (hr : Rd fV w v xs) :
    Calls Try.prog 30 #[v, .int .i64 n] w fun e w' => e = .returned (.bool (sampB xs n)) ∧ ∃ m, w.drewN m = w' := by
  have HR := Lib.hid hr
  obtain ⟨A, cap, rfl, hcap, hA⟩ := hr
  clear hA
  unfold sampB
  cases ha : xs.all finB <;> by_cases h1 : n ≤ xs.length <;> by_cases h2 : xs.length ≤ 256
  all_goals
    have HA := Lib.hid ha
    clear ha
    go_enter Try.func30, Try.ntmps30
    go_wp2_with (go_at_call 41; refine (areFinite_any _ xs hn _ HR.out).mono ?_; rintro e w' ⟨rfl, n, rfl⟩; rw [HA.out])
    go_ret
    exact ⟨ret_bool (by simp [h1, h2]), by first | exact ⟨_, rfl⟩ | exact ⟨0, rfl⟩⟩
theorem l05Numbers_any (v : Value) (xs : List Nat) (hn : xs.length ≤ 1099511627776) (n : Nat) (_hnn : n ≤ 1000) (w : World) (hr : Rd fV w v xs) :
    Calls Try.prog 24 #[v, .int .i64 n] w fun e w' => e = .returned (.bool (sampB xs n)) ∧ ∃ m, w.drewN m = w' := by
  have HR := Lib.hid hr
  obtain ⟨A, cap, rfl, hcap, hA⟩ := hr
  clear hA
  unfold sampB
  cases ha : xs.all finB <;> by_cases h1 : n ≤ xs.length <;> by_cases h2 : xs.length ≤ 256
  all_goals
    have HA := Lib.hid ha
    clear ha
    go_enter Try.func24, Try.ntmps24
    go_wp2_with (go_at_call 46; refine (l02Finite_any _ xs hn _ HR.out).mono ?_; rintro e w' ⟨rfl, n, rfl⟩; rw [HA.out])
    go_ret
    exact ⟨ret_bool (by simp [h1, h2]), by first | exact ⟨_, rfl⟩ | exact ⟨0, rfl⟩⟩
def aboveA : Option Nat → Bool | none => false | some b => aboveB b
theorem above_abs (b : Nat) : aboveB b = aboveA (absF .f32 b) := by
  cases hn : (FloatKind.f32.decode b).isNaN
  · rw [absF_of hn]; rfl
  · rw [absF_nan hn]
    unfold aboveB finB
    cases hd : FloatKind.f32.decode b with
    | nan s t => rfl
    | infinity s => rw [hd] at hn; cases hn
    | number s m p => rw [hd] at hn; cases hn
theorem above_gt {b : Nat} {D : Option Nat} (hb : absF .f32 b = D) (hf : finA D = true) : aboveA D = (FloatKind.f32.format.order b 0 == some .gt) := by
  rw [← hb, ← above_abs]
  unfold aboveB
  rw [fin_abs, hb, hf]
  rfl
theorem above_no {D : Option Nat} (hf : finA D = false) : aboveA D = false := by
  cases D with
  | none => rfl
  | some b =>
    show aboveB b = false
    have : finB b = false := hf
    unfold aboveB
    rw [this]; rfl
theorem above_fin {b : Nat} (h : aboveB b = true) : finB b = true := by
  unfold aboveB at h
  rw [Bool.and_eq_true] at h
  exact h.1

section
variable (x0 x1 x2 : List Nat)
def likeStep (s : Option Nat) (y : Nat) : Option Nat := opF .add .f32 s (logO (mixS x0 x1 x2 y))
def likeTo (xs : List Nat) (k : Nat) : Option Nat := (xs.take k).foldl (likeStep x0 x1 x2) (some 0)
def likeUp (xs : List Nat) (k : Nat) : Bool := (xs.take k).all fun y => aboveA (mixS x0 x1 x2 y)
def likeOk (xs : List Nat) : Bool := (mixB x0 x1 x2 && sampB xs 1) && (likeUp x0 x1 x2 xs xs.length && finA (likeTo x0 x1 x2 xs xs.length))
def likeV (xs : List Nat) : Option Nat := if likeOk x0 x1 x2 xs = true then likeTo x0 x1 x2 xs xs.length else some 0
def RetLikeOf (xs : List Nat) (w : World) (e : Ending) (w' : World) : Prop :=
  ∃ b, e = .returned (.tuple #[fV b, .bool (likeOk x0 x1 x2 xs)]) ∧ absF .f32 b = likeV x0 x1 x2 xs ∧ Below w.heap.size w w'
end
variable {x0 x1 x2 : List Nat} {xs : List Nat}
theorem likeTo_succ {k y : Nat} (h : xs[k]? = some y) : likeTo x0 x1 x2 xs (k + 1) = opF .add .f32 (likeTo x0 x1 x2 xs k) (logO (mixS x0 x1 x2 y)) := by simp [likeTo, take_snoc h, likeStep]
theorem likeUp_succ {k y : Nat} (h : xs[k]? = some y) : likeUp x0 x1 x2 xs (k + 1) = (likeUp x0 x1 x2 xs k && aboveA (mixS x0 x1 x2 y)) := by simp [likeUp, take_snoc h]
theorem ret_like_no {w w' : World} (h : likeOk x0 x1 x2 xs = false) (hb : Below w.heap.size w w') : RetLikeOf x0 x1 x2 xs w (.returned (.tuple #[fV 0, .bool false])) w' :=
  ⟨0, by rw [h], by unfold likeV; rw [h]; exact abs_zero, hb⟩
theorem like_f1 (h : mixB x0 x1 x2 = false) : likeOk x0 x1 x2 xs = false := by unfold likeOk; rw [h]; rfl
theorem like_f2 (h : sampB xs 1 = false) : likeOk x0 x1 x2 xs = false := by unfold likeOk; rw [h]; simp
theorem like_f3 {k y : Nat} (hy : xs[k]? = some y) (h : aboveA (mixS x0 x1 x2 y) = false) : likeOk x0 x1 x2 xs = false := by
  have : likeUp x0 x1 x2 xs xs.length = false := by
    unfold likeUp
    rw [List.take_length, List.all_eq_false]
    exact ⟨y, List.mem_of_getElem? hy, by rw [h]; exact Bool.false_ne_true⟩
  unfold likeOk
  rw [this]; simp
theorem like_t {b : Nat} (h1 : mixB x0 x1 x2 = true) (h2 : sampB xs 1 = true) (h3 : likeUp x0 x1 x2 xs xs.length = true) (hb : absF .f32 b = likeTo x0 x1 x2 xs xs.length) : finB b = likeOk x0 x1 x2 xs ∧ absF .f32 (numF b) = likeV x0 x1 x2 xs := by
  have h : finB b = likeOk x0 x1 x2 xs := by unfold likeOk; rw [h1, h2, h3, fin_abs, hb]; rfl
  refine ⟨h, ?_⟩
  unfold likeV numF
  rw [← h]
  split
  · exact hb
  · exact abs_zero
theorem samp_fin {n k y : Nat} (h : sampB xs n = true) (hy : xs[k]? = some y) : finB y = true := by
  unfold sampB at h
  rw [Bool.and_eq_true] at h
  exact List.all_eq_true.1 h.2 y (List.mem_of_getElem? hy)
theorem samp_len {n : Nat} (h : sampB xs n = true) : n ≤ xs.length ∧ xs.length ≤ 256 := by
  unfold sampB at h
  rw [Bool.and_eq_true, decide_eq_true_eq] at h
  exact h.1
theorem mixOk_fin {x : Nat} (h1 : mixB x0 x1 x2 = true) (h2 : finB x = true) : mixOk x0 x1 x2 x = finA (mixS x0 x1 x2 x) := by unfold mixOk; rw [h1, h2]; rfl
theorem mixV_t {x : Nat} (h : mixOk x0 x1 x2 x = true) : mixV x0 x1 x2 x = mixS x0 x1 x2 x := by unfold mixV; rw [if_pos h]

set_option maxHeartbeats 3200000 in
theorem implLikeOf_any (s0 : Value) (x0 : List Nat) (s1 : Value) (x1 : List Nat) (s2 : Value) (x2 : List Nat) (hn0 : x0.length ≤ 1099511627776) (hn1 : x1.length ≤ 1099511627776) (hn2 : x2.length ≤ 1099511627776) (v : Value) (xs : List Nat) (hn : xs.length ≤ 1099511627776) (w : World) (hr0 : Rd fV w s0 x0) (hr1 : Rd fV w s1 x1) (hr2 : Rd fV w s2 x2) (hr3 : Rd fV w v xs) :
    Calls Try.prog 21 #[mxV s0 s1 s2, v] w (RetLikeOf x0 x1 x2 xs w) := by
  have HR0 := Lib.hid hr0
  obtain ⟨A0, cap0, rfl, hcap0, hA0⟩ := hr0
  have HA0 := Lib.hid hA0
  clear hA0
  have HR1 := Lib.hid hr1
  obtain ⟨A1, cap1, rfl, hcap1, hA1⟩ := hr1
  have HA1 := Lib.hid hA1
  clear hA1
  have HR2 := Lib.hid hr2
  obtain ⟨A2, cap2, rfl, hcap2, hA2⟩ := hr2
  have HA2 := Lib.hid hA2
  clear hA2
  have HR3 := Lib.hid hr3
  obtain ⟨A3, cap3, rfl, hcap3, hA3⟩ := hr3
  have HA3 := Lib.hid hA3
  clear hA3
  go_enter Try.func21, Try.ntmps21
  go_wp2_with fail
  have B := BoxAt.new w [.slice A0 x0.length cap0, .slice A1 x1.length cap1, .slice A2 x2.length cap2] 26
  have hT := below_alloc w (.cells ([.slice A0 x0.length cap0, .slice A1 x1.length cap1, .slice A2 x2.length cap2] : List Value).toArray 26)
  generalize hg : World.alloc w _ = W0 at *
  clear hg
  refine (implValidMixture_any _ x0 _ x1 _ x2 hn0 hn1 hn2 _ (HR0.out.below hT) (HR1.out.below hT) (HR2.out.below hT)).mono ?_
  rintro e w1 ⟨rfl, hb⟩
  replace B := B.below hb
  replace hT := below_to hT hb hT.size
  clear hb
  cases hs : mixB x0 x1 x2
  · have Ho := Lib.hid (like_f1 (xs := xs) hs)
    have Hs := Lib.hid hs
    clear hs
    go_wp2
    go_ret2
    exact ret_like_no Ho.out hT
  · have Hs := Lib.hid hs
    clear hs
    go_wp2_with fail
    refine (areSamples_any _ xs hn 1 (by omega) _ (HR3.out.below hT)).mono ?_
    rintro e w2 ⟨rfl, hd⟩
    have hb := below_of_drew hd
    clear hd
    replace B := B.below hb
    replace hT := below_to hT hb hT.size
    clear hb
    cases hf : sampB xs 1
    · have Ho := Lib.hid (like_f2 (x0 := x0) (x1 := x1) (x2 := x2) hf)
      have Hf := Lib.hid hf
      clear hf
      go_wp2
      go_ret2
      exact ret_like_no Ho.out hT
    · have Hf := Lib.hid hf
      clear hf
      have c0 := B.cell 0 _ rfl
      have c1 := B.cell 1 _ rfl
      have c2 := B.cell 2 _ rfl
      go_wp2
      go_loopw [6, 21] (fun ss si wr => ∃ (k b : Nat), k ≤ xs.length ∧ si = .int .i64 k ∧ ss = fV b ∧ Hid (absF .f32 b = likeTo x0 x1 x2 xs k) ∧ Hid (likeUp x0 x1 x2 xs k = true) ∧ Below w2.heap.size w2 wr) (fun _ si _ => xs.length - (intOf si).toNat)
      case atStart => exact ⟨0, 0, by omega, rfl, rfl, abs_zero, rfl, Below.refl _ _⟩
      case round =>
        obtain ⟨k, b, hk, rfl, rfl, hb0, hup, hb⟩ := hrel
        have hT2 := below_to hT hb hT.size
        have B2 := B.below hb
        clear c0 c1 c2
        have d0 := B2.cell 0 _ rfl
        have d1 := B2.cell 1 _ rfl
        have d2 := B2.cell 2 _ rfl
        by_cases hlt : k < xs.length
        · obtain ⟨y, hy⟩ := get_of_lt hlt
          obtain ⟨ad, rfl, hbl, hcell⟩ := HA3.out k y hy
          have e0 : wr.cell? (ad.add k) = some (fV y) := by rw [hT2.cell (by rw [add_block]; exact hbl)]; exact hcell
          have HF := Lib.hid (samp_fin Hf.out hy)
          have HTO := Lib.hid (likeTo_succ (x0 := x0) (x1 := x1) (x2 := x2) hy)
          have HUP := Lib.hid (likeUp_succ (x0 := x0) (x1 := x1) (x2 := x2) hy)
          have HNO : Hid (aboveA (mixS x0 x1 x2 y) = false → likeOk x0 x1 x2 xs = false) := like_f3 hy
          clear hy hcell
          go_wp2_with fail
          refine (implMixtureAt_any _ x0 _ x1 _ x2 hn0 hn1 hn2 y _ (HR0.out.below hT2) (HR1.out.below hT2) (HR2.out.below hT2)).mono ?_
          rintro e w3 ⟨d, rfl, hd, hb3⟩
          have hT3 := below_to hT2 hb3 hT2.size
          have hb4 := below_to hb hb3 hb.size
          have HOK := Lib.hid (mixOk_fin Hs.out HF.out)
          clear d0 d1 d2
          cases hm : mixOk x0 x1 x2 y
          · have HO := Lib.hid (HNO.out (above_no (by rw [← HOK.out]; exact hm)))
            have Hm := Lib.hid hm
            clear hm
            clear hd
            go_wp2
            go_ret2
            exact ret_like_no HO.out hT3
          · have HG := Lib.hid (above_gt (hd.trans (mixV_t hm)) (by rw [← HOK.out]; exact hm))
            have HDD := Lib.hid (hd.trans (mixV_t hm))
            have hfd : finB d = true := by rw [fin_abs, HDD.out, ← HOK.out]; exact hm
            have HI := Lib.hid (infOk_fin hfd)
            have Hm := Lib.hid hm
            clear hm
            clear hd hfd
            cases hg : (FloatKind.f32.format.order d 0 == some .gt)
            · have HO := Lib.hid (HNO.out (HG.out.trans hg))
              go_wp2
              go_ret2
              exact ret_like_no HO.out hT3
            · have HU := Lib.hid (HG.out.trans hg)
              go_wp2_with fail
              refine (logNumber_any _ HI.out _).mono ?_
              rintro e w4 ⟨l, rfl, hl, n, rfl⟩
              have HLG := Lib.hid (hl.trans (logO_of HDD.out))
              clear hl
              go_wp2
              go_roundw
              case rel => exact ⟨k + 1, _, by omega, by go_num, rfl, by unfold Hid; rw [HTO.out, abs_flR .add rfl, hb0.out, HLG.out], by unfold Hid; rw [HUP.out, hup.out, HU.out]; rfl, below_drewN_ hb4⟩
              case measure => simp [intOf]; omega
        · have hke : k = xs.length := by omega
          have HV := Lib.hid (like_t (b := b) Hs.out Hf.out (by rw [← hke]; exact hup.out) (by rw [hb0.out, hke]))
          clear hke d0 d1 d2
          go_wp2_with fail
          refine (checked_any _ _).mono ?_
          rintro e w3 ⟨rfl, hd⟩
          have hb := below_of_drew hd
          clear hd
          go_wp2
          go_ret2
          exact ⟨_, by rw [HV.out.1] <;> rfl, HV.out.2, below_to hT2 hb hT2.size⟩

set_option maxHeartbeats 3200000 in
theorem specLikeOf_any (s0 : Value) (x0 : List Nat) (s1 : Value) (x1 : List Nat) (s2 : Value) (x2 : List Nat) (hn0 : x0.length ≤ 1099511627776) (hn1 : x1.length ≤ 1099511627776) (hn2 : x2.length ≤ 1099511627776) (v : Value) (xs : List Nat) (hn : xs.length ≤ 1099511627776) (w : World) (hr0 : Rd fV w s0 x0) (hr1 : Rd fV w s1 x1) (hr2 : Rd fV w s2 x2) (hr3 : Rd fV w v xs) :
    Calls Try.prog 20 #[mxV s0 s1 s2, v] w (RetLikeOf x0 x1 x2 xs w) := by
  have HR0 := Lib.hid hr0
  obtain ⟨A0, cap0, rfl, hcap0, hA0⟩ := hr0
  have HA0 := Lib.hid hA0
  clear hA0
  have HR1 := Lib.hid hr1
  obtain ⟨A1, cap1, rfl, hcap1, hA1⟩ := hr1
  have HA1 := Lib.hid hA1
  clear hA1
  have HR2 := Lib.hid hr2
  obtain ⟨A2, cap2, rfl, hcap2, hA2⟩ := hr2
  have HA2 := Lib.hid hA2
  clear hA2
  have HR3 := Lib.hid hr3
  obtain ⟨A3, cap3, rfl, hcap3, hA3⟩ := hr3
  have HA3 := Lib.hid hA3
  clear hA3
  go_enter Try.func20, Try.ntmps20
  go_wp2_with fail
  have B := BoxAt.new w [.slice A0 x0.length cap0, .slice A1 x1.length cap1, .slice A2 x2.length cap2] 26
  have hT := below_alloc w (.cells ([.slice A0 x0.length cap0, .slice A1 x1.length cap1, .slice A2 x2.length cap2] : List Value).toArray 26)
  generalize hg : World.alloc w _ = W0 at *
  clear hg
  refine (l05Mixture_any _ _ _ _ x0 x1 x2 hn0 hn1 hn2 _ B (HR0.out.below hT) (HR1.out.below hT) (HR2.out.below hT)).mono ?_
  rintro e w1 ⟨rfl, hb⟩
  replace B := B.below hb
  replace hT := below_to hT hb hT.size
  clear hb
  cases hs : mixB x0 x1 x2
  · have Ho := Lib.hid (like_f1 (xs := xs) hs)
    have Hs := Lib.hid hs
    clear hs
    go_wp2
    go_ret2
    exact ret_like_no Ho.out hT
  · have HL := Lib.hid (mixB_len3 hs)
    have Hs := Lib.hid hs
    clear hs
    go_wp2_with fail
    refine (l05Numbers_any _ xs hn 1 (by omega) _ (HR3.out.below hT)).mono ?_
    rintro e w2 ⟨rfl, hd⟩
    have hb := below_of_drew hd
    clear hd
    replace B := B.below hb
    replace hT := below_to hT hb hT.size
    clear hb
    cases hf : sampB xs 1
    · have Ho := Lib.hid (like_f2 (x0 := x0) (x1 := x1) (x2 := x2) hf)
      have Hf := Lib.hid hf
      clear hf
      go_wp2
      go_ret2
      exact ret_like_no Ho.out hT
    · have Hf := Lib.hid hf
      clear hf
      go_wp2
      go_loopw [6, 18] (fun ss si wr => ∃ (k b : Nat), k ≤ xs.length ∧ si = .int .i64 k ∧ ss = fV b ∧ Hid (absF .f32 b = likeTo x0 x1 x2 xs k) ∧ Hid (likeUp x0 x1 x2 xs k = true) ∧ Below w2.heap.size w2 wr) (fun _ si _ => xs.length - (intOf si).toNat)
      case atStart => exact ⟨0, 0, by omega, rfl, rfl, abs_zero, rfl, Below.refl _ _⟩
      case round =>
        obtain ⟨k, b, hk, rfl, rfl, hb0, hup, hb⟩ := hrel
        have hT2 := below_to hT hb hT.size
        have B2 := B.below hb
        by_cases hlt : k < xs.length
        · obtain ⟨y, hy⟩ := get_of_lt hlt
          obtain ⟨ad, rfl, hbl, hcell⟩ := HA3.out k y hy
          have e0 : wr.cell? (ad.add k) = some (fV y) := by rw [hT2.cell (by rw [add_block]; exact hbl)]; exact hcell
          have HF := Lib.hid (samp_fin Hf.out hy)
          have HTO := Lib.hid (likeTo_succ (x0 := x0) (x1 := x1) (x2 := x2) hy)
          have HUP := Lib.hid (likeUp_succ (x0 := x0) (x1 := x1) (x2 := x2) hy)
          have HNO : Hid (aboveA (mixS x0 x1 x2 y) = false → likeOk x0 x1 x2 xs = false) := like_f3 hy
          have hk0 : (0 : Int) ≤ (k : Int) := by omega
          have hk1 : (k : Int) < (xs.length : Int) := by omega
          clear hy hcell
          go_wp2_with fail
          refine (l05At_any _ _ _ _ x0 x1 x2 y (denseOk_of Hs.out HF.out) HL.out.1 _ B2 (HR0.out.below hT2) (HR1.out.below hT2) (HR2.out.below hT2)).mono ?_
          rintro e w3 ⟨d, rfl, hd, hb3⟩
          have hT3 := below_to hT2 hb3 hT2.size
          have hb4 := below_to hb hb3 hb.size
          have HDD := Lib.hid (show absF .f32 d = mixS x0 x1 x2 y from hd)
          clear hd
          go_wp2_with fail
          refine (l02Above_any _ _).mono ?_
          rintro e w4 ⟨rfl, n, rfl⟩
          cases hg : aboveB d
          · have HO := Lib.hid (HNO.out (by rw [← HDD.out, ← above_abs]; exact hg))
            have Hg := Lib.hid hg
            clear hg
            go_wp2
            go_ret2
            exact ret_like_no HO.out (below_drewN_ hT3)
          · have HU := Lib.hid (show aboveA (mixS x0 x1 x2 y) = true by rw [← HDD.out, ← above_abs]; exact hg)
            have HI := Lib.hid (infOk_fin (above_fin hg))
            have Hg := Lib.hid hg
            clear hg
            go_wp2_with fail
            refine (l01Log_any _ HI.out _).mono ?_
            rintro e w4 ⟨l, rfl, hl, n, rfl⟩
            have HLG := Lib.hid (hl.trans (logO_of HDD.out))
            clear hl
            go_wp2
            go_roundw
            case rel => exact ⟨k + 1, _, by omega, by go_num, rfl, by unfold Hid; rw [HTO.out, abs_flR .add rfl, hb0.out, HLG.out], by unfold Hid; rw [HUP.out, hup.out, HU.out]; rfl, by first | exact below_drewN_ hb4 | exact below_drewN_ (below_drewN_ hb4)⟩
            case measure => simp [intOf]; omega
        · have hke : k = xs.length := by omega
          have HV := Lib.hid (like_t (b := b) Hs.out Hf.out (by rw [← hke]; exact hup.out) (by rw [hb0.out, hke]))
          clear hke
          go_wp2_with fail
          refine (l02Number_any _ _).mono ?_
          rintro e w3 ⟨rfl, hd⟩
          have hb := below_of_drew hd
          clear hd
          go_wp2
          go_ret2
          exact ⟨_, by rw [HV.out.1] <;> rfl, HV.out.2, below_to hT2 hb hT2.size⟩
end Go.Proofs.Ytimpabceellihaa
