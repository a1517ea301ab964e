/-
  Fitted mixtures: the walk of impl.FitMixture.
-/
import Derived.Test.YtimpabceellihaaFitJ
import Derived.Test.YtimpabceellihaaMoment2
namespace Go.Proofs.Ytimpabceellihaa
open Go.RowKit
attribute [local go_sem] run_fl_add run_fl_sub run_fl_mul run_fl_quo run_up_

/-- A mixture handed back, in rows of the call's own. -/
def RetMx (ok : Bool) (V M S : List (Option Nat)) (w : World) (e : Ending) (w' : World) : Prop :=
  ∃ v0 y0 v1 y1 v2 y2, e = .returned (.tuple #[mxV v0 v1 v2, .bool ok]) ∧ Own fV 39 w' w.heap.size v0 y0 ∧ Own fV 39 w' w.heap.size v1 y1 ∧ Own fV 39 w' w.heap.size v2 y2 ∧
    (v0.ownBlock = none ∨ v0.ownBlock ≠ v1.ownBlock) ∧ (v0.ownBlock = none ∨ v0.ownBlock ≠ v2.ownBlock) ∧ (v1.ownBlock = none ∨ v1.ownBlock ≠ v2.ownBlock) ∧
    y0.length ≤ 1099511627 ∧ y1.length ≤ 1099511627 ∧ y2.length ≤ 1099511627 ∧ absL y0 = (if ok then V else []) ∧ absL y1 = (if ok then M else []) ∧ absL y2 = (if ok then S else []) ∧ Below w.heap.size w w'
def RetFitMixture (x0 x1 x2 xs : List Nat) (r : Int) (w : World) (e : Ending) (w' : World) : Prop :=
  RetMx (fitOk x0 x1 x2 xs r) (absL (fitR x0 x1 x2 xs r).1) (absL (fitR x0 x1 x2 xs r).2.1) (absL (fitR x0 x1 x2 xs r).2.2) w e w'
section
variable {x0 x1 x2 xs : List Nat} {r : Int}
theorem ret_fit_no {w w' : World} (h : fitOk x0 x1 x2 xs r = false) (hb : Below w.heap.size w w') : RetFitMixture x0 x1 x2 xs r w (.returned (.tuple #[mxV (.slice none 0 0) (.slice none 0 0) (.slice none 0 0), .bool false])) w' := by
  unfold RetFitMixture
  rw [h]
  exact ⟨_, [], _, [], _, [], rfl, Own.nil, Own.nil, Own.nil, .inl rfl, .inl rfl, .inl rfl, by simp, by simp, by simp, rfl, rfl, rfl, hb⟩
theorem fit_f1 (h : mixB x0 x1 x2 = false) : fitOk x0 x1 x2 xs r = false := by unfold fitOk; rw [h]; rfl
theorem fit_f2 (h : sampB xs 2 = false) : fitOk x0 x1 x2 xs r = false := by unfold fitOk; rw [h]; simp
theorem fit_f3 (h : inB r 0 64 = false) : fitOk x0 x1 x2 xs r = false := by unfold fitOk; rw [h]; simp
theorem fit_f4 (h : fitN xs r.toNat x0 x1 x2 = none) : fitOk x0 x1 x2 xs r = false := by unfold fitOk; rw [h]; simp
theorem fit_t {y0 y1 y2 : List Nat} (h1 : mixB x0 x1 x2 = true) (h2 : sampB xs 2 = true) (h3 : inB r 0 64 = true) (h : fitN xs r.toNat x0 x1 x2 = some (y0, y1, y2)) : fitOk x0 x1 x2 xs r = true ∧ fitR x0 x1 x2 xs r = (y0, y1, y2) := by
  have : fitOk x0 x1 x2 xs r = true := by unfold fitOk; rw [h1, h2, h3, h]; rfl
  exact ⟨this, by unfold fitR; rw [if_pos this, h]; rfl⟩
theorem fitN_zero {y0 y1 y2 : List Nat} : fitN xs 0 y0 y1 y2 = some (y0, y1, y2) := rfl
end

set_option maxRecDepth 10000 in
set_option maxHeartbeats 3200000 in
theorem implFitMixture_any (s0 : Value) (x0 : List Nat) (s1 : Value) (x1 : List Nat) (s2 : Value) (x2 : List Nat) (hn0 : x0.length ≤ 1099511627776) (hn1 : x1.length ≤ 1099511627776) (hn2 : x2.length ≤ 1099511627776) (v : Value) (xs : List Nat) (hn : xs.length ≤ 1099511627776) (r : Int) (w : World) (hr0 : Rd fV w s0 x0) (hr1 : Rd fV w s1 x1) (hr2 : Rd fV w s2 x2) (hr3 : Rd fV w v xs) :
    Calls Try.prog 9 #[mxV s0 s1 s2, v, .int .i64 r] w (RetFitMixture x0 x1 x2 xs r w) := by
  have HR0 := Lib.hid hr0
  obtain ⟨A0, cap0, rfl, hcap0, hA0⟩ := hr0
  have HA0 := Lib.hid hA0
  clear hA0
  have HR1 := Lib.hid hr1
  obtain ⟨A1, cap1, rfl, hcap1, hA1⟩ := hr1
  have HA1 := Lib.hid hA1
  clear hA1
  have HR2 := Lib.hid hr2
  obtain ⟨A2, cap2, rfl, hcap2, hA2⟩ := hr2
  have HA2 := Lib.hid hA2
  clear hA2
  have HR3 := Lib.hid hr3
  obtain ⟨A3, cap3, rfl, hcap3, hA3⟩ := hr3
  have HA3 := Lib.hid hA3
  clear hA3
  go_enter Try.func9, Try.ntmps9
  go_wp2_with fail
  have B0 : BoxAt ((w.alloc (.cells ([.slice A0 x0.length cap0, .slice A1 x1.length cap1, .slice A2 x2.length cap2] : List Value).toArray 26)).alloc (.cells ([.slice none 0 0, .slice none 0 0, .slice none 0 0] : List Value).toArray 26)) w.heap.size [.slice A0 x0.length cap0, .slice A1 x1.length cap1, .slice A2 x2.length cap2] := (BoxAt.new w _ _).alloc _
  have B1 : BoxAt ((w.alloc (.cells ([.slice A0 x0.length cap0, .slice A1 x1.length cap1, .slice A2 x2.length cap2] : List Value).toArray 26)).alloc (.cells ([.slice none 0 0, .slice none 0 0, .slice none 0 0] : List Value).toArray 26)) (w.heap.size + 1) [.slice none 0 0, .slice none 0 0, .slice none 0 0] := by
    have := BoxAt.new (w.alloc (.cells ([.slice A0 x0.length cap0, .slice A1 x1.length cap1, .slice A2 x2.length cap2] : List Value).toArray 26)) [.slice none 0 0, .slice none 0 0, .slice none 0 0] 26
    rwa [size_alloc] at this
  have hT : Below w.heap.size w ((w.alloc (.cells ([.slice A0 x0.length cap0, .slice A1 x1.length cap1, .slice A2 x2.length cap2] : List Value).toArray 26)).alloc (.cells ([.slice none 0 0, .slice none 0 0, .slice none 0 0] : List Value).toArray 26)) := ((Below.refl _ _).alloc (Nat.le_refl _) _).alloc (by simp) _
  generalize hg : (w.alloc _).alloc _ = W0 at *
  clear hg
  refine (implValidMixture_any _ x0 _ x1 _ x2 hn0 hn1 hn2 _ (HR0.out.below hT) (HR1.out.below hT) (HR2.out.below hT)).mono ?_
  rintro e w1 ⟨rfl, hb⟩
  replace B0 := B0.below hb
  replace B1 := B1.below hb
  replace hT := below_to hT hb hT.size
  clear hb
  cases hs : mixB x0 x1 x2
  · have Ho := Lib.hid (fit_f1 (xs := xs) (r := r) hs)
    clear hs
    have d0 := B1.cell 0 _ rfl
    have d1 := B1.cell 1 _ rfl
    have d2 := B1.cell 2 _ rfl
    have f0 := B1.free 0
    have f1 := B1.free 1
    have f2 := B1.free 2
    have HT := Lib.hid hT
    clear hT
    go_wp2
    refine bodyPost_ret (v := .tuple #[mxV (.slice none 0 0) (.slice none 0 0) (.slice none 0 0), .bool false]) (by simp [results, Try.results9, go_sem, *]) rfl ?_
    exact ret_fit_no Ho.out (((HT.out.setCell (by simp) _).setCell (by simp) _).setCell (by simp) _)
  obtain ⟨hk, hl1, hl2⟩ := mixB_len hs
  have HMX := Lib.hid hs
  have HL1 := Lib.hid hl1
  have HL2 := Lib.hid hl2
  have hk1 : 1 ≤ x0.length := hk.1
  have hk8 : x0.length ≤ 8 := hk.2
  clear hs hk hl1 hl2
  go_wp2_with fail
  refine (areSamples_any _ xs hn 2 (by omega) _ (HR3.out.below hT)).mono ?_
  rintro e w2 ⟨rfl, hd⟩
  have hb := below_of_drew hd
  clear hd
  replace B0 := B0.below hb
  replace B1 := B1.below hb
  replace hT := below_to hT hb hT.size
  clear hb
  cases hs : sampB xs 2
  · have Ho := Lib.hid (fit_f2 (x0 := x0) (x1 := x1) (x2 := x2) (r := r) hs)
    clear hs
    have d0 := B1.cell 0 _ rfl
    have d1 := B1.cell 1 _ rfl
    have d2 := B1.cell 2 _ rfl
    have f0 := B1.free 0
    have f1 := B1.free 1
    have f2 := B1.free 2
    have HT := Lib.hid hT
    clear hT
    go_wp2
    refine bodyPost_ret (v := .tuple #[mxV (.slice none 0 0) (.slice none 0 0) (.slice none 0 0), .bool false]) (by simp [results, Try.results9, go_sem, *]) rfl ?_
    exact ret_fit_no Ho.out (((HT.out.setCell (by simp) _).setCell (by simp) _).setCell (by simp) _)
  have HSX := Lib.hid hs
  clear hs
  go_wp2_with fail
  refine (within_any _ _ _ _).mono ?_
  rintro e w4 ⟨rfl, rfl⟩
  cases hs : inB r 0 64
  · have Ho := Lib.hid (fit_f3 (x0 := x0) (x1 := x1) (x2 := x2) (xs := xs) hs)
    clear hs
    have d0 := B1.cell 0 _ rfl
    have d1 := B1.cell 1 _ rfl
    have d2 := B1.cell 2 _ rfl
    have f0 := B1.free 0
    have f1 := B1.free 1
    have f2 := B1.free 2
    have HT := Lib.hid hT
    clear hT
    go_wp2
    refine bodyPost_ret (v := .tuple #[mxV (.slice none 0 0) (.slice none 0 0) (.slice none 0 0), .bool false]) (by simp [results, Try.results9, go_sem, *]) rfl ?_
    exact ret_fit_no Ho.out (((HT.out.setCell (by simp) _).setCell (by simp) _).setCell (by simp) _)
  have HIN := Lib.hid hs
  obtain ⟨hr0', hr64⟩ := inB_true hs
  clear hs
  obtain ⟨R, rfl⟩ : ∃ R : Nat, r = (R : Int) := ⟨r.toNat, by omega⟩
  obtain ⟨wr, rfl⟩ : ∃ wr, wr = w2 := ⟨_, rfl⟩
  have d0 := B0.cell 0 _ rfl
  have d1 := B0.cell 1 _ rfl
  have d2 := B0.cell 2 _ rfl
  have hlt0 := B0.lt
  go_upto_region 3 with fail
  go_cut [8] (fun sp wx => Made x0 x1 x2 wr wx sp)
  case first =>
    go_region_held3 (fun w' => w'.cell? ⟨w.heap.size, 0, none⟩ = some (.slice A0 x0.length cap0) ∧ w'.cell? ⟨w.heap.size, 1, none⟩ = some (.slice A1 x1.length cap1) ∧ w'.cell? ⟨w.heap.size, 2, none⟩ = some (.slice A2 x2.length cap2))
      (first
        | go_keep
        | (refine ⟨?_, ?_, ?_⟩ <;> (rw [Below.cell (hcC.alloc hcC.size _) (by dsimp only; omega)]; assumption))
        | (refine ⟨?_, ?_, ?_⟩ <;> (rw [Below.cell (hcC) (by dsimp only; omega)]; assumption))
        | (refine ⟨?_, ?_, ?_⟩ <;> (rw [Below.cell (hcB.alloc hcB.size _) (by dsimp only; omega)]; assumption))
        | (refine ⟨?_, ?_, ?_⟩ <;> (rw [Below.cell (hcB) (by dsimp only; omega)]; assumption))
        | (refine ⟨?_, ?_, ?_⟩ <;> (rw [Below.cell (hcA.alloc hcA.size _) (by dsimp only; omega)]; assumption))
        | (refine ⟨?_, ?_, ?_⟩ <;> (rw [Below.cell (hcA) (by dsimp only; omega)]; assumption))
        | (refine ⟨?_, ?_, ?_⟩ <;> (rw [Below.cell (((hcC.setCell (p := ⟨wr.heap.size, 0, none⟩) (Nat.le_refl _) _).setCell (p := ⟨wr.heap.size, 1, none⟩) (Nat.le_refl _) _).setCell (p := ⟨wr.heap.size, 2, none⟩) (Nat.le_refl _) _) (by dsimp only; omega)]; assumption))
        | (refine ⟨?_, ?_, ?_⟩ <;> (rw [Below.cell (((hcC.setCell (p := ⟨wA.heap.size, 0, none⟩) (hcA.size) _).setCell (p := ⟨wA.heap.size, 1, none⟩) (hcA.size) _).setCell (p := ⟨wA.heap.size, 2, none⟩) (hcA.size) _) (by dsimp only; omega)]; assumption))
        | (refine ⟨?_, ?_, ?_⟩ <;> (rw [Below.cell (((hcC.setCell (p := ⟨wB.heap.size, 0, none⟩) (hcB.size) _).setCell (p := ⟨wB.heap.size, 1, none⟩) (hcB.size) _).setCell (p := ⟨wB.heap.size, 2, none⟩) (hcB.size) _) (by dsimp only; omega)]; assumption)))
      (first
        | (go_at_call 32; refine (clone_any _ x0 (by omega) _ ?_).mono ?_; (exact HR0.out.below (by first | exact hT.drew | exact (hT.alloc hT.size _).drew | exact hT.drew.alloc hT.size _)); rintro e wA ⟨vA, rfl, oA, hbA⟩; obtain ⟨gA, kA, rfl, -, -⟩ := oA.rd; have hcA : Below wr.heap.size wr wA := (by first | exact below_to (Below.refl wr.heap.size wr).drew hbA (by simp) | exact below_to ((Below.refl wr.heap.size wr).alloc (Nat.le_refl _) _).drew hbA (by simp)); (try have KA : BoxAt wA wr.heap.size [.slice none 0 0, .slice none 0 0, .slice none 0 0] := ((BoxAt.new wr _ _).below (Below.refl _ _).drew).below hbA))
        | (go_at_call 32; refine (clone_any _ x1 (by have := HL1.out; omega) _ ?_).mono ?_; (exact HR1.out.below (by first | exact hT.trans (hcA.mono hT.size) | exact (hT.trans (hcA.mono hT.size)).alloc (by have := hT.size; have := hcA.size; omega) _)); rintro e wB ⟨vB, rfl, oB, hbB⟩; obtain ⟨gB, kB, rfl, -, -⟩ := oB.rd; have hcB : Below wr.heap.size wr wB := (by first | exact below_to hcA hbB hcA.size | exact below_to (hcA.alloc hcA.size _) hbB (by have := hcA.size; simp; omega)); have hdB : Below wA.heap.size wA wB := (by first | exact hbB | exact below_to (below_alloc wA _) hbB (by simp)); (try first | (have KB := KA.below hbB) | (have KB : BoxAt wB wA.heap.size [.slice none 0 0, .slice none 0 0, .slice none 0 0] := (BoxAt.new wA _ _).below hbB)))
        | (go_at_call 32; refine (clone_any _ x2 (by have := HL2.out; omega) _ ?_).mono ?_; (exact HR2.out.below (by first | exact hT.trans (hcB.mono hT.size) | exact (hT.trans (hcB.mono hT.size)).alloc (by have := hT.size; have := hcB.size; omega) _)); rintro e wC ⟨vC, rfl, oC, hbC⟩; obtain ⟨gC, kC, rfl, -, -⟩ := oC.rd; have hcC : Below wr.heap.size wr wC := (by first | exact below_to hcB hbC hcB.size | exact below_to (hcB.alloc hcB.size _) hbC (by have := hcB.size; simp; omega)); have hdC : Below wB.heap.size wB wC := (by first | exact hbC | exact below_to (below_alloc wB _) hbC (by simp)); (try first | (have KC := KB.below hbC) | (have KC : BoxAt wC wB.heap.size [.slice none 0 0, .slice none 0 0, .slice none 0 0] := (BoxAt.new wB _ _).below hbC)); (try (have k0 := KC.cell 0 _ rfl; have k1 := KC.cell 1 _ rfl; have k2 := KC.cell 2 _ rfl; have k3 := KC.free 0; have k4 := KC.free 1; have k5 := KC.free 2))))
    all_goals (go_wp2_with fail)
    all_goals go_meet
    all_goals
      first
      | exact made_set (S := wr.heap.size) KC oA oB oC hdB hdC (by first | exact Nat.le_refl _ | (simp; done) | (simp; omega)) (by first | exact Nat.le_refl _ | (simp; done) | (simp; omega)) (by first | exact Nat.le_refl _ | (simp; done) | (simp; omega)) hcA.size hcC (Nat.le_refl _) (.inl ⟨by simp, KA.lt⟩)
      | exact made_set (S := wA.heap.size) KC oA oB oC hdB hdC (by first | exact Nat.le_refl _ | (simp; done) | (simp; omega)) (by first | exact Nat.le_refl _ | (simp; done) | (simp; omega)) (by first | exact Nat.le_refl _ | (simp; done) | (simp; omega)) hcA.size hcC (hcA.size) (.inr (.inl ⟨Nat.le_refl _, by simp, KB.lt⟩))
      | exact made_set (S := wB.heap.size) KC oA oB oC hdB hdC (by first | exact Nat.le_refl _ | (simp; done) | (simp; omega)) (by first | exact Nat.le_refl _ | (simp; done) | (simp; omega)) (by first | exact Nat.le_refl _ | (simp; done) | (simp; omega)) hcA.size hcC (hcB.size) (.inr (.inr ⟨Nat.le_refl _, by simp⟩))
      | exact made_last _ oA oB oC hdB hdC (by first | exact Nat.le_refl _ | (simp; done) | (simp; omega)) (by first | exact Nat.le_refl _ | (simp; done) | (simp; omega)) (by first | exact Nat.le_refl _ | (simp; done) | (simp; omega)) hcA.size hcC
  obtain ⟨w3, hwc⟩ : ∃ W, W = wc := ⟨_, rfl⟩
  subst hwc
  obtain ⟨S, ra, rb, rc, rfl, hM, hb, hS⟩ := hcut
  clear d0 d1 d2 hlt0
  have hB1l := B1.lt
  replace B1 := B1.below hb
  have hT' := below_to hT hb hT.size
  have hDz := hb.size
  have HM := Lib.hid (hM.base_ (b := w.heap.size + 2) hB1l)
  have hS1 : w.heap.size + 1 < S := by omega
  clear hb B0 hM hT hB1l hDz hS
  go_wp2
  go_loopw [36] (fun si wq => ∃ (i : Nat) (v0 v1 v2 : Value) (y0 y1 y2 : List Nat), i ≤ R ∧ si = .int .i64 i ∧ Hid (Cols wq (w.heap.size + 2) S [v0, v1, v2] [y0, y1, y2]) ∧ Hid (mixB y0 y1 y2 = true) ∧ Hid (fitN xs (R - i) y0 y1 y2 = fitN xs R x0 x1 x2) ∧ BoxAt wq (w.heap.size + 1) [.slice none 0 0, .slice none 0 0, .slice none 0 0] ∧ Below w.heap.size w wq) (fun si _ => R - (intOf si).toNat)
  case atStart => exact ⟨0, ra, rb, rc, x0, x1, x2, by omega, rfl, HM.out, HMX.out, rfl, B1, hT'⟩
  case round =>
    clear B1 hT' HM
    obtain ⟨i, v0, v1, v2, y0, y1, y2, hi, rfl, hC, hmx, hft, B1, hT⟩ := hrel
    obtain ⟨E0, q0, rfl, -, -⟩ := (hC.out.own 0 _ _ rfl rfl).rd
    obtain ⟨E1, q1, rfl, -, -⟩ := (hC.out.own 1 _ _ rfl rfl).rd
    obtain ⟨E2, q2, rfl, -, -⟩ := (hC.out.own 2 _ _ rfl rfl).rd
    have c0 := hC.out.box.cell 0 _ rfl
    have c1 := hC.out.box.cell 1 _ rfl
    have c2 := hC.out.box.cell 2 _ rfl
    by_cases hlt : i < R
    · go_wp2_with fail
      refine (fitRound_any _ y0 _ y1 _ y2 _ xs hmx.out HSX.out _ (hC.out.own 0 _ _ rfl rfl).rd (hC.out.own 1 _ _ rfl rfl).rd (hC.out.own 2 _ _ rfl rfl).rd (HR3.out.below hT)).mono ?_
      rintro e w5 ⟨F0, k0, F1, k1, F2, k2, z0, z1, z2, rfl, o0, o1, o2, ap, hz, hb5⟩
      have HO := Lib.hid (And.intro o0 (And.intro o1 (And.intro o2 (And.intro ap hz))))
      have hSz := hC.out.box.lt
      have hBw := B1.lt
      have hC5 := Lib.hid (hC.out.below hb5)
      have B15 := B1.below hb5
      have hT5 := below_to hT hb5 hT.size
      have hSz5 := hC5.out.box.lt
      have hBz5 := B15.lt
      have hR : R - i = (R - (i + 1)) + 1 := by omega
      have HRR := Lib.hid hR
      clear o0 o1 o2 ap hz c0 c1 c2 B1 hb5 hR
      cases hok : fOk y0 y1 y2 xs
      · have Ho : Hid (fitOk x0 x1 x2 xs (R : Int) = false) := Lib.hid (fit_f4 (by rw [Int.toNat_natCast, ← hft.out, HRR.out, fitN_no hok]))
        clear hok
        have c0 := B15.cell 0 _ rfl
        have c1 := B15.cell 1 _ rfl
        have c2 := B15.cell 2 _ rfl
        have f0 := B15.free 0
        have f1 := B15.free 1
        have f2 := B15.free 2
        have HT := Lib.hid hT5
        clear hT5 hT
        go_wp2
        refine bodyPost_ret (v := .tuple #[mxV (.slice none 0 0) (.slice none 0 0) (.slice none 0 0), .bool false]) (by simp [results, Try.results9, go_sem, *]) rfl ?_
        exact ret_fit_no Ho.out ((((HT.out.setCell (by simp) _).setCell (by simp) _).setCell (by simp) _).alloc (by simpa using HT.out.size) _)
      · have HOK := Lib.hid hok
        clear hok
        have c0 := hC5.out.box.cell 0 _ rfl
        have c1 := hC5.out.box.cell 1 _ rfl
        have c2 := hC5.out.box.cell 2 _ rfl
        have f0 := hC5.out.box.free 0
        have f1 := hC5.out.box.free 1
        have f2 := hC5.out.box.free 2
        have HT := Lib.hid hT5
        clear hT5 hT
        go_wp2
        go_roundw
        case rel =>
          obtain ⟨o0, o1, o2, ap, hz⟩ := HO.out
          obtain ⟨h0, h1, h2⟩ := hz HOK.out
          have hmA : mixAB (fVs y0 y1 y2 xs) (fMs y0 y1 y2 xs) (fSs y0 y1 y2 xs) = true := by
            have h := HOK.out
            unfold fOk at h
            rw [Bool.and_eq_true] at h
            exact h.2
          obtain ⟨e0, e1, e2, hm⟩ := fOk_words hmA h0 h1 h2
          have hCn : Cols (((w5.setCell ⟨S, 0, none⟩ (.slice F0 z0.length k0)).setCell ⟨S, 1, none⟩ (.slice F1 z1.length k1)).setCell ⟨S, 2, none⟩ (.slice F2 z2.length k2)) (w.heap.size + 2) S [.slice F0 z0.length k0, .slice F1 z1.length k1, .slice F2 z2.length k2] [z0, z1, z2] :=
            cols3_set hC5.out.box (o0.base_ (by omega)) (o1.base_ (by omega)) (o2.base_ (by omega)) (fun e => by have := (o0.lt _ e).1; omega) (fun e => by have := (o1.lt _ e).1; omega) (fun e => by have := (o2.lt _ e).1; omega) (ap 0 1 _ _ (by decide) rfl rfl) (ap 0 2 _ _ (by decide) rfl rfl) (ap 1 2 _ _ (by decide) rfl rfl)
          refine ⟨i + 1, _, _, _, z0, z1, z2, by omega, by go_num, hCn.below (below_alloc _ _), hm, ?_, (((B15.other (p := ⟨S, 0, none⟩) (by show S ≠ _; omega) _).other (p := ⟨S, 1, none⟩) (by show S ≠ _; omega) _).other (p := ⟨S, 2, none⟩) (by show S ≠ _; omega) _).alloc _, (((HT.out.setCell (p := ⟨S, 0, none⟩) (by show _ ≤ S; omega) _).setCell (p := ⟨S, 1, none⟩) (by show _ ≤ S; omega) _).setCell (p := ⟨S, 2, none⟩) (by show _ ≤ S; omega) _).alloc (by simpa using HT.out.size) _⟩
          unfold Hid
          rw [← hft.out, HRR.out, fitN_yes HOK.out, ← e0, ← e1, ← e2]
        case measure => simp [intOf]; omega
    · have hie : i = R := by omega
      subst hie
      have HOK := Lib.hid (fit_t HMX.out HSX.out HIN.out (show fitN xs ((i : Nat) : Int).toNat x0 x1 x2 = some (y0, y1, y2) by rw [Int.toNat_natCast, ← hft.out, Nat.sub_self]; rfl))
      have d0 := B1.cell 0 _ rfl
      have d1 := B1.cell 1 _ rfl
      have d2 := B1.cell 2 _ rfl
      have f0 := B1.free 0
      have f1 := B1.free 1
      have f2 := B1.free 2
      have HT := Lib.hid hT
      have HL := Lib.hid (mixB_len hmx.out)
      clear hT B1
      go_wp2
      refine bodyPost_ret (v := .tuple #[mxV (.slice E0 y0.length q0) (.slice E1 y1.length q1) (.slice E2 y2.length q2), .bool true]) (by simp [results, Try.results9, go_sem, *]) rfl ?_
      unfold RetFitMixture
      rw [HOK.out.1, HOK.out.2]
      have o0 := hC.out.own 0 _ _ rfl rfl
      have o1 := hC.out.own 1 _ _ rfl rfl
      have o2 := hC.out.own 2 _ _ rfl rfl
      have n0 : (Value.slice E0 y0.length q0).ownBlock ≠ some (w.heap.size + 1) := fun e => by have := (o0.lt _ e).1; omega
      have n1 : (Value.slice E1 y1.length q1).ownBlock ≠ some (w.heap.size + 1) := fun e => by have := (o1.lt _ e).1; omega
      have n2 : (Value.slice E2 y2.length q2).ownBlock ≠ some (w.heap.size + 1) := fun e => by have := (o2.lt _ e).1; omega
      obtain ⟨⟨_, l0⟩, l1, l2⟩ := HL.out
      exact ⟨_, y0, _, y1, _, y2, rfl, (Own.other (Own.other (Own.other o0 (p := ⟨w.heap.size + 1, 0, none⟩) n0 _) (p := ⟨w.heap.size + 1, 1, none⟩) n0 _) (p := ⟨w.heap.size + 1, 2, none⟩) n0 _).base_ (by omega), (Own.other (Own.other (Own.other o1 (p := ⟨w.heap.size + 1, 0, none⟩) n1 _) (p := ⟨w.heap.size + 1, 1, none⟩) n1 _) (p := ⟨w.heap.size + 1, 2, none⟩) n1 _).base_ (by omega), (Own.other (Own.other (Own.other o2 (p := ⟨w.heap.size + 1, 0, none⟩) n2 _) (p := ⟨w.heap.size + 1, 1, none⟩) n2 _) (p := ⟨w.heap.size + 1, 2, none⟩) n2 _).base_ (by omega),
        hC.out.ap 0 1 _ _ (by decide) rfl rfl, hC.out.ap 0 2 _ _ (by decide) rfl rfl, hC.out.ap 1 2 _ _ (by decide) rfl rfl, by omega, by omega, by omega, rfl, rfl, rfl, ((HT.out.setCell (by simp) _).setCell (by simp) _).setCell (by simp) _⟩
end Go.Proofs.Ytimpabceellihaa
