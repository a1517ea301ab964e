/-
  slices.partitionEqualOrdered at float32, for finite numbers.
  slices.partitionOrdered at float32, for finite numbers.
-/
import Derived.Test.YthdnelfggmlalaaPdqD
import Derived.Deep.DeepCutAuto
import Derived.Deep.CutBlock
namespace Go.Proofs.Ythdnelfggmlalaa
section
open Go.RowKit
attribute [local go_sem] run_store_float

/-- From a + 1 to i nothing is greater than p, from J on all is. -/
structure EqI (a b i J : Nat) (p : Nat) (ys : List Nat) : Prop where
  at_ : ys[a]? = some p
  lo : ∀ k x, a ≤ k → k < i → ys[k]? = some x → ltW p x = false
  hi : ∀ k x, J ≤ k → k < b → ys[k]? = some x → ltW p x = true
theorem EqI.more {a b i J p x : Nat} {ys : List Nat} (h : EqI a b i J p ys) (hx : ys[i]? = some x) (hl : ltW p x = false) : EqI a b (i + 1) J p ys :=
  ⟨h.at_, fun k u h1 h2 hu => by
    by_cases e : k = i
    · subst e
      rw [hx] at hu
      cases hu
      exact hl
    · exact h.lo k u h1 (by omega) hu, h.hi⟩
theorem EqI.less {a b i J p x : Nat} {ys : List Nat} (h : EqI a b i (J + 1) p ys) (hx : ys[J]? = some x) (hl : ltW p x = true) : EqI a b i J p ys :=
  ⟨h.at_, h.lo, fun k u h1 h2 hu => by
    by_cases e : k = J
    · subst e
      rw [hx] at hu
      cases hu
      exact hl
    · exact h.hi k u (by omega) h2 hu⟩
theorem EqI.swap {a b i J p x y : Nat} {ys : List Nat} (h : EqI a b i (J + 1) p ys) (hai : a < i) (hij : i < J) (hx : ys[i]? = some x) (hy : ys[J]? = some y) (hlx : ltW p x = true) (hly : ltW p y = false) : EqI a b (i + 1) J p (sw ys i J x y) := by
  refine ⟨by rw [sw_get hx hy, if_neg (by omega), if_neg (by omega)]; exact h.at_, fun k u h1 h2 hu => ?_, fun k u h1 h2 hu => ?_⟩
  · rw [sw_get hx hy, if_neg (by omega)] at hu
    by_cases e : k = i
    · rw [if_pos e] at hu
      cases hu
      exact hly
    · rw [if_neg e] at hu
      exact h.lo k u h1 (by omega) hu
  · rw [sw_get hx hy] at hu
    by_cases e : k = J
    · rw [if_pos e] at hu
      cases hu
      exact hlx
    · rw [if_neg e, if_neg (by omega)] at hu
      exact h.hi k u (by omega) h2 hu

def PartEqE (g n c a b pv : Nat) (xs : List Nat) (w : World) (e : Ending) (w' : World) : Prop :=
  ∃ (m p : Nat) (ys : List Nat), e = .returned (.int .i64 m) ∧ xs[pv]? = some p ∧ a < m ∧ m ≤ b ∧ RowF w' g n c ys ∧ PR a b xs ys ∧ (∀ k x, a ≤ k → k < m → ys[k]? = some x → ltW p x = false) ∧ (∀ k x, m ≤ k → k < b → ys[k]? = some x → ltW p x = true) ∧ Touch g (g + 1) w w'
set_option maxHeartbeats 3200000 in
set_option maxRecDepth 100000 in
theorem partEq_any (g n c a b pv : Nat) (xs : List Nat) (hap : a ≤ pv) (hpb : pv < b) (hb : b ≤ n) (hn : n ≤ 1000000) (hF : Fins xs) (w : World) (hr : RowF w g n c xs) :
    Calls Try.prog 112 #[.slice (some ⟨g, 0, none⟩) n c, .int .i64 a, .int .i64 b, .int .i64 pv] w (PartEqE g n c a b pv xs w) := by
  have HL := Lib.hid hr.len
  have HF := Lib.hid hF
  have HR := Lib.hid hr
  have hl := hr.len
  obtain ⟨x0, hx0⟩ := get_ex (xs := xs) (i := a) (by omega)
  obtain ⟨p, hp⟩ := get_ex (xs := xs) (i := pv) (by omega)
  have c0 : w.cell? ⟨g, a, none⟩ = some (fV x0) := hr.at hx0
  have c1 : w.cell? ⟨g, pv, none⟩ = some (fV p) := hr.at hp
  have f1 := hr.free a
  have f2 := hr.free pv
  have c3 : (w.setCell ⟨g, a, none⟩ (fV p)).cell? ⟨g, pv, none⟩ = some (fV p) := swap_cell_any hr hx0 hp
  have z0 : (0 : Int) ≤ (a : Int) := by omega
  have z1 : (a : Int) < (n : Int) := by omega
  have z2 : (0 : Int) ≤ (pv : Int) := by omega
  have z3 : (pv : Int) < (n : Int) := by omega
  have HS := Lib.hid (hr.sw a pv x0 p).drew
  have HP0 := Lib.hid (PR.sw (a := a) (b := b) hx0 hp (Nat.le_refl _) (by omega) hap hpb)
  have HPV := Lib.hid hp
  have HE0 : Hid (EqI a b (a + 1) b p (sw xs a pv x0 p)) := by
    have h0 : (sw xs a pv x0 p)[a]? = some p := by
      rw [sw_get hx0 hp]
      by_cases e : a = pv
      · subst e
        rw [hx0] at hp
        cases hp
        rw [if_pos rfl]
      · rw [if_neg e, if_pos rfl]
    refine ⟨h0, fun k u h1 h2 hu => ?_, fun k u h1 h2 => by omega⟩
    obtain rfl : k = a := by omega
    rw [h0] at hu
    cases hu
    exact ltW_less.irr _
  clear hF hr hl hx0 hp
  go_enter Try.func112, Try.ntmps112
  go_wp2
  go_region
  go_wp2_with fail
  have hT0 : Touch g (g + 1) w ((w.setCell ⟨g, a, none⟩ (fV p)).setCell ⟨g, pv, none⟩ (fV x0)).drew := (touch_swap w g a pv (fV p) (fV x0)).trans (touch_drewN (touch_refl _ _ _) 1)
  obtain ⟨w0, hw0⟩ : ∃ W, W = ((w.setCell ⟨g, a, none⟩ (fV p)).setCell ⟨g, pv, none⟩ (fV x0)).drew := ⟨_, rfl⟩
  have HS0 : Hid (RowF w0 g n c (sw xs a pv x0 p)) := by rw [hw0]; exact HS.out
  rw [← hw0] at hT0 ⊢
  clear hw0 c0 c1 c3 f1 f2 HS
  go_loopw [9, 10] (fun si sj wr => ∃ (i J : Nat) (jz : Int) (ys : List Nat), si = .int .i64 i ∧ sj = .int .i64 jz ∧ Hid (jz = (J : Int) - 1) ∧ a + 1 ≤ i ∧ i ≤ J ∧ J ≤ b ∧ Hid (PR a b xs ys) ∧ Hid (EqI a b i J p ys) ∧ RowF wr g n c ys ∧ Touch g (g + 1) w wr) (fun si _ _ => b + 1 - (intOf si).toNat)
  case atStart => exact ⟨a + 1, b, (b : Int) - 1, _, by go_num, by go_num, rfl, by omega, by omega, Nat.le_refl _, HP0.out, HE0.out, HS0.out, hT0⟩
  case round =>
    obtain ⟨i, J, jz, ys, rfl, rfl, HJ, hi0, hiJ, hJb, hp, hE, hR, hTo⟩ := hrel
    have HYL := Lib.hid (hp.out.len.trans HL.out)
    have HFY := Lib.hid (HF.out.perm hp.out.perm)
    go_upto_block 2 with fail
    go_cut [9] from 29 to 45 (fun si wx => ∃ i' : Nat, si = .int .i64 i' ∧ i ≤ i' ∧ i' ≤ J ∧ Hid (EqI a b i' J p ys) ∧ Hid (i' = J ∨ ∃ x, ys[i']? = some x ∧ ltW p x = true) ∧ RowF wx g n c ys ∧ Touch g (g + 1) w wx)
    case first =>
      go_wp2_with fail
      go_loopw [9] (fun si wr => ∃ i' : Nat, si = .int .i64 i' ∧ i ≤ i' ∧ i' ≤ J ∧ Hid (EqI a b i' J p ys) ∧ RowF wr g n c ys ∧ Touch g (g + 1) w wr) (fun si _ => J + 1 - (intOf si).toNat)
      case atStart => exact ⟨i, rfl, Nat.le_refl _, hiJ, hE, hR, hTo⟩
      case round =>
        clear hE hR hTo
        obtain ⟨i', rfl, hi1, hi2, hE, hR, hTo⟩ := hrel
        have HPA := Lib.hid hE.out.at_
        have HRY := Lib.hid hR
        by_cases hlt : i' < J
        · obtain ⟨x, hx⟩ := get_ex (xs := ys) (i := i') (by rw [HYL.out]; omega)
          have cA : wr.cell? ⟨g, a, none⟩ = some (fV p) := hR.at HPA.out
          have cX : wr.cell? ⟨g, i', none⟩ = some (fV x) := hR.at hx
          have HCL := Lib.hid (less_q (HFY.out.at HPA.out) (HFY.out.at hx) wr)
          have HX := Lib.hid hx
          have hg : decide ((i' : Int) ≤ jz) = true := decide_eq_true (by have := HJ.out; omega)
          have y0 : (0 : Int) ≤ (i' : Int) := by omega
          have y1 : (i' : Int) < (n : Int) := by omega
          clear hR hx
          cases hlc : ltW p x
          · have HLC := Lib.hid hlc
            go_wp2_with fail
            go_quiet (exact HCL.out _)
            go_wp2_with fail
            go_roundw
            case rel => exact ⟨i' + 1, by go_num, by omega, by omega, hE.out.more HX.out HLC.out, HRY.out.drewN _, touch_drewN hTo _⟩
            case measure => simp [intOf]; omega
          · have HLC := Lib.hid hlc
            go_wp2_with fail
            go_quiet (exact HCL.out _)
            go_wp2_with fail
            go_meet
            case rel => exact ⟨i', rfl, hi1, hi2, hE, .inr ⟨x, HX.out, HLC.out⟩, HRY.out.drewN _, touch_drewN hTo _⟩
        · have hg : decide ((i' : Int) ≤ jz) = false := decide_eq_false (by have := HJ.out; omega)
          clear hR
          go_wp2_with fail
          go_quiet (fail)
          go_wp2_with fail
          go_meet
          case rel => exact ⟨i', rfl, hi1, hi2, hE, .inl (by omega), HRY.out.drewN _, touch_drewN hTo _⟩
    obtain ⟨wI, hwc⟩ : ∃ W, W = wc := ⟨_, rfl⟩
    subst hwc
    clear hE hR hTo
    obtain ⟨i2, rfl, hi1', hiJ2, hE, hXi, hR, hTo⟩ := hcut
    go_upto_block 4 with fail
    go_cut [10] from 46 to 61 (fun sj wx => ∃ (J' : Nat) (jz' : Int), sj = .int .i64 jz' ∧ Hid (jz' = (J' : Int) - 1) ∧ i2 ≤ J' ∧ J' ≤ J ∧ Hid (EqI a b i2 J' p ys) ∧ Hid (i2 = J' ∨ ∃ x, ys[J' - 1]? = some x ∧ ltW p x = false) ∧ RowF wx g n c ys ∧ Touch g (g + 1) w wx)
    case first =>
      go_wp2_with fail
      go_loopw [10] (fun sj wr => ∃ (J' : Nat) (jz' : Int), sj = .int .i64 jz' ∧ Hid (jz' = (J' : Int) - 1) ∧ i2 ≤ J' ∧ J' ≤ J ∧ Hid (EqI a b i2 J' p ys) ∧ RowF wr g n c ys ∧ Touch g (g + 1) w wr) (fun sj _ => (intOf sj + 1).toNat)
      case atStart => exact ⟨J, jz, rfl, HJ, hiJ2, Nat.le_refl _, hE, hR, hTo⟩
      case round =>
        clear hE hR hTo
        obtain ⟨J', jz', rfl, hJz, hj1, hj2, hE, hR, hTo⟩ := hrel
        have HPA := Lib.hid hE.out.at_
        have HRY := Lib.hid hR
        by_cases hlt : i2 < J'
        · obtain ⟨j, rfl⟩ : ∃ j, J' = j + 1 := ⟨J' - 1, by omega⟩
          have hjz : jz' = (j : Int) := by have := hJz.out; omega
          clear hJz
          subst hjz
          obtain ⟨x, hx⟩ := get_ex (xs := ys) (i := j) (by rw [HYL.out]; omega)
          have cA : wr.cell? ⟨g, a, none⟩ = some (fV p) := hR.at HPA.out
          have cX : wr.cell? ⟨g, j, none⟩ = some (fV x) := hR.at hx
          have HCL := Lib.hid (less_q (HFY.out.at HPA.out) (HFY.out.at hx) wr)
          have HX := Lib.hid hx
          have hg : decide ((i2 : Int) ≤ (j : Int)) = true := decide_eq_true (by omega)
          have hg' : decide (i2 ≤ j) = true := decide_eq_true (by omega)
          have y0 : (0 : Int) ≤ (j : Int) := by omega
          have y1 : (j : Int) < (n : Int) := by omega
          clear hR hx
          cases hlc : ltW p x
          · have HLC := Lib.hid hlc
            go_wp2_with fail
            go_quiet (exact HCL.out _)
            go_wp2_with fail
            go_meet
            case rel => exact ⟨j + 1, (j : Int), rfl, by unfold Hid; omega, by omega, by omega, hE, .inr ⟨x, by rw [Nat.add_sub_cancel]; exact HX.out, HLC.out⟩, HRY.out.drewN _, touch_drewN hTo _⟩
          · have HLC := Lib.hid hlc
            go_wp2_with fail
            go_quiet (exact HCL.out _)
            go_wp2_with fail
            go_roundw
            case rel => exact ⟨j, (j : Int) - 1, by go_num, rfl, by omega, by omega, hE.out.less HX.out HLC.out, HRY.out.drewN _, touch_drewN hTo _⟩
            case measure => first | (simp [intOf]; done) | (simp [intOf]; omega)
        · have hg : decide ((i2 : Int) ≤ jz') = false := decide_eq_false (by have := hJz.out; omega)
          clear hR
          go_wp2_with fail
          go_quiet (fail)
          go_wp2_with fail
          go_meet
          case rel => exact ⟨J', jz', rfl, hJz, hj1, hj2, hE, .inl (by omega), HRY.out.drewN _, touch_drewN hTo _⟩
    obtain ⟨wJ, hwc⟩ : ∃ W, W = wc := ⟨_, rfl⟩
    subst hwc
    clear hE hR hTo
    obtain ⟨J2, jz2, rfl, HJ2, hj1', hJ2J, hE, hXj, hR, hTo⟩ := hcut
    by_cases hend : i2 = J2
    · have hgt : (i2 : Int) > jz2 := by have := HJ2.out; omega
      have HRY := Lib.hid hR
      subst hend
      clear hR
      go_wp2
      go_ret
      exact ⟨i2, p, ys, rfl, HPV.out, by omega, by omega, HRY.out, hp.out, hE.out.lo, hE.out.hi, hTo⟩
    · have hlt2 : i2 < J2 := by omega
      have HYL2 := HYL.out
      obtain ⟨j, rfl⟩ : ∃ j, J2 = j + 1 := ⟨J2 - 1, by omega⟩
      have hjz2 : jz2 = (j : Int) := by have := HJ2.out; omega
      clear HJ2
      subst hjz2
      obtain ⟨x, hx, hlx⟩ : ∃ x, ys[i2]? = some x ∧ ltW p x = true := by
        rcases hXi.out with h | h
        · omega
        · exact h
      obtain ⟨y, hy, hly⟩ : ∃ y, ys[j]? = some y ∧ ltW p y = false := by
        rcases hXj.out with h | h
        · omega
        · rw [Nat.add_sub_cancel] at h; exact h
      have hij : i2 ≠ j := fun e => by
        subst e
        rw [hx] at hy
        cases hy
        rw [hlx] at hly
        cases hly
      have cX : wJ.cell? ⟨g, i2, none⟩ = some (fV x) := hR.at hx
      have cY : wJ.cell? ⟨g, j, none⟩ = some (fV y) := hR.at hy
      have f1 := hR.free i2
      have f2 := hR.free j
      have c3 : (wJ.setCell ⟨g, i2, none⟩ (fV y)).cell? ⟨g, j, none⟩ = some (fV y) := swap_cell hR (fun e => hij e.symm) hy
      have y0 : (0 : Int) ≤ (i2 : Int) := by omega
      have y1 : (i2 : Int) < (n : Int) := by omega
      have y2 : (0 : Int) ≤ (j : Int) := by omega
      have y3 : (j : Int) < (n : Int) := by omega
      have HS := Lib.hid (hR.sw i2 j x y).drew
      have HPS := Lib.hid (hp.out.trans (PR.sw (a := a) (b := b) hx hy (by omega) (by omega) (by omega) (by omega)))
      have HES := Lib.hid (hE.out.swap (by omega) (by omega) hx hy hlx hly)
      have HTS : Hid (Touch g (g + 1) w ((wJ.setCell ⟨g, i2, none⟩ (fV y)).setCell ⟨g, j, none⟩ (fV x)).drew) := hTo.trans ((touch_swap wJ g i2 j (fV y) (fV x)).trans (touch_drewN (touch_refl _ _ _) 1))
      have hgt : ¬ (i2 : Int) > (j : Int) := by omega
      clear hR hx hy hlx hly hXi hXj HYL2
      go_wp2_with fail
      go_region
      go_wp2_with fail
      go_roundw
      case rel => exact ⟨i2 + 1, j, (j : Int) - 1, _, by go_num, by go_num, rfl, by omega, by omega, by omega, HPS.out, HES.out, HS.out, HTS.out⟩
      case measure => simp [intOf]; omega
end

section
open Go.RowKit
attribute [local go_sem] run_store_float

/-- From a + 1 to i all is less than p, from J on nothing is. -/
structure PtI (a b i J : Nat) (p : Nat) (ys : List Nat) : Prop where
  at_ : ys[a]? = some p
  lo : ∀ k x, a < k → k < i → ys[k]? = some x → ltW x p = true
  hi : ∀ k x, J ≤ k → k < b → ys[k]? = some x → ltW x p = false
theorem PtI.more {a b i J p x : Nat} {ys : List Nat} (h : PtI a b i J p ys) (hx : ys[i]? = some x) (hl : ltW x p = true) : PtI a b (i + 1) J p ys :=
  ⟨h.at_, fun k u h1 h2 hu => by
    by_cases e : k = i
    · subst e
      rw [hx] at hu
      cases hu
      exact hl
    · exact h.lo k u h1 (by omega) hu, h.hi⟩
theorem PtI.less {a b i J p x : Nat} {ys : List Nat} (h : PtI a b i (J + 1) p ys) (hx : ys[J]? = some x) (hl : ltW x p = false) : PtI a b i J p ys :=
  ⟨h.at_, h.lo, fun k u h1 h2 hu => by
    by_cases e : k = J
    · subst e
      rw [hx] at hu
      cases hu
      exact hl
    · exact h.hi k u (by omega) h2 hu⟩
theorem PtI.swap {a b i J p x y : Nat} {ys : List Nat} (h : PtI a b i (J + 1) p ys) (hai : a < i) (hij : i < J) (hx : ys[i]? = some x) (hy : ys[J]? = some y) (hlx : ltW x p = false) (hly : ltW y p = true) : PtI a b (i + 1) J p (sw ys i J x y) := by
  refine ⟨by rw [sw_get hx hy, if_neg (by omega), if_neg (by omega)]; exact h.at_, fun k u h1 h2 hu => ?_, fun k u h1 h2 hu => ?_⟩
  · rw [sw_get hx hy, if_neg (by omega)] at hu
    by_cases e : k = i
    · rw [if_pos e] at hu
      cases hu
      exact hly
    · rw [if_neg e] at hu
      exact h.lo k u h1 (by omega) hu
  · rw [sw_get hx hy] at hu
    by_cases e : k = J
    · rw [if_pos e] at hu
      cases hu
      exact hlx
    · rw [if_neg e, if_neg (by omega)] at hu
      exact h.hi k u (by omega) h2 hu
theorem PtI.fin {a b m p x : Nat} {ys : List Nat} (h : PtI a b (m + 1) (m + 1) p ys) (ham : a ≤ m) (hx : ys[m]? = some x) : Part ltW a b m (sw ys m a x p) p := by
  refine ⟨?_, fun k u h1 h2 hu => ?_, fun k u h1 h2 hu => ?_⟩
  · rw [sw_get hx h.at_]
    by_cases e : m = a
    · subst e
      rw [if_pos rfl, ← hx]
      exact h.at_
    · rw [if_neg e, if_pos rfl]
  · rw [sw_get hx h.at_] at hu
    by_cases e : k = a
    · rw [if_pos e] at hu
      cases hu
      exact ltW_less.asym _ _ (h.lo m x (by omega) (by omega) hx)
    · rw [if_neg e, if_neg (by omega)] at hu
      exact ltW_less.asym _ _ (h.lo k u (by omega) (by omega) hu)
  · rw [sw_get hx h.at_, if_neg (by omega), if_neg (by omega)] at hu
    exact h.hi k u (by omega) h2 hu

def PartE (g n c a b _pv : Nat) (xs : List Nat) (w : World) (e : Ending) (w' : World) : Prop :=
  ∃ (m p : Nat) (t : Bool) (ys : List Nat), e = .returned (.tuple #[.int .i64 m, .bool t]) ∧ a ≤ m ∧ m < b ∧ RowF w' g n c ys ∧ PR a b xs ys ∧ Part ltW a b m ys p ∧ Touch g (g + 1) w w'
set_option maxHeartbeats 6400000 in
set_option maxRecDepth 100000 in
theorem part_any (g n c a b pv : Nat) (xs : List Nat) (hap : a ≤ pv) (hpb : pv < b) (hb : b ≤ n) (hn : n ≤ 1000000) (hF : Fins xs) (w : World) (hr : RowF w g n c xs) :
    Calls Try.prog 113 #[.slice (some ⟨g, 0, none⟩) n c, .int .i64 a, .int .i64 b, .int .i64 pv] w (PartE g n c a b pv xs w) := by
  have HL := Lib.hid hr.len
  have HF := Lib.hid hF
  have HR := Lib.hid hr
  have hl := hr.len
  obtain ⟨x0, hx0⟩ := get_ex (xs := xs) (i := a) (by omega)
  obtain ⟨p, hp⟩ := get_ex (xs := xs) (i := pv) (by omega)
  have c0 : w.cell? ⟨g, a, none⟩ = some (fV x0) := hr.at hx0
  have c1 : w.cell? ⟨g, pv, none⟩ = some (fV p) := hr.at hp
  have f1 := hr.free a
  have f2 := hr.free pv
  have c3 : (w.setCell ⟨g, a, none⟩ (fV p)).cell? ⟨g, pv, none⟩ = some (fV p) := swap_cell_any hr hx0 hp
  have z0 : (0 : Int) ≤ (a : Int) := by omega
  have z1 : (a : Int) < (n : Int) := by omega
  have z2 : (0 : Int) ≤ (pv : Int) := by omega
  have z3 : (pv : Int) < (n : Int) := by omega
  have HS := Lib.hid (hr.sw a pv x0 p).drew
  have HP0 := Lib.hid (PR.sw (a := a) (b := b) hx0 hp (Nat.le_refl _) (by omega) hap hpb)
  have h0 : (sw xs a pv x0 p)[a]? = some p := by
    rw [sw_get hx0 hp]
    by_cases e : a = pv
    · subst e
      rw [hx0] at hp
      cases hp
      rw [if_pos rfl]
    · rw [if_neg e, if_pos rfl]
  have HE0 : Hid (PtI a b (a + 1) b p (sw xs a pv x0 p)) := ⟨h0, fun k u h1 h2 hu => by omega, fun k u h1 h2 => by omega⟩
  obtain ⟨i, hi⟩ : ∃ i, i = a + 1 := ⟨_, rfl⟩
  obtain ⟨J, hJ⟩ : ∃ J, J = b := ⟨_, rfl⟩
  obtain ⟨jz, hjz⟩ : ∃ jz : Int, jz = (b : Int) - 1 := ⟨_, rfl⟩
  have e1 : (a : Int) + 1 = (i : Int) := by omega
  have e2 : (b : Int) - 1 = jz := hjz.symm
  have e3 : IntKind.i64.wrap jz = jz := IntWalk.i64_in _ (by omega)
  have HJ : Hid (jz = (J : Int) - 1) := by unfold Hid; omega
  have hi0 : a + 1 ≤ i := by omega
  have hiJ : i ≤ J := by omega
  have hJb : J ≤ b := by omega
  have hE : Hid (PtI a b i J p (sw xs a pv x0 p)) := by rw [hi, hJ]; exact HE0
  clear hF hr hl hx0 hp h0 HE0 hi hJ hjz
  go_enter Try.func113, Try.ntmps113
  go_wp2
  go_region
  have hTo : Touch g (g + 1) w ((w.setCell ⟨g, a, none⟩ (fV p)).setCell ⟨g, pv, none⟩ (fV x0)).drew := (touch_swap w g a pv (fV p) (fV x0)).trans (touch_drewN (touch_refl _ _ _) 1)
  obtain ⟨w0, hw0⟩ : ∃ W, W = ((w.setCell ⟨g, a, none⟩ (fV p)).setCell ⟨g, pv, none⟩ (fV x0)).drew := ⟨_, rfl⟩
  have hR : RowF w0 g n c (sw xs a pv x0 p) := by rw [hw0]; exact HS.out
  rw [← hw0] at hTo ⊢
  clear hw0 c0 c1 c3 f1 f2 HS
  obtain ⟨ys, hys⟩ : ∃ ys, ys = sw xs a pv x0 p := ⟨_, rfl⟩
  rw [← hys] at hE hR HP0
  clear hys
  have hp := HP0
  have HYL := Lib.hid (hp.out.len.trans HL.out)
  have HFY := Lib.hid (HF.out.perm hp.out.perm)
  go_upto_block 0 with fail
  go_cut [10] from 30 to 45 (fun si wx => ∃ i' : Nat, si = .int .i64 i' ∧ i ≤ i' ∧ i' ≤ J ∧ Hid (PtI a b i' J p ys) ∧ Hid (i' = J ∨ ∃ x, ys[i']? = some x ∧ ltW x p = false) ∧ RowF wx g n c ys ∧ Touch g (g + 1) w wx)
  case first =>
    go_wp2_with fail
    go_loopw [10] (fun si wr => ∃ i' : Nat, si = .int .i64 i' ∧ i ≤ i' ∧ i' ≤ J ∧ Hid (PtI a b i' J p ys) ∧ RowF wr g n c ys ∧ Touch g (g + 1) w wr) (fun si _ => J + 1 - (intOf si).toNat)
    case atStart => exact ⟨i, rfl, Nat.le_refl _, hiJ, hE, hR, hTo⟩
    case round =>
      clear hE hR hTo
      obtain ⟨i', rfl, hi1, hi2, hE, hR, hTo⟩ := hrel
      have HPA := Lib.hid hE.out.at_
      have HRY := Lib.hid hR
      by_cases hlt : i' < J
      · obtain ⟨x, hx⟩ := get_ex (xs := ys) (i := i') (by rw [HYL.out]; omega)
        have cA : wr.cell? ⟨g, a, none⟩ = some (fV p) := hR.at HPA.out
        have cX : wr.cell? ⟨g, i', none⟩ = some (fV x) := hR.at hx
        have HCL := Lib.hid (less_q (HFY.out.at hx) (HFY.out.at HPA.out) wr)
        have HX := Lib.hid hx
        have hg : decide ((i' : Int) ≤ jz) = true := decide_eq_true (by have := HJ.out; omega)
        have y0 : (0 : Int) ≤ (i' : Int) := by omega
        have y1 : (i' : Int) < (n : Int) := by omega
        clear hR hx
        cases hlc : ltW x p
        · have HLC := Lib.hid hlc
          go_wp2_with fail
          go_quiet (exact HCL.out _)
          go_wp2_with fail
          go_meet
          case rel => exact ⟨i', rfl, hi1, hi2, hE, .inr ⟨x, HX.out, HLC.out⟩, HRY.out.drewN _, touch_drewN hTo _⟩
        · have HLC := Lib.hid hlc
          go_wp2_with fail
          go_quiet (exact HCL.out _)
          go_wp2_with fail
          go_roundw
          case rel => exact ⟨i' + 1, by go_num, by omega, by omega, hE.out.more HX.out HLC.out, HRY.out.drewN _, touch_drewN hTo _⟩
          case measure => simp [intOf]; omega
      · have hg : decide ((i' : Int) ≤ jz) = false := decide_eq_false (by have := HJ.out; omega)
        clear hR
        go_wp2_with fail
        go_quiet (fail)
        go_wp2_with fail
        go_meet
        case rel => exact ⟨i', rfl, hi1, hi2, hE, .inl (by omega), HRY.out.drewN _, touch_drewN hTo _⟩
  obtain ⟨wI, hwc⟩ : ∃ W, W = wc := ⟨_, rfl⟩
  subst hwc
  clear hE hR hTo
  obtain ⟨i2, rfl, hi1', hiJ2, hE, hXi, hR, hTo⟩ := hcut

  go_upto_block 2 with fail
  go_cut [11] from 46 to 62 (fun sj wx => ∃ (J' : Nat) (jz' : Int), sj = .int .i64 jz' ∧ Hid (jz' = (J' : Int) - 1) ∧ i2 ≤ J' ∧ J' ≤ J ∧ Hid (PtI a b i2 J' p ys) ∧ Hid (i2 = J' ∨ ∃ x, ys[J' - 1]? = some x ∧ ltW x p = true) ∧ RowF wx g n c ys ∧ Touch g (g + 1) w wx)
  case first =>
    go_wp2_with fail
    go_loopw [11] (fun sj wr => ∃ (J' : Nat) (jz' : Int), sj = .int .i64 jz' ∧ Hid (jz' = (J' : Int) - 1) ∧ i2 ≤ J' ∧ J' ≤ J ∧ Hid (PtI a b i2 J' p ys) ∧ RowF wr g n c ys ∧ Touch g (g + 1) w wr) (fun sj _ => (intOf sj + 1).toNat)
    case atStart => exact ⟨J, jz, rfl, HJ, hiJ2, Nat.le_refl _, hE, hR, hTo⟩
    case round =>
      clear hE hR hTo
      obtain ⟨J', jz', rfl, hJz, hj1, hj2, hE, hR, hTo⟩ := hrel
      have HPA := Lib.hid hE.out.at_
      have HRY := Lib.hid hR
      by_cases hlt : i2 < J'
      · obtain ⟨j, rfl⟩ : ∃ j, J' = j + 1 := ⟨J' - 1, by omega⟩
        have hjz : jz' = (j : Int) := by have := hJz.out; omega
        clear hJz
        subst hjz
        obtain ⟨x, hx⟩ := get_ex (xs := ys) (i := j) (by rw [HYL.out]; omega)
        have cA : wr.cell? ⟨g, a, none⟩ = some (fV p) := hR.at HPA.out
        have cX : wr.cell? ⟨g, j, none⟩ = some (fV x) := hR.at hx
        have HCL := Lib.hid (less_q (HFY.out.at hx) (HFY.out.at HPA.out) wr)
        have HX := Lib.hid hx
        have hg : decide ((i2 : Int) ≤ (j : Int)) = true := decide_eq_true (by omega)
        have hg' : decide (i2 ≤ j) = true := decide_eq_true (by omega)
        have y0 : (0 : Int) ≤ (j : Int) := by omega
        have y1 : (j : Int) < (n : Int) := by omega
        clear hR hx
        cases hlc : ltW x p
        · have HLC := Lib.hid hlc
          go_wp2_with fail
          go_quiet (exact HCL.out _)
          go_wp2_with fail
          go_roundw
          case rel => exact ⟨j, (j : Int) - 1, by go_num, rfl, by omega, by omega, hE.out.less HX.out HLC.out, HRY.out.drewN _, touch_drewN hTo _⟩
          case measure => first | (simp [intOf]; done) | (simp [intOf]; omega)
        · have HLC := Lib.hid hlc
          go_wp2_with fail
          go_quiet (exact HCL.out _)
          go_wp2_with fail
          go_meet
          case rel => exact ⟨j + 1, (j : Int), rfl, by unfold Hid; omega, by omega, by omega, hE, .inr ⟨x, by rw [Nat.add_sub_cancel]; exact HX.out, HLC.out⟩, HRY.out.drewN _, touch_drewN hTo _⟩
      · have hg : decide ((i2 : Int) ≤ jz') = false := decide_eq_false (by have := hJz.out; omega)
        clear hR
        go_wp2_with fail
        go_quiet (fail)
        go_wp2_with fail
        go_meet
        case rel => exact ⟨J', jz', rfl, hJz, hj1, hj2, hE, .inl (by omega), HRY.out.drewN _, touch_drewN hTo _⟩
  obtain ⟨wJ, hwc⟩ : ∃ W, W = wc := ⟨_, rfl⟩
  subst hwc
  clear hE hR hTo
  obtain ⟨J2, jz2, rfl, HJ2, hj1', hJ2J, hE, hXj, hR, hTo⟩ := hcut

  by_cases hend : i2 = J2
  · obtain ⟨m, rfl⟩ : ∃ m, J2 = m + 1 := ⟨J2 - 1, by omega⟩
    have hjz2 : jz2 = (m : Int) := by have := HJ2.out; omega
    clear HJ2
    subst hjz2
    subst hend
    have ham : a ≤ m := by omega
    obtain ⟨x, hx⟩ := get_ex (xs := ys) (i := m) (by rw [HYL.out]; omega)
    have hpa := hE.out.at_
    have cX : wJ.cell? ⟨g, m, none⟩ = some (fV x) := hR.at hx
    have cA : wJ.cell? ⟨g, a, none⟩ = some (fV p) := hR.at hpa
    have f1 := hR.free m
    have f2 := hR.free a
    have c3 : (wJ.setCell ⟨g, m, none⟩ (fV p)).cell? ⟨g, a, none⟩ = some (fV p) := swap_cell_any hR hx hpa
    have y0 : (0 : Int) ≤ (m : Int) := by omega
    have y1 : (m : Int) < (n : Int) := by omega
    have hgt : ((m + 1 : Nat) : Int) > (m : Int) := by omega
    have HSF := Lib.hid (hR.sw m a x p).drew
    have HPF := Lib.hid (hp.out.trans (PR.sw (a := a) (b := b) hx hpa ham (by omega) (Nat.le_refl _) (by omega)))
    have HEF := Lib.hid (hE.out.fin ham hx)
    have HTF := Lib.hid (hTo.trans ((touch_swap wJ g m a (fV p) (fV x)).trans (touch_drewN (touch_refl _ _ _) 1)))
    clear hR hx hpa hXi hXj
    go_wp2_with fail
    go_region
    go_wp2
    go_ret2
    exact ⟨m, p, true, _, rfl, ham, by omega, HSF.out, HPF.out, HEF.out, HTF.out⟩
  have hlt2 : i2 < J2 := by omega

  have HYL2 := HYL.out
  obtain ⟨j, rfl⟩ : ∃ j, J2 = j + 1 := ⟨J2 - 1, by omega⟩
  have hjz2 : jz2 = (j : Int) := by have := HJ2.out; omega
  clear HJ2
  subst hjz2
  obtain ⟨x, hx, hlx⟩ : ∃ x, ys[i2]? = some x ∧ ltW x p = false := by
    rcases hXi.out with h | h
    · omega
    · exact h
  obtain ⟨y, hy, hly⟩ : ∃ y, ys[j]? = some y ∧ ltW y p = true := by
    rcases hXj.out with h | h
    · omega
    · rw [Nat.add_sub_cancel] at h; exact h
  have hij : i2 ≠ j := fun e => by
    subst e
    rw [hx] at hy
    cases hy
    rw [hlx] at hly
    cases hly
  have cX : wJ.cell? ⟨g, i2, none⟩ = some (fV x) := hR.at hx
  have cY : wJ.cell? ⟨g, j, none⟩ = some (fV y) := hR.at hy
  have f1 := hR.free i2
  have f2 := hR.free j
  have c3 : (wJ.setCell ⟨g, i2, none⟩ (fV y)).cell? ⟨g, j, none⟩ = some (fV y) := swap_cell hR (fun e => hij e.symm) hy
  have y0 : (0 : Int) ≤ (i2 : Int) := by omega
  have y1 : (i2 : Int) < (n : Int) := by omega
  have y2 : (0 : Int) ≤ (j : Int) := by omega
  have y3 : (j : Int) < (n : Int) := by omega
  have HS := Lib.hid (hR.sw i2 j x y).drew
  have HPS := Lib.hid (hp.out.trans (PR.sw (a := a) (b := b) hx hy (by omega) (by omega) (by omega) (by omega)))
  have HES := Lib.hid (hE.out.swap (by omega) (by omega) hx hy hlx hly)
  have HTS : Hid (Touch g (g + 1) w ((wJ.setCell ⟨g, i2, none⟩ (fV y)).setCell ⟨g, j, none⟩ (fV x)).drew) := hTo.trans ((touch_swap wJ g i2 j (fV y) (fV x)).trans (touch_drewN (touch_refl _ _ _) 1))
  have hgt : ¬ (i2 : Int) > (j : Int) := by omega
  clear hR hx hy hlx hly hXi hXj HYL2
  go_wp2_with fail
  go_region
  go_wp2_with fail
  obtain ⟨w6, hw6⟩ : ∃ W, W = ((wJ.setCell ⟨g, i2, none⟩ (fV y)).setCell ⟨g, j, none⟩ (fV x)).drew := ⟨_, rfl⟩
  rw [← hw6] at HS HTS ⊢
  clear hw6 cX cY c3 f1 f2
  go_loopw [10, 11] (fun si sj wr => ∃ (i J : Nat) (jz : Int) (ys : List Nat), si = .int .i64 i ∧ sj = .int .i64 jz ∧ Hid (jz = (J : Int) - 1) ∧ a + 1 ≤ i ∧ i ≤ J ∧ J ≤ b ∧ Hid (PR a b xs ys) ∧ Hid (PtI a b i J p ys) ∧ RowF wr g n c ys ∧ Touch g (g + 1) w wr) (fun si _ _ => b + 1 - (intOf si).toNat)
  case atStart => exact ⟨i2 + 1, j, (j : Int) - 1, _, by go_num, by go_num, rfl, by omega, by omega, by omega, HPS.out, HES.out, HS.out, HTS.out⟩
  case round =>
    clear hp hE HYL HFY HS HPS HES HTS HJ hi0 hiJ hJb e1 e2 e3
    obtain ⟨i, J, jz, ys, rfl, rfl, HJ, hi0, hiJ, hJb, hp, hE, hR, hTo⟩ := hrel
    have HYL := Lib.hid (hp.out.len.trans HL.out)
    have HFY := Lib.hid (HF.out.perm hp.out.perm)
    go_upto_block 6 with fail
    go_cut [10] from 99 to 114 (fun si wx => ∃ i' : Nat, si = .int .i64 i' ∧ i ≤ i' ∧ i' ≤ J ∧ Hid (PtI a b i' J p ys) ∧ Hid (i' = J ∨ ∃ x, ys[i']? = some x ∧ ltW x p = false) ∧ RowF wx g n c ys ∧ Touch g (g + 1) w wx)
    case first =>
      go_wp2_with fail
      go_loopw [10] (fun si wr => ∃ i' : Nat, si = .int .i64 i' ∧ i ≤ i' ∧ i' ≤ J ∧ Hid (PtI a b i' J p ys) ∧ RowF wr g n c ys ∧ Touch g (g + 1) w wr) (fun si _ => J + 1 - (intOf si).toNat)
      case atStart => exact ⟨i, rfl, Nat.le_refl _, hiJ, hE, hR, hTo⟩
      case round =>
        clear hE hR hTo
        obtain ⟨i', rfl, hi1, hi2, hE, hR, hTo⟩ := hrel
        have HPA := Lib.hid hE.out.at_
        have HRY := Lib.hid hR
        by_cases hlt : i' < J
        · obtain ⟨x, hx⟩ := get_ex (xs := ys) (i := i') (by rw [HYL.out]; omega)
          have cA : wr.cell? ⟨g, a, none⟩ = some (fV p) := hR.at HPA.out
          have cX : wr.cell? ⟨g, i', none⟩ = some (fV x) := hR.at hx
          have HCL := Lib.hid (less_q (HFY.out.at hx) (HFY.out.at HPA.out) wr)
          have HX := Lib.hid hx
          have hg : decide ((i' : Int) ≤ jz) = true := decide_eq_true (by have := HJ.out; omega)
          have y0 : (0 : Int) ≤ (i' : Int) := by omega
          have y1 : (i' : Int) < (n : Int) := by omega
          clear hR hx
          cases hlc : ltW x p
          · have HLC := Lib.hid hlc
            go_wp2_with fail
            go_quiet (exact HCL.out _)
            go_wp2_with fail
            go_meet
            case rel => exact ⟨i', rfl, hi1, hi2, hE, .inr ⟨x, HX.out, HLC.out⟩, HRY.out.drewN _, touch_drewN hTo _⟩
          · have HLC := Lib.hid hlc
            go_wp2_with fail
            go_quiet (exact HCL.out _)
            go_wp2_with fail
            go_roundw
            case rel => exact ⟨i' + 1, by go_num, by omega, by omega, hE.out.more HX.out HLC.out, HRY.out.drewN _, touch_drewN hTo _⟩
            case measure => simp [intOf]; omega
        · have hg : decide ((i' : Int) ≤ jz) = false := decide_eq_false (by have := HJ.out; omega)
          clear hR
          go_wp2_with fail
          go_quiet (fail)
          go_wp2_with fail
          go_meet
          case rel => exact ⟨i', rfl, hi1, hi2, hE, .inl (by omega), HRY.out.drewN _, touch_drewN hTo _⟩
    obtain ⟨wI, hwc⟩ : ∃ W, W = wc := ⟨_, rfl⟩
    subst hwc
    clear hE hR hTo
    obtain ⟨i2, rfl, hi1', hiJ2, hE, hXi, hR, hTo⟩ := hcut
    go_upto_block 8 with fail
    go_cut [11] from 115 to 131 (fun sj wx => ∃ (J' : Nat) (jz' : Int), sj = .int .i64 jz' ∧ Hid (jz' = (J' : Int) - 1) ∧ i2 ≤ J' ∧ J' ≤ J ∧ Hid (PtI a b i2 J' p ys) ∧ Hid (i2 = J' ∨ ∃ x, ys[J' - 1]? = some x ∧ ltW x p = true) ∧ RowF wx g n c ys ∧ Touch g (g + 1) w wx)
    case first =>
      go_wp2_with fail
      go_loopw [11] (fun sj wr => ∃ (J' : Nat) (jz' : Int), sj = .int .i64 jz' ∧ Hid (jz' = (J' : Int) - 1) ∧ i2 ≤ J' ∧ J' ≤ J ∧ Hid (PtI a b i2 J' p ys) ∧ RowF wr g n c ys ∧ Touch g (g + 1) w wr) (fun sj _ => (intOf sj + 1).toNat)
      case atStart => exact ⟨J, jz, rfl, HJ, hiJ2, Nat.le_refl _, hE, hR, hTo⟩
      case round =>
        clear hE hR hTo
        obtain ⟨J', jz', rfl, hJz, hj1, hj2, hE, hR, hTo⟩ := hrel
        have HPA := Lib.hid hE.out.at_
        have HRY := Lib.hid hR
        by_cases hlt : i2 < J'
        · obtain ⟨j, rfl⟩ : ∃ j, J' = j + 1 := ⟨J' - 1, by omega⟩
          have hjz : jz' = (j : Int) := by have := hJz.out; omega
          clear hJz
          subst hjz
          obtain ⟨x, hx⟩ := get_ex (xs := ys) (i := j) (by rw [HYL.out]; omega)
          have cA : wr.cell? ⟨g, a, none⟩ = some (fV p) := hR.at HPA.out
          have cX : wr.cell? ⟨g, j, none⟩ = some (fV x) := hR.at hx
          have HCL := Lib.hid (less_q (HFY.out.at hx) (HFY.out.at HPA.out) wr)
          have HX := Lib.hid hx
          have hg : decide ((i2 : Int) ≤ (j : Int)) = true := decide_eq_true (by omega)
          have hg' : decide (i2 ≤ j) = true := decide_eq_true (by omega)
          have y0 : (0 : Int) ≤ (j : Int) := by omega
          have y1 : (j : Int) < (n : Int) := by omega
          clear hR hx
          cases hlc : ltW x p
          · have HLC := Lib.hid hlc
            go_wp2_with fail
            go_quiet (exact HCL.out _)
            go_wp2_with fail
            go_roundw
            case rel => exact ⟨j, (j : Int) - 1, by go_num, rfl, by omega, by omega, hE.out.less HX.out HLC.out, HRY.out.drewN _, touch_drewN hTo _⟩
            case measure => first | (simp [intOf]; done) | (simp [intOf]; omega)
          · have HLC := Lib.hid hlc
            go_wp2_with fail
            go_quiet (exact HCL.out _)
            go_wp2_with fail
            go_meet
            case rel => exact ⟨j + 1, (j : Int), rfl, by unfold Hid; omega, by omega, by omega, hE, .inr ⟨x, by rw [Nat.add_sub_cancel]; exact HX.out, HLC.out⟩, HRY.out.drewN _, touch_drewN hTo _⟩
        · have hg : decide ((i2 : Int) ≤ jz') = false := decide_eq_false (by have := hJz.out; omega)
          clear hR
          go_wp2_with fail
          go_quiet (fail)
          go_wp2_with fail
          go_meet
          case rel => exact ⟨J', jz', rfl, hJz, hj1, hj2, hE, .inl (by omega), HRY.out.drewN _, touch_drewN hTo _⟩
    obtain ⟨wJ, hwc⟩ : ∃ W, W = wc := ⟨_, rfl⟩
    subst hwc
    clear hE hR hTo
    obtain ⟨J2, jz2, rfl, HJ2, hj1', hJ2J, hE, hXj, hR, hTo⟩ := hcut
    by_cases hend : i2 = J2
    · obtain ⟨m, rfl⟩ : ∃ m, J2 = m + 1 := ⟨J2 - 1, by omega⟩
      have hjz2 : jz2 = (m : Int) := by have := HJ2.out; omega
      clear HJ2
      subst hjz2
      subst hend
      have ham : a ≤ m := by omega
      obtain ⟨x, hx⟩ := get_ex (xs := ys) (i := m) (by rw [HYL.out]; omega)
      have hpa := hE.out.at_
      have cX : wJ.cell? ⟨g, m, none⟩ = some (fV x) := hR.at hx
      have cA : wJ.cell? ⟨g, a, none⟩ = some (fV p) := hR.at hpa
      have f1 := hR.free m
      have f2 := hR.free a
      have c3 : (wJ.setCell ⟨g, m, none⟩ (fV p)).cell? ⟨g, a, none⟩ = some (fV p) := swap_cell_any hR hx hpa
      have y0 : (0 : Int) ≤ (m : Int) := by omega
      have y1 : (m : Int) < (n : Int) := by omega
      have hgt : ((m + 1 : Nat) : Int) > (m : Int) := by omega
      have HSF := Lib.hid (hR.sw m a x p).drew
      have HPF := Lib.hid (hp.out.trans (PR.sw (a := a) (b := b) hx hpa ham (by omega) (Nat.le_refl _) (by omega)))
      have HEF := Lib.hid (hE.out.fin ham hx)
      have HTF := Lib.hid (hTo.trans ((touch_swap wJ g m a (fV p) (fV x)).trans (touch_drewN (touch_refl _ _ _) 1)))
      clear hR hx hpa hXi hXj
      go_wp2_with fail
      go_region
      go_wp2
      go_ret2
      exact ⟨m, p, false, _, rfl, ham, by omega, HSF.out, HPF.out, HEF.out, HTF.out⟩
    have hlt2 : i2 < J2 := by omega
    have HYL2 := HYL.out
    obtain ⟨j, rfl⟩ : ∃ j, J2 = j + 1 := ⟨J2 - 1, by omega⟩
    have hjz2 : jz2 = (j : Int) := by have := HJ2.out; omega
    clear HJ2
    subst hjz2
    obtain ⟨x, hx, hlx⟩ : ∃ x, ys[i2]? = some x ∧ ltW x p = false := by
      rcases hXi.out with h | h
      · omega
      · exact h
    obtain ⟨y, hy, hly⟩ : ∃ y, ys[j]? = some y ∧ ltW y p = true := by
      rcases hXj.out with h | h
      · omega
      · rw [Nat.add_sub_cancel] at h; exact h
    have hij : i2 ≠ j := fun e => by
      subst e
      rw [hx] at hy
      cases hy
      rw [hlx] at hly
      cases hly
    have cX : wJ.cell? ⟨g, i2, none⟩ = some (fV x) := hR.at hx
    have cY : wJ.cell? ⟨g, j, none⟩ = some (fV y) := hR.at hy
    have f1 := hR.free i2
    have f2 := hR.free j
    have c3 : (wJ.setCell ⟨g, i2, none⟩ (fV y)).cell? ⟨g, j, none⟩ = some (fV y) := swap_cell hR (fun e => hij e.symm) hy
    have y0 : (0 : Int) ≤ (i2 : Int) := by omega
    have y1 : (i2 : Int) < (n : Int) := by omega
    have y2 : (0 : Int) ≤ (j : Int) := by omega
    have y3 : (j : Int) < (n : Int) := by omega
    have HS := Lib.hid (hR.sw i2 j x y).drew
    have HPS := Lib.hid (hp.out.trans (PR.sw (a := a) (b := b) hx hy (by omega) (by omega) (by omega) (by omega)))
    have HES := Lib.hid (hE.out.swap (by omega) (by omega) hx hy hlx hly)
    have HTS : Hid (Touch g (g + 1) w ((wJ.setCell ⟨g, i2, none⟩ (fV y)).setCell ⟨g, j, none⟩ (fV x)).drew) := hTo.trans ((touch_swap wJ g i2 j (fV y) (fV x)).trans (touch_drewN (touch_refl _ _ _) 1))
    have hgt : ¬ (i2 : Int) > (j : Int) := by omega
    clear hR hx hy hlx hly hXi hXj HYL2
    go_wp2_with fail
    go_region
    go_wp2_with fail
    go_roundw
    case rel => exact ⟨i2 + 1, j, (j : Int) - 1, _, by go_num, by go_num, rfl, by omega, by omega, by omega, HPS.out, HES.out, HS.out, HTS.out⟩
    case measure => simp [intOf]; omega
end
end Go.Proofs.Ythdnelfggmlalaa
