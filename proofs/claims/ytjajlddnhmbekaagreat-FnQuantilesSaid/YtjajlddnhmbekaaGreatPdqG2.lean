/-
  slices.partialInsertionSortOrdered at float32, for finite numbers.
  How many digits a number below 256 has, as math/bits tells it.
  slices.nextPowerOfTwo, xorshift.Next, breakPatternsOrdered at float32.
  slices.pdqsortOrdered at float32, for finite numbers: the row ends in order.
  slices.Sort, slices.Compact, slices.Index at float32, for finite numbers.
-/
import Derived.Test.YtjajlddnhmbekaaGreatPdqA2
import Derived.Deep.CutRange
import Derived.Lib.Tables
import Derived.Lib.BitFns
import Derived.StillTailTactics
import Derived.Deep.LoopGhost
import Derived.Lib.SliceRun
namespace Go.Proofs.YtjajlddnhmbekaaGreat
section
open Go.RowKit
attribute [local go_sem] run_store_float

def PisE (g n c a b : Nat) (xs : List Nat) (w : World) (e : Ending) (w' : World) : Prop :=
  ∃ (t : Bool) (ys : List Nat), e = .returned (.bool t) ∧ RowF w' g n c ys ∧ PR a b xs ys ∧ (t = true → SR ltW a b ys) ∧ Touch g (g + 1) w w'
theorem SR.more {a i x y : Nat} {ys : List Nat} (h : SR ltW a i ys) (hi : a < i) (hx : ys[i]? = some x) (hy : ys[i - 1]? = some y) (hl : ltW x y = false) : SR ltW a (i + 1) ys := fun p q u v h1 h2 h3 hu hv => by
  by_cases e : q = i
  · subst e
    rw [hx] at hv
    cases hv
    by_cases e2 : p = q - 1
    · subst e2
      rw [hy] at hu
      cases hu
      exact hl
    · exact ltW_less.tr _ _ _ hl (h p (q - 1) u y h1 (by omega) (by omega) hu hy)
  · exact h p q u v h1 h2 (by omega) hu hv
set_option maxHeartbeats 6400000 in
set_option maxRecDepth 100000 in
theorem pis_any (g n c a b : Nat) (xs : List Nat) (hab : a < b) (hb : b ≤ n) (hn : n ≤ 1000000) (hF : Fins xs) (hPr : Pred ltW a b xs) (w : World) (hr : RowF w g n c xs) :
    Calls Tryz.prog 94 #[.slice (some ⟨g, 0, none⟩) n c, .int .i64 a, .int .i64 b] w (PisE g n c a b xs w) := by
  have HL := Lib.hid hr.len
  have HF := Lib.hid hF
  have HR := Lib.hid hr
  have HPr := Lib.hid hPr
  clear hF hr hPr
  go_enter Tryz.func94, Tryz.ntmps94
  go_wp2
  go_loopw [7, 8] (fun si sk wr => ∃ (i k : Nat) (ys : List Nat), si = .int .i64 i ∧ sk = .int .i64 k ∧ k ≤ 5 ∧ a + 1 ≤ i ∧ i ≤ b ∧ Hid (PR a b xs ys) ∧ Hid (SR ltW a i ys) ∧ RowF wr g n c ys ∧ Touch g (g + 1) w wr) (fun _ sk _ => 6 - (intOf sk).toNat)
  case atStart => exact ⟨a + 1, 0, xs, by go_num, rfl, by omega, Nat.le_refl _, by omega, PR.refl _ _ _, SR.small (Nat.le_refl _), HR.out, touch_refl _ _ _⟩
  case round =>
    obtain ⟨i, k, ys, rfl, rfl, hk, hi1, hi2, hp, hs, hR, hTo⟩ := hrel
    have HYL := Lib.hid (hp.out.len.trans HL.out)
    have HFY := Lib.hid (HF.out.perm hp.out.perm)
    by_cases hk5 : k < 5
    case neg =>
      have HRY := Lib.hid hR
      clear hR
      go_wp2
      go_ret
      exact ⟨false, ys, rfl, HRY.out, hp.out, (fun e => by cases e), hTo⟩
    go_upto_block 2 with fail
    go_cut [7] from 17 to 34 (fun si wx => ∃ i' : Nat, si = .int .i64 i' ∧ i ≤ i' ∧ i' ≤ b ∧ Hid (SR ltW a i' ys) ∧ Hid (i' = b ∨ ∃ x y, ys[i']? = some x ∧ ys[i' - 1]? = some y ∧ ltW x y = true) ∧ RowF wx g n c ys ∧ Touch g (g + 1) w wx)
    case first =>
      go_wp2_with fail
      go_loopw [7] (fun si wr => ∃ i' : Nat, si = .int .i64 i' ∧ i ≤ i' ∧ i' ≤ b ∧ Hid (SR ltW a i' ys) ∧ RowF wr g n c ys ∧ Touch g (g + 1) w wr) (fun si _ => b + 1 - (intOf si).toNat)
      case atStart => exact ⟨i, rfl, Nat.le_refl _, hi2, hs, hR, hTo⟩
      case round =>
        clear hs hR hTo
        obtain ⟨i', rfl, hj1, hj2, hs, hR, hTo⟩ := hrel
        have HRY := Lib.hid hR
        by_cases hlt : i' < b
        · obtain ⟨j, rfl⟩ : ∃ j, i' = j + 1 := ⟨i' - 1, by omega⟩
          obtain ⟨x, hx⟩ := get_ex (xs := ys) (i := j + 1) (by rw [HYL.out]; omega)
          obtain ⟨y, hy⟩ := get_ex (xs := ys) (i := j) (by rw [HYL.out]; omega)
          have y0 : (0 : Int) ≤ (j : Int) + 1 := by omega
          have y1 : (j : Int) + 1 < (n : Int) := by omega
          have y2 : (j : Int) < (n : Int) := by omega
          have y3 : ((j : Int) + 1).toNat = j + 1 := by omega
          have y4 : (j : Int) + 1 - 1 = (j : Int) := by omega
          have y5 : (0 : Int) ≤ (j : Int) := by omega
          have y6 : IntKind.i64.wrap ((j : Int)) = (j : Int) := IntWalk.i64_in _ (by omega)
          have cX : wr.cell? ⟨g, j + 1, none⟩ = some (fV x) := hR.at hx
          have cY : wr.cell? ⟨g, j, none⟩ = some (fV y) := hR.at hy
          have HCL := Lib.hid (less_q (HFY.out.at hx) (HFY.out.at hy) wr)
          have HX := Lib.hid hx
          have HY := Lib.hid hy
          have hg : decide ((j : Int) + 1 < (b : Int)) = true := decide_eq_true (by omega)
          clear hR hx hy
          cases hlc : ltW x y
          · have HLC := Lib.hid hlc
            go_wp2_with fail
            go_quiet (exact HCL.out _)
            go_wp2_with fail
            go_roundw
            case rel => exact ⟨j + 2, by go_num, by omega, by omega, hs.out.more (by omega) HX.out HY.out HLC.out, HRY.out.drewN _, touch_drewN hTo _⟩
            case measure => simp [intOf]; omega
          · have HLC := Lib.hid hlc
            go_wp2_with fail
            go_quiet (exact HCL.out _)
            go_wp2_with fail
            go_meet
            case rel => exact ⟨j + 1, by first | rfl | go_num, hj1, hj2, hs, .inr ⟨x, y, HX.out, HY.out, HLC.out⟩, HRY.out.drewN _, touch_drewN hTo _⟩
        · have hg : decide ((i' : Int) < (b : Int)) = false := decide_eq_false (by omega)
          have hg' : decide (i' < b) = false := decide_eq_false hlt
          clear hR
          go_wp2_with fail
          go_quiet (fail)
          go_wp2_with fail
          go_meet
          case rel => exact ⟨i', rfl, hj1, hj2, hs, .inl (by omega), HRY.out.drewN _, touch_drewN hTo _⟩
    obtain ⟨wI, hwc⟩ : ∃ W, W = wc := ⟨_, rfl⟩
    subst hwc
    clear hs hR hTo
    obtain ⟨i2, rfl, hi1', hi2', hs, hXi, hR, hTo⟩ := hcut
    by_cases hend : i2 = b
    · have HRY := Lib.hid hR
      have HSE : Hid (SR ltW a b ys) := by rw [← hend]; exact hs.out
      subst hend
      clear hR
      go_wp2
      go_ret
      exact ⟨true, ys, rfl, HRY.out, hp.out, fun _ => HSE.out, hTo⟩
    have heb : ((i2 : Int) == (b : Int)) = false := beq_eq_false_iff_ne.2 (by omega)
    by_cases h50 : b < a + 50
    · have HRY := Lib.hid hR
      have hs50 : (b : Int) - (a : Int) < 50 := by omega
      clear hR
      go_wp2
      go_ret
      exact ⟨false, ys, rfl, HRY.out, hp.out, (fun e => by cases e), hTo⟩
    have hs50 : ¬ (b : Int) - (a : Int) < 50 := by omega
    obtain ⟨i3, rfl⟩ : ∃ i3, i2 = i3 + 1 := ⟨i2 - 1, by omega⟩
    obtain ⟨x, y, hx, hy, hlx⟩ : ∃ x y, ys[i3 + 1]? = some x ∧ ys[i3]? = some y ∧ ltW x y = true := by
      rcases hXi.out with h | h
      · exact absurd h hend
      · rw [Nat.add_sub_cancel] at h; exact h
    have y0 : (0 : Int) ≤ (i3 : Int) + 1 := by omega
    have y1 : (i3 : Int) + 1 < (n : Int) := by omega
    have y2 : (i3 : Int) < (n : Int) := by omega
    have y3 : ((i3 : Int) + 1).toNat = i3 + 1 := by omega
    have y4 : (i3 : Int) + 1 - 1 = (i3 : Int) := by omega
    have y5 : (0 : Int) ≤ (i3 : Int) := by omega
    have y6 : IntKind.i64.wrap ((i3 : Int)) = (i3 : Int) := IntWalk.i64_in _ (by omega)
    have cX : wI.cell? ⟨g, i3 + 1, none⟩ = some (fV x) := hR.at hx
    have cY : wI.cell? ⟨g, i3, none⟩ = some (fV y) := hR.at hy
    have f1 := hR.free (i3 + 1)
    have f2 := hR.free i3
    have c3 : (wI.setCell ⟨g, i3 + 1, none⟩ (fV y)).cell? ⟨g, i3, none⟩ = some (fV y) := swap_cell hR (by omega) hy
    have HS : Hid (RowF ((wI.setCell ⟨g, i3 + 1, none⟩ (fV y)).setCell ⟨g, i3, none⟩ (fV x)).drew g n c (sw ys (i3 + 1) i3 x y)) := (hR.sw (i3 + 1) i3 x y).drew
    have HPS := Lib.hid (hp.out.trans (PR.sw (a := a) (b := b) hx hy (by omega) (by omega) (by omega) (by omega)))
    have HSS : Hid (SR ltW a i3 (sw ys (i3 + 1) i3 x y)) := (hs.out.sub (Nat.le_refl _) (by omega)).same fun q h1 h2 => by rw [sw_get hx hy, if_neg (by omega), if_neg (by omega)]
    have HTS : Hid (Touch g (g + 1) w ((wI.setCell ⟨g, i3 + 1, none⟩ (fV y)).setCell ⟨g, i3, none⟩ (fV x)).drew) := hTo.trans ((touch_swap wI g (i3 + 1) i3 (fV y) (fV x)).trans (touch_drewN (touch_refl _ _ _) 1))
    clear hR hx hy hlx hXi
    go_wp2_with fail
    go_region
    obtain ⟨w6, hw6⟩ : ∃ W, W = ((wI.setCell ⟨g, i3 + 1, none⟩ (fV y)).setCell ⟨g, i3, none⟩ (fV x)).drew := ⟨_, rfl⟩
    rw [← hw6] at HS HTS ⊢
    obtain ⟨y2s, hy2s⟩ : ∃ l, l = sw ys (i3 + 1) i3 x y := ⟨_, rfl⟩
    rw [← hy2s] at HS HPS HSS
    clear hw6 hy2s cX cY c3 f1 f2 hp hs hTo HYL HFY
    go_upto_if 61 with fail
    go_cut [9, 61] from 62 to 94 (fun _ _ wx => ∃ zs : List Nat, Hid (PR a b xs zs) ∧ Hid (SR ltW a (i3 + 1) zs) ∧ RowF wx g n c zs ∧ Touch g (g + 1) w wx)
    case first =>
      by_cases h2 : a + 1 ≤ i3
      case neg =>
        have hg : decide ((i3 : Int) + 1 - (a : Int) ≥ 2) = false := decide_eq_false (by omega)
        have hg2 : ¬ (i3 : Int) + 1 - (a : Int) ≥ 2 := by omega
        go_wp2_with fail
        go_meet
        case rel => exact ⟨y2s, HPS, SR.small (by omega), HS.out, HTS.out⟩
      have hg : decide ((i3 : Int) + 1 - (a : Int) ≥ 2) = true := decide_eq_true (by omega)
      have hg2 : (i3 : Int) + 1 - (a : Int) ≥ 2 := by omega
      go_wp2_with fail
      go_loopw [9] (fun sj wr => ∃ (j : Nat) (zs : List Nat), sj = .int .i64 j ∧ a ≤ j ∧ j ≤ i3 ∧ Hid (PR a b xs zs) ∧ Hid (InsI a i3 j zs) ∧ RowF wr g n c zs ∧ Touch g (g + 1) w wr) (fun sj _ => (intOf sj).toNat)
      case atStart => exact ⟨i3, y2s, by first | rfl | go_num, by omega, Nat.le_refl _, HPS, InsI.start HSS.out, HS.out, HTS.out⟩
      case round =>
        clear HS HTS HSS HPS
        obtain ⟨j, zs, rfl, hja, hji, hp, hI, hR, hTo⟩ := hrel
        have HZL := Lib.hid (hp.out.len.trans HL.out)
        have HRZ := Lib.hid hR
        by_cases hj0 : j = 0
        · have hg3 : ¬ (j : Int) ≥ 1 := by omega
          have hja2 : j = a := by omega
          have HJA := Lib.hid hja2
          clear hR hj0 hja2
          go_wp2_with fail
          go_meet
          case rel => exact ⟨zs, hp, hI.out.done (.inl HJA.out) hja (by rw [HZL.out]; omega), HRZ.out, hTo⟩
        obtain ⟨j', rfl⟩ : ∃ j', j = j' + 1 := ⟨j - 1, by omega⟩
        obtain ⟨x, hx⟩ := get_ex (xs := zs) (i := j' + 1) (by rw [HZL.out]; omega)
        obtain ⟨y, hy⟩ := get_ex (xs := zs) (i := j') (by rw [HZL.out]; omega)
        have y0 : (0 : Int) ≤ (j' : Int) + 1 := by omega
        have y1 : (j' : Int) + 1 < (n : Int) := by omega
        have y2 : (j' : Int) < (n : Int) := by omega
        have y3 : ((j' : Int) + 1).toNat = j' + 1 := by omega
        have y4 : (j' : Int) + 1 - 1 = (j' : Int) := by omega
        have y5 : (0 : Int) ≤ (j' : Int) := by omega
        have y6 : IntKind.i64.wrap ((j' : Int)) = (j' : Int) := IntWalk.i64_in _ (by omega)
        have cX : wr.cell? ⟨g, j' + 1, none⟩ = some (fV x) := hR.at hx
        have cY : wr.cell? ⟨g, j', none⟩ = some (fV y) := hR.at hy
        have fz := HF.out.perm hp.out.perm
        have HCL := Lib.hid (less_q (fz.at hx) (fz.at hy) wr)
        have HX := Lib.hid hx
        have HY := Lib.hid hy
        have HNB : Hid (ltW x y = true → a ≤ j') := fun hl => by
          by_cases e : a ≤ j'
          · exact e
          · have e2 : a = j' + 1 := by omega
            have h := HPr.out.moved hp.out y (by omega) (by rw [show a - 1 = j' by omega]; exact hy) (j' + 1) x (by omega) (by omega) hx
            rw [h] at hl
            cases hl
        clear hR hx hy fz
        cases hlc : ltW x y
        · have HLC := Lib.hid hlc
          go_wp2_with fail
          go_quiet (exact HCL.out _)
          go_wp2_with fail
          go_meet
          case rel => exact ⟨zs, hp, hI.out.done (.inr fun u v hu hv => by
            rw [HX.out] at hu
            rw [Nat.add_sub_cancel, HY.out] at hv
            cases hu
            cases hv
            exact HLC.out) hja (by rw [HZL.out]; omega), HRZ.out.drewN _, touch_drewN hTo _⟩
        · have HLC := Lib.hid hlc
          have haj := HNB.out hlc
          go_wp2_with fail
          go_quiet (exact HCL.out _)
          go_wp2_with fail
          have hR3 := HRZ.out.drewN nq
          have c1' := hR3.at HX.out
          have c2' := hR3.at HY.out
          have f1 := hR3.free j'
          have f2 := hR3.free (j' + 1)
          have hTT := touch_drewN hTo nq
          clear cX cY
          generalize wr.drewN nq = w5 at hR3 c1' c2' f1 f2 hTT ⊢
          have c3 : (w5.setCell ⟨g, j' + 1, none⟩ (fV y)).cell? ⟨g, j', none⟩ = some (fV y) := swap_cell hR3 (by omega) HY.out
          have HSW := Lib.hid (hR3.sw (j' + 1) j' x y)
          clear hR3
          go_region
          go_wp2_with fail
          go_roundw
          case rel => exact ⟨j', Go.Proofs.YtjajlddnhmbekaaGreat.sw zs (j' + 1) j' x y, by go_num, haj, by omega, hp.out.trans (PR.sw HX.out HY.out (by omega) (by omega) (by omega) (by omega)), hI.out.step haj hji HX.out HY.out HLC.out, HSW.out.drew, hTT.trans ((touch_swap _ _ _ _ _ _).trans (touch_drewN (touch_refl _ _ _) 1))⟩
          case measure => first | (simp [intOf]; done) | (simp [intOf]; omega)
    obtain ⟨wL, hwc⟩ : ∃ W, W = wc := ⟨_, rfl⟩
    subst hwc
    clear HS HTS HSS HPS
    obtain ⟨zs, hp, hs, hR, hTo⟩ := hcut
    by_cases h2 : i3 + 3 ≤ b
    case neg =>
      have hg : decide ((b : Int) - ((i3 : Int) + 1) ≥ 2) = false := decide_eq_false (by omega)
      have hg2 : ¬ (b : Int) - ((i3 : Int) + 1) ≥ 2 := by omega
      have HRZ := Lib.hid hR
      clear hR
      go_wp2
      go_roundw
      case rel => exact ⟨i3 + 1, k + 1, zs, by first | rfl | go_num, by go_num, by omega, by omega, by omega, hp, hs, HRZ.out, hTo⟩
      case measure => simp [intOf]; omega
    have hg : decide ((b : Int) - ((i3 : Int) + 1) ≥ 2) = true := decide_eq_true (by omega)
    have hg2 : (b : Int) - ((i3 : Int) + 1) ≥ 2 := by omega
    have HRZ := Lib.hid hR
    clear hR
    go_wp2_with fail
    go_loopw [10] (fun sj wr => ∃ (j : Nat) (zs : List Nat), sj = .int .i64 ((j : Int) + 1) ∧ i3 + 1 ≤ j ∧ j + 1 ≤ b ∧ Hid (PR a b xs zs) ∧ Hid (SR ltW a (i3 + 1) zs) ∧ RowF wr g n c zs ∧ Touch g (g + 1) w wr) (fun sj _ => b + 1 - (intOf sj).toNat)
    case atStart => exact ⟨i3 + 1, zs, by first | rfl | go_num, Nat.le_refl _, by omega, hp, hs, HRZ.out, hTo⟩
    case round =>
      clear HRZ hp hs hTo
      obtain ⟨j, zs, rfl, hj1, hj2, hp, hs, hR, hTo⟩ := hrel
      have HZL := Lib.hid (hp.out.len.trans HL.out)
      have HRZ := Lib.hid hR
      by_cases hj0 : j + 1 = b
      · have hg3 : ¬ (j : Int) + 1 < (b : Int) := by omega
        clear hR
        go_wp2
        go_roundw
        case rel => exact ⟨i3 + 1, k + 1, zs, by first | rfl | go_num, by go_num, by omega, by omega, by omega, hp, hs, HRZ.out, hTo⟩
        case measure => simp [intOf]; omega
      have hg3 : (j : Int) + 1 < (b : Int) := by omega
      obtain ⟨x, hx⟩ := get_ex (xs := zs) (i := j + 1) (by rw [HZL.out]; omega)
      obtain ⟨y, hy⟩ := get_ex (xs := zs) (i := j) (by rw [HZL.out]; omega)
      have y0 : (0 : Int) ≤ (j : Int) + 1 := by omega
      have y1 : (j : Int) + 1 < (n : Int) := by omega
      have y2 : (j : Int) < (n : Int) := by omega
      have y3 : ((j : Int) + 1).toNat = j + 1 := by omega
      have y4 : (j : Int) + 1 - 1 = (j : Int) := by omega
      have y5 : (0 : Int) ≤ (j : Int) := by omega
      have y6 : IntKind.i64.wrap ((j : Int)) = (j : Int) := IntWalk.i64_in _ (by omega)
      have cX : wr.cell? ⟨g, j + 1, none⟩ = some (fV x) := hR.at hx
      have cY : wr.cell? ⟨g, j, none⟩ = some (fV y) := hR.at hy
      have fz := HF.out.perm hp.out.perm
      have HCL := Lib.hid (less_q (fz.at hx) (fz.at hy) wr)
      have HX := Lib.hid hx
      have HY := Lib.hid hy
      clear hR hx hy fz
      cases hlc : ltW x y
      · go_wp2_with fail
        go_quiet (exact HCL.out _)
        go_wp2
        go_roundw
        case rel => exact ⟨i3 + 1, k + 1, zs, by first | rfl | go_num, by go_num, by omega, by omega, by omega, hp, hs, HRZ.out.drewN _, touch_drewN hTo _⟩
        case measure => simp [intOf]; omega
      · go_wp2_with fail
        go_quiet (exact HCL.out _)
        go_wp2_with fail
        have hR3 := HRZ.out.drewN nq
        have c1' := hR3.at HX.out
        have c2' := hR3.at HY.out
        have f1 := hR3.free j
        have f2 := hR3.free (j + 1)
        have hTT := touch_drewN hTo nq
        clear cX cY
        generalize wr.drewN nq = w5 at hR3 c1' c2' f1 f2 hTT ⊢
        have c3 : (w5.setCell ⟨g, j + 1, none⟩ (fV y)).cell? ⟨g, j, none⟩ = some (fV y) := swap_cell hR3 (by omega) HY.out
        have HSW := Lib.hid (hR3.sw (j + 1) j x y)
        clear hR3
        go_region
        go_wp2_with fail
        go_roundw
        case rel => exact ⟨j + 1, Go.Proofs.YtjajlddnhmbekaaGreat.sw zs (j + 1) j x y, by go_num, by omega, by omega, hp.out.trans (PR.sw HX.out HY.out (by omega) (by omega) (by omega) (by omega)), hs.out.same (fun q h1 h2 => by rw [sw_get HX.out HY.out, if_neg (by omega), if_neg (by omega)]), HSW.out.drew, hTT.trans ((touch_swap _ _ _ _ _ _).trans (touch_drewN (touch_refl _ _ _) 1))⟩
        case measure => simp [intOf]; omega
end

section
section
open Go.RowKit

set_option maxHeartbeats 4000000 in
set_option maxRecDepth 100000 in
theorem len64_any (x : Nat) (hx : x < 256) (w : World) : Calls Tryz.prog 99 #[.int .u64 x] w fun e w' => e = .returned (.int .i64 (Lib.bitLen x : Nat)) ∧ w = w' := by
  have h1 : ¬ ((x : Int) ≥ 4294967296) := by omega
  have h2 : ¬ ((x : Int) ≥ 65536) := by omega
  have h3 : ¬ ((x : Int) ≥ 256) := by omega
  have hb : (Lib.bitLen x : Int) ≤ 8 := by have := Lib.bitLen_le8' (x : Int) (by omega) (by omega); rw [Int.toNat_natCast] at this; omega
  have hb0 : (0 : Int) ≤ (Lib.bitLen x : Int) := by omega
  have hb2 : IntKind.i64.wrap (Lib.bitLen x : Int) = (Lib.bitLen x : Int) := IntWalk.i64_in _ (by omega)
  have hi : ∀ C : ByteArray, Lib.len8tab = C → ∃ h : x < C.size, ((C[x]'h).toNat : Int) = Lib.bitLen x := by
    intro C hC
    subst hC
    have h : x < Lib.len8tab.size := by rw [Lib.len8tab_size]; exact hx
    refine ⟨h, ?_⟩
    have h2 := Lib.len8_of (x : Int) (by omega) (by omega)
    unfold Lib.len8 at h2
    rw [Int.toNat_natCast, getElem?_pos Lib.len8tab x h] at h2
    exact h2
  refine calls_of_wp Tryz.func99 rfl ?_
  generalize hC : ByteArray.mk _ = C
  obtain ⟨hsz, hget⟩ := hi C hC
  have HG := Lib.hid hget
  clear hC hi hget hb hb0 hb2
  simp only [Tryz.ntmps99, List.size_toArray, List.length_cons, List.length_nil, Nat.reduceAdd, Nat.reduceSub, Array.replicate_succ, Array.replicate_zero, List.push_toArray, List.append_toArray, List.nil_append, List.cons_append]
  go_wp2
  go_ret
  refine ⟨ret_int ?_, rfl⟩
  rw [HG.out]
  have hb : (Lib.bitLen x : Int) ≤ 8 := by have := Lib.bitLen_le8' (x : Int) (by omega) (by omega); rw [Int.toNat_natCast] at this; omega
  have hb2 : wrap64 (Lib.bitLen x : Int) = (Lib.bitLen x : Int) := by simp only [wrap64]; omega
  rw [hb2, hb2]
theorem len_any (x : Nat) (hx : x < 256) (w : World) : Calls Tryz.prog 84 #[.int .u64 x] w fun e w' => e = .returned (.int .i64 (Lib.bitLen x : Nat)) ∧ w = w' := by
  have HC := Lib.hid (len64_any x hx)
  go_enter Tryz.func84, Tryz.ntmps84
  go_wp2_with (go_at_call 99; refine (HC.out _).mono ?_; rintro e w' ⟨rfl, rfl⟩)
  go_ret
  exact ⟨rfl, rfl⟩
theorem bitLen_tab : ∀ x : Fin 256, 1 ≤ x.val → 1 ≤ Lib.bitLen x.val ∧ Lib.bitLen x.val ≤ 8 ∧ x.val < 2 ^ Lib.bitLen x.val ∧ 2 ^ Lib.bitLen x.val ≤ 2 * x.val := by decide +kernel
end

section
open Go.RowKit
attribute [local go_sem] run_store_float

theorem nextPow_any (L : Nat) (h1 : 1 ≤ L) (hL : L < 256) (w : World) : Calls Tryz.prog 102 #[.int .i64 L] w fun e w' => ∃ M : Nat, e = .returned (.int .u64 M) ∧ 1 ≤ M ∧ M ≤ 2 * L ∧ w = w' := by
  obtain ⟨k1, k2, k3, k4⟩ := bitLen_tab ⟨L, hL⟩ h1
  simp only [] at k1 k2 k3 k4
  have HC := Lib.hid (len_any L hL)
  obtain ⟨K, hK⟩ : ∃ K, K = Lib.bitLen L := ⟨_, rfl⟩
  rw [← hK] at k1 k2 k3 k4 HC
  clear hK
  have hw : IntKind.u64.wrap (L : Int) = (L : Int) := by show (L : Int) % 18446744073709551616 = L; omega
  have hK : K = 1 ∨ K = 2 ∨ K = 3 ∨ K = 4 ∨ K = 5 ∨ K = 6 ∨ K = 7 ∨ K = 8 := by omega
  clear k3 k1 k2
  rcases hK with rfl | rfl | rfl | rfl | rfl | rfl | rfl | rfl
  all_goals
    simp only [Nat.reducePow] at k4
    go_enter Tryz.func102, Tryz.ntmps102
    go_wp2_with (go_at_call 84; refine (HC.out _).mono ?_; rintro e w' ⟨rfl, rfl⟩)
    go_ret
  · exact ⟨2, rfl, by omega, by omega, rfl⟩
  · exact ⟨4, rfl, by omega, by omega, rfl⟩
  · exact ⟨8, rfl, by omega, by omega, rfl⟩
  · exact ⟨16, rfl, by omega, by omega, rfl⟩
  · exact ⟨32, rfl, by omega, by omega, rfl⟩
  · exact ⟨64, rfl, by omega, by omega, rfl⟩
  · exact ⟨128, rfl, by omega, by omega, rfl⟩
  · exact ⟨256, rfl, by omega, by omega, rfl⟩

/-- A number of 64 bits in a block. -/
def U64At (w : World) (q : Nat) : Prop := ∃ r : Int, BoxAt w q [.int .u64 r]
theorem U64At.set {w : World} {q : Nat} {r : Int} (h : BoxAt w q [.int .u64 r]) (s : Int) : BoxAt ((w.setCell ⟨q, 0, none⟩ (.int .u64 s)).drew) q [.int .u64 s] := by
  have := h.set (i := 0) rfl (.int .u64 s)
  exact ⟨this.lt, this.cell, this.free⟩
theorem touch_one (w : World) (q : Nat) (u : Value) : Touch q (q + 1) w ((w.setCell ⟨q, 0, none⟩ u).drew) :=
  (Touch.setCell w ⟨q, 0, none⟩ u).trans (touch_drewN (touch_refl _ _ _) 1)
def NextE (q : Nat) (w : World) (e : Ending) (w' : World) : Prop := ∃ r : Int, e = .returned (.int .u64 r) ∧ U64At w' q ∧ Touch q (q + 1) w w'
set_option maxRecDepth 100000 in
theorem xorNext_any (q : Nat) (w : World) (hB : U64At w q) : Calls Tryz.prog 103 #[.pointer (some ⟨q, 0, none⟩)] w (NextE q w) := by
  obtain ⟨r0, B⟩ := hB
  have HB0 := Lib.hid B
  have c0 := B.cell 0 _ rfl
  have f0 := B.free 0
  clear B
  go_enter Tryz.func103, Tryz.ntmps103
  go_wp2_with fail
  go_region
  obtain ⟨r1, h1⟩ : ∃ r1, r1 = bits .xor .u64 r0 (IntKind.u64.wrap (r0 * 8192)) := ⟨_, rfl⟩
  rw [← h1]
  have HB1 := Lib.hid (U64At.set HB0.out r1)
  have HT1 := Lib.hid (touch_one w q (.int .u64 r1))
  generalize (w.setCell ⟨q, 0, none⟩ (.int .u64 r1)).drew = w1 at HB1 HT1 ⊢
  clear h1 HB0 c0 f0
  have c0 := HB1.out.cell 0 _ rfl
  have f0 := HB1.out.free 0
  go_wp2_with fail
  go_region
  obtain ⟨r2, h2⟩ : ∃ r2, r2 = bits .xor .u64 r1 (r1 / 128) := ⟨_, rfl⟩
  rw [← h2]
  have HB2 := Lib.hid (U64At.set HB1.out r2)
  have HT2 := Lib.hid (HT1.out.trans (touch_one w1 q (.int .u64 r2)))
  generalize (w1.setCell ⟨q, 0, none⟩ (.int .u64 r2)).drew = w2 at HB2 HT2 ⊢
  clear h2 HB1 HT1 c0 f0
  have c0 := HB2.out.cell 0 _ rfl
  have f0 := HB2.out.free 0
  go_wp2_with fail
  go_region
  obtain ⟨r3, h3⟩ : ∃ r3, r3 = bits .xor .u64 r2 (IntKind.u64.wrap (r2 * 131072)) := ⟨_, rfl⟩
  rw [← h3]
  have HB3 := Lib.hid (U64At.set HB2.out r3)
  have HT3 := Lib.hid (HT2.out.trans (touch_one w2 q (.int .u64 r3)))
  generalize (w2.setCell ⟨q, 0, none⟩ (.int .u64 r3)).drew = w3 at HB3 HT3 ⊢
  clear h3 HB2 HT2 c0 f0
  have c0 := HB3.out.cell 0 _ rfl
  go_wp2
  go_ret
  exact ⟨r3, rfl, ⟨r3, HB3.out⟩, HT3.out⟩
theorem touch_new {lo hi q : Nat} {w wr w2 : World} (h : Touch lo hi w wr) (k : Touch q (q + 1) wr w2) (hq : w.heap.size ≤ q) : Touch lo hi w w2 :=
  ⟨k.os.trans h.os, k.tape.trans h.tape, k.output.trans h.output, Nat.le_trans h.size k.size, fun i hi hr => (k.block i (Nat.lt_of_lt_of_le hi h.size) (.inl (by omega))).trans (h.block i hi hr)⟩
theorem and_low (r : Int) (M : Nat) (h1 : 1 ≤ M) (hM : M ≤ 1000) : ∃ o : Nat, bits .and .u64 r ((M : Int) - 1) = (o : Int) ∧ o < M := by
  refine ⟨(BitVec.ofInt 64 r &&& BitVec.ofInt 64 ((M : Int) - 1)).toNat, ?_, ?_⟩
  · show IntKind.u64.wrap (((BitVec.ofInt 64 r &&& BitVec.ofInt 64 ((M : Int) - 1)).toNat : Nat) : Int) = _
    have h := (BitVec.ofInt 64 r &&& BitVec.ofInt 64 ((M : Int) - 1)).isLt
    generalize (BitVec.ofInt 64 r &&& BitVec.ofInt 64 ((M : Int) - 1)).toNat = n at h
    show (n : Int) % 18446744073709551616 = n
    omega
  · rw [BitVec.toNat_and]
    have h := Nat.and_le_right (n := (BitVec.ofInt 64 r).toNat) (m := (BitVec.ofInt 64 ((M : Int) - 1)).toNat)
    have h2 : (BitVec.ofInt 64 ((M : Int) - 1)).toNat = M - 1 := by
      rw [BitVec.toNat_ofInt]
      show (((M : Int) - 1) % 18446744073709551616).toNat = M - 1
      omega
    omega

set_option maxHeartbeats 3200000 in
set_option maxRecDepth 100000 in
theorem brk_any (g n c a b : Nat) (xs : List Nat) (hab : a + 12 < b) (hb : b ≤ n) (hn : n ≤ 200) (w : World) (hr : RowF w g n c xs) :
    Calls Tryz.prog 91 #[.slice (some ⟨g, 0, none⟩) n c, .int .i64 a, .int .i64 b] w (MoveE g n c a b xs w) := by
  have HL := Lib.hid hr.len
  have hgl := hr.lt
  obtain ⟨L, hL⟩ : ∃ L, L = b - a := ⟨_, rfl⟩
  obtain ⟨Q, hQ⟩ : ∃ Q, Q = L / 4 := ⟨_, rfl⟩
  obtain ⟨J, hJ⟩ : ∃ J, J = a + Q * 2 - 1 := ⟨_, rfl⟩
  have hL1 : (b : Int) - (a : Int) = (L : Int) := by omega
  have hL8 : (L : Int) ≥ 8 := by omega
  have hLa : a + L = b := by omega
  have hQ4 : (L : Int) / 4 = (Q : Int) := by omega
  have hJ1 : (a : Int) + (Q : Int) * 2 - 1 = (J : Int) := by omega
  have hJ2 : (a : Int) + (Q : Int) * 2 + 1 = (J : Int) + 2 := by omega
  have hJ3 : a ≤ J ∧ J + 2 < b := by omega
  have hLw : IntKind.u64.wrap (L : Int) = (L : Int) := by show (L : Int) % 18446744073709551616 = L; omega
  have HNP := Lib.hid (nextPow_any L (by omega) (by omega))
  clear hL hQ hJ
  obtain ⟨w0, hw0⟩ : ∃ w0, w0 = w.alloc (.cells #[.int .u64 L] 121) := ⟨_, rfl⟩
  have hb0 := below_alloc w (.cells #[.int .u64 L] 121)
  have HB0 : Hid (U64At (w.alloc (.cells #[.int .u64 L] 121)) w.heap.size) := ⟨L, BoxAt.new w [.int .u64 L] 121⟩
  have HR0 := Lib.hid (hr.below hb0 hgl)
  have HT0 : Hid (Touch g (g + 1) w (w.alloc (.cells #[.int .u64 L] 121))) := Touch.of_below hb0
  have hq0 : w.heap.size < (w.alloc (.cells #[.int .u64 L] 121)).heap.size := by rw [size_alloc]; omega
  rw [← hw0] at HB0 HR0 HT0 hq0
  obtain ⟨q, hq⟩ : ∃ q, q = w.heap.size := ⟨_, rfl⟩
  have hgq : g < q := by omega
  have hwq : w.heap.size ≤ q := by omega
  have HW0 := Lib.hid hw0
  clear hr hb0 hw0
  go_enter Tryz.func91, Tryz.ntmps91
  go_wp2_with fail
  rw [← HW0.out]
  rw [← hq] at HB0 hq0 ⊢
  clear HW0 hq
  refine (HNP.out _).mono ?_
  rintro e w1 ⟨M, rfl, hM1, hM2, rfl⟩
  go_wp2_with fail
  go_loopw [9] (fun si wr => ∃ (i : Nat) (ys : List Nat), si = .int .i64 i ∧ J ≤ i ∧ i ≤ J + 3 ∧ Hid (PR a b xs ys) ∧ U64At wr q ∧ RowF wr g n c ys ∧ Touch g (g + 1) w wr ∧ q < wr.heap.size) (fun si _ => J + 3 - (intOf si).toNat)
  case atStart => exact ⟨J, xs, rfl, Nat.le_refl _, by omega, PR.refl _ _ _, HB0.out, HR0.out, HT0.out, hq0⟩
  case round =>
    clear HB0 HR0 HT0 hq0
    obtain ⟨i, ys, rfl, hi1, hi2, hp, hU, hR, hTo, hqw⟩ := hrel
    have HRY := Lib.hid hR
    by_cases hlt : i ≤ J + 2
    case neg =>
      have hz : ¬ ((i : Int) ≤ (J : Int) + 2) := by omega
      clear hR hU
      go_wp2
      refine bodyPost_ret (results_none rfl _ _ _) rfl ?_
      exact ⟨rfl, ys, HRY.out, hp.out, hTo⟩
    have hz : (i : Int) ≤ (J : Int) + 2 := by omega
    have HC := Lib.hid (xorNext_any q wr hU)
    clear hR hU
    go_upto_region 8 with (go_at_call 103; refine HC.out.mono ?_; rintro e w2 ⟨r, rfl, hU, hT2⟩)
    obtain ⟨o, ho, hoM⟩ := and_low r M hM1 (by omega)
    have hwo : wrap64 (o : Int) = (o : Int) := by simp only [wrap64]; omega
    rw [ho, hwo]
    clear ho hwo HC
    go_upto_if 43 with fail
    go_cut [10] from 26 to 64 (fun s wx => ∃ o2 : Nat, s = .int .i64 o2 ∧ o2 < L ∧ wx = w2)
    case first =>
      by_cases hge : L ≤ o
      · have hz2 : (o : Int) ≥ (L : Int) := by omega
        go_wp2_with fail
        go_meet
        case rel => exact ⟨o - L, by rw [show ((o - L : Nat) : Int) = (o : Int) - (L : Int) by omega] <;> rfl, by omega, rfl⟩
      · have hz2 : ¬ ((o : Int) ≥ (L : Int)) := by omega
        go_wp2_with fail
        go_meet
        case rel => exact ⟨o, rfl, by omega, rfl⟩
    obtain ⟨o2, rfl, ho2, rfl⟩ := hcut
    obtain ⟨w3, hwc⟩ : ∃ W, W = wc := ⟨_, rfl⟩
    subst hwc
    have hR := HRY.out.touch hT2 (by omega)
    have hzl := hp.out.len.trans HL.out
    obtain ⟨x, hx⟩ := get_ex (xs := ys) (i := i) (by omega)
    obtain ⟨y, hy⟩ := get_ex (xs := ys) (i := a + o2) (by omega)
    have c1 : w3.cell? ⟨g, i, none⟩ = some (fV x) := hR.at hx
    have c2 : w3.cell? ⟨g, a + o2, none⟩ = some (fV y) := hR.at hy
    have f1 := hR.free i
    have f2 := hR.free (a + o2)
    have c3 : (w3.setCell ⟨g, i, none⟩ (fV y)).cell? ⟨g, a + o2, none⟩ = some (fV y) := swap_cell_any hR hx hy
    have z0 : (0 : Int) ≤ (a : Int) + (o2 : Int) := by omega
    have z1 : (a : Int) + (o2 : Int) < (n : Int) := by omega
    have z2 : ((a : Int) + (o2 : Int)).toNat = a + o2 := by omega
    have z3 : (0 : Int) ≤ (i : Int) := by omega
    have z4 : (i : Int) < (n : Int) := by omega
    have HS := Lib.hid (hR.sw i (a + o2) x y).drew
    have HP2 := Lib.hid (hp.out.trans (PR.sw (a := a) (b := b) hx hy (by omega) (by omega) (by omega) (by omega)))
    have HT3 : Hid (Touch g (g + 1) w ((w3.setCell ⟨g, i, none⟩ (fV y)).setCell ⟨g, a + o2, none⟩ (fV x)).drew) := (touch_new hTo hT2 hwq).trans ((touch_swap w3 g i (a + o2) (fV y) (fV x)).trans (touch_drewN (touch_refl _ _ _) 1))
    have HU3 : Hid (U64At ((w3.setCell ⟨g, i, none⟩ (fV y)).setCell ⟨g, a + o2, none⟩ (fV x)).drew q) := by
      obtain ⟨r, B⟩ := hU
      have B2 := (B.other (p := ⟨g, i, none⟩) (by show g ≠ q; omega) (fV y)).other (p := ⟨g, a + o2, none⟩) (by show g ≠ q; omega) (fV x)
      exact ⟨r, B2.lt, B2.cell, B2.free⟩
    have hqs : q < ((w3.setCell ⟨g, i, none⟩ (fV y)).setCell ⟨g, a + o2, none⟩ (fV x)).drew.heap.size := by obtain ⟨r, B⟩ := HU3.out; exact B.lt
    have HQS := Lib.hid hqs
    clear hR hzl hx hy hT2 hU hTo hqw hqs
    go_wp2_with fail
    go_region
    go_wp2_with fail
    go_roundw
    case rel => exact ⟨i + 1, _, by go_num, by omega, by omega, HP2, HU3.out, HS.out, HT3.out, HQS.out⟩
    case measure => simp [intOf]; omega
end
end

section
section
open Go.RowKit
attribute [local go_sem] run_store_float

/-- Where a round of the sort stands. -/
structure St (g n c a b a' b' : Nat) (xs ys : List Nat) (w wr : World) : Prop where
  pr : PR a b xs ys
  out : Out ltW a b a' b' ys
  pred : Pred ltW a' b' ys
  row : RowF wr g n c ys
  tch : Touch g (g + 1) w wr
section
variable {g n c a b a' b' m p : Nat} {xs ys zs : List Nat} {w wr w2 : World} {e : Ending}
theorem St.start (h : Pred ltW a b xs) (r : RowF w g n c xs) : St g n c a b a b xs xs w w := ⟨PR.refl _ _ _, Out.start _ _ _ _, h, r, touch_refl _ _ _⟩
theorem St.fins (h : St g n c a b a' b' xs ys w wr) (hF : Fins xs) : Fins ys := hF.perm h.pr.perm
theorem St.moved (h : St g n c a b a' b' xs ys w wr) (ha : a ≤ a') (hb : b' ≤ b) (hp : PR a' b' ys zs) (hr : RowF w2 g n c zs) (t : Touch g (g + 1) wr w2) : St g n c a b a' b' xs zs w w2 :=
  ⟨h.pr.trans (hp.mono ha hb), h.out.moved hp ha hb, h.pred.moved hp, hr, h.tch.trans t⟩
theorem St.below (h : St g n c a b a' b' xs ys w wr) (hb : Below wr.heap.size wr w2) : St g n c a b a' b' xs ys w w2 :=
  ⟨h.pr, h.out, h.pred, h.row.below hb h.row.lt, h.tch.trans (Touch.of_below hb)⟩
theorem St.drewN (h : St g n c a b a' b' xs ys w wr) (k : Nat) : St g n c a b a' b' xs ys w (wr.drewN k) := ⟨h.pr, h.out, h.pred, h.row.drewN k, touch_drewN h.tch k⟩
theorem St.sorted (h : St g n c a b a' b' xs ys w wr) (ha : a ≤ a') (hb : b' ≤ b) (k : SortE g n c a' b' ys wr e w2) : SortE g n c a b xs w e w2 := by
  obtain ⟨he, zs, r, p, s, t⟩ := k
  have h2 := h.moved ha hb p r t
  exact ⟨he, zs, h2.row, h2.pr, h2.out.close s, h2.tch⟩
theorem St.over (h : St g n c a b a' b' xs ys w wr) (s : SR ltW a' b' ys) : SortE g n c a b xs w (.returned (.tuple #[])) wr := ⟨rfl, ys, h.row, h.pr, h.out.close s, h.tch⟩
theorem Part.movedL (k : Part ltW a b m ys p) (_hm : m ≤ b) (h : PR a m ys zs) : Part ltW a b m zs p :=
  ⟨(h.out m (.inr (Nat.le_refl _))).trans k.at_, h.all k.lo, fun i x h1 h2 hx => k.hi i x h1 h2 ((h.out i (.inr (by omega))).symm.trans hx)⟩
theorem Part.movedR (k : Part ltW a b m ys p) (h : PR (m + 1) b ys zs) : Part ltW a b m zs p :=
  ⟨(h.out m (.inl (by omega))).trans k.at_, fun i x h1 h2 hx => k.lo i x h1 h2 ((h.out i (.inl (by omega))).symm.trans hx), fun i x h1 h2 hx => h.all (p := fun x => ltW x p = false) (fun j y h3 h4 hy => k.hi j y (by omega) h4 hy) i x (by omega) h2 hx⟩
theorem St.left (h : St g n c a b a' b' xs ys w wr) (ha : a ≤ a') (hb : b' ≤ b) (_h1 : a' ≤ m) (h2 : m < b') (k : Part ltW a' b' m ys p) (t : SortE g n c a' m ys wr e w2) : e = .returned (.tuple #[]) ∧ ∃ zs, St g n c a b (m + 1) b' xs zs w w2 := by
  obtain ⟨he, zs, r, hp, s, t⟩ := t
  have hm := h.moved ha hb (hp.mono (Nat.le_refl _) (by omega)) r t
  have k' := k.movedL (by omega) hp
  exact ⟨he, zs, hm.pr, hm.out.left ltW_less k' s, Pred.next k', hm.row, hm.tch⟩
theorem St.right (h : St g n c a b a' b' xs ys w wr) (ha : a ≤ a') (hb : b' ≤ b) (h1 : a' ≤ m) (h2 : m < b') (k : Part ltW a' b' m ys p) (t : SortE g n c (m + 1) b' ys wr e w2) : e = .returned (.tuple #[]) ∧ ∃ zs, St g n c a b a' m xs zs w w2 := by
  obtain ⟨he, zs, r, hp, s, t⟩ := t
  have hm := h.moved ha hb (hp.mono (by omega) (Nat.le_refl _)) r t
  have k' := k.movedR hp
  exact ⟨he, zs, hm.pr, hm.out.right ltW_less k' s, hm.pred.sub (by omega), hm.row, hm.tch⟩
theorem St.equal {u pv : Nat} (h : St g n c a b a' b' xs ys w wr) (ha : a ≤ a') (hb : b' ≤ b) (h0 : 0 < a') (hu : ys[a' - 1]? = some u) (hl : ltW u pv = false)
    (h1 : a' < m) (h2 : m ≤ b') (r : RowF w2 g n c zs) (hp : PR a' b' ys zs) (lo : ∀ k x, a' ≤ k → k < m → zs[k]? = some x → ltW pv x = false) (hi : ∀ k x, m ≤ k → k < b' → zs[k]? = some x → ltW pv x = true) (t : Touch g (g + 1) wr w2) : St g n c a b m b' xs zs w w2 := by
  have hm := h.moved ha hb hp r t
  have hu' : zs[a' - 1]? = some u := (hp.out _ (.inl (by omega))).trans hu
  refine ⟨hm.pr, hm.out.equal ltW_less (p := pv) (fun i x h3 h4 hx => ltW_less.tr _ _ _ (hm.pred u h0 hu' i x h3 h4 hx) hl) lo h2, ?_, hm.row, hm.tch⟩
  intro q _ hq i x h3 h4 hx
  exact ltW_less.tr _ _ _ (ltW_less.asym _ _ (hi i x h3 h4 hx)) (lo (m - 1) q (by omega) (by omega) hq)
end

set_option maxHeartbeats 6400000 in
set_option maxRecDepth 1000000 in
theorem pdq_any (g n c : Nat) (hn : n ≤ 200) : ∀ (N a b lim : Nat) (xs : List Nat) (w : World), b - a < N → a ≤ b → b ≤ n → lim ≤ 1000 → Fins xs → Pred ltW a b xs → RowF w g n c xs →
    Calls Tryz.prog 83 #[.slice (some ⟨g, 0, none⟩) n c, .int .i64 a, .int .i64 b, .int .i64 lim] w (SortE g n c a b xs w) := by
  intro N
  induction N with
  | zero => intro _ _ _ _ _ h; exact absurd h (Nat.not_lt_zero _)
  | succ N ih =>
    intro a b lim0 xs w hN hab hb hlim0 hF hPr hr
    have HL := Lib.hid hr.len
    have HF := Lib.hid hF
    have HS0 : Hid (St g n c a b a b xs xs w w) := St.start hPr hr
    have IH := Lib.hid ih
    clear hF hr hPr ih
    go_enter Tryz.func83, Tryz.ntmps83
    go_wp2
    go_loopg [1, 2, 3, 8, 9] (b - a) (fun k s1 s2 s3 s8 s9 wr => ∃ (a' b' lim : Nat) (wb wp : Bool) (ys : List Nat), s1 = .int .i64 a' ∧ s2 = .int .i64 b' ∧ s3 = .int .i64 lim ∧ s8 = .bool wb ∧ s9 = .bool wp ∧ a ≤ a' ∧ a' ≤ b' ∧ b' ≤ b ∧ b' - a' ≤ k ∧ k ≤ b - a ∧ lim ≤ 1000 ∧ St g n c a b a' b' xs ys w wr)
    case atStart => exact ⟨a, b, lim0, true, true, xs, rfl, rfl, rfl, rfl, rfl, Nat.le_refl _, hab, Nat.le_refl _, Nat.le_refl _, Nat.le_refl _, hlim0, HS0.out⟩
    case round =>
      clear HS0
      obtain ⟨a', b', lim, wb, wp, ys, rfl, rfl, rfl, rfl, rfl, ha', hab', hb', hk, hkN, hlim, hS⟩ := hrel
      by_cases h12 : b' - a' ≤ 12
      · have h12z : (b' : Int) - (a' : Int) ≤ 12 := by omega
        have HC := Lib.hid (insertionF_any g n c a' b' ys hab' (by omega) (by omega) (hS.fins HF.out) wr hS.row)
        go_wp2_with (go_at_call 89; refine HC.out.mono ?_; intro e w1 hw1; obtain ⟨e1, e2⟩ := id hw1; subst e1; clear e2)
        (try simp only [Exit.inBlock, Exit.then])
        refine bodyPost_ret (results_none rfl _ _ _) rfl ?_
        exact hS.sorted ha' hb' hw1
      have h12z : ¬ ((b' : Int) - (a' : Int) ≤ 12) := by omega
      by_cases hl0 : lim = 0
      · subst hl0
        have HC := Lib.hid (heapF_any g n c a' b' ys (by omega) (by omega) (by omega) (hS.fins HF.out) wr hS.row)
        go_wp2_with (go_at_call 90; refine HC.out.mono ?_; intro e w1 hw1; obtain ⟨e1, e2⟩ := id hw1; subst e1; clear e2)
        (try simp only [Exit.inBlock, Exit.then])
        refine bodyPost_ret (results_none rfl _ _ _) rfl ?_
        exact hS.sorted ha' hb' hw1
      have hl0z : ¬ ((lim : Int) = 0) := by omega
      have hl0b : ((lim : Int) == 0) = false := beq_eq_false_iff_ne.2 hl0z
      go_upto_if 35 with fail
      go_cut [3] from 19 to 133 (fun s3 wx => ∃ (l : Nat) (zs : List Nat), s3 = .int .i64 l ∧ l ≤ 1000 ∧ St g n c a b a' b' xs zs w wx)
      case first =>
        cases wb
        · have HC := Lib.hid (brk_any g n c a' b' ys (by omega) (by omega) hn wr hS.row)
          go_wp2_with (go_at_call 91; refine HC.out.mono ?_; rintro e w1 ⟨rfl, zs, R1, P1, T1⟩)
          go_meet
          case rel => exact ⟨lim - 1, zs, by rw [show ((lim - 1 : Nat) : Int) = (lim : Int) - 1 by omega] <;> rfl, by omega, hS.moved ha' hb' P1 R1 T1⟩
        · go_wp2_with fail
          go_meet
          case rel => exact ⟨lim, ys, rfl, hlim, hS⟩
      clear hS hl0 hl0z hl0b
      obtain ⟨w1, hwc⟩ : ∃ W, W = wc := ⟨_, rfl⟩
      subst hwc
      obtain ⟨l, ys, rfl, hl, hS⟩ := hcut
      have HC := Lib.hid (choosePivot_any g n c a' b' ys (by omega) (by omega) (by omega) (hS.fins HF.out) w1 hS.row)
      go_upto_if 50 with (go_at_call 92; refine HC.out.mono ?_; rintro e w2 ⟨p, h, rfl, hp1, hp2, hh, hb2⟩)
      replace hS := hS.below hb2
      clear HC hb2
      go_cut [11, 12] from 19 to 133 (fun s11 s12 wx => ∃ (p h : Nat) (zs : List Nat), s11 = .int .i64 p ∧ s12 = .int .i64 h ∧ a' ≤ p ∧ p < b' ∧ h ≤ 2 ∧ St g n c a b a' b' xs zs w wx)
      case first =>
        by_cases h2 : h = 2
        · subst h2
          have HC := Lib.hid (reverseF_any g n c a' b' ys hab' (by omega) (by omega) w2 hS.row)
          go_wp2_with (go_at_call 93; refine HC.out.mono ?_; rintro e w3 ⟨rfl, zs, R1, P1, T1⟩)
          go_meet
          case rel => exact ⟨b' - 1 - (p - a'), 1, zs, by rw [show ((b' - 1 - (p - a') : Nat) : Int) = (b' : Int) - 1 - ((p : Int) - (a' : Int)) by omega] <;> rfl, rfl, by omega, by omega, by omega, hS.moved ha' hb' P1 R1 T1⟩
        · have h2z : ¬ ((h : Int) = 2) := by omega
          have h2b : ((h : Int) == 2) = false := beq_eq_false_iff_ne.2 h2z
          go_wp2_with fail
          go_meet
          case rel => exact ⟨p, h, ys, rfl, rfl, hp1, hp2, hh, hS⟩
      clear hS
      obtain ⟨w3, hwc⟩ : ∃ W, W = wc := ⟨_, rfl⟩
      subst hwc
      obtain ⟨p, h, ys, rfl, rfl, hp1, hp2, hh, hS⟩ := hcut
      go_upto_region 15 with fail
      go_cut [68] from 19 to 133 (fun s68 wx => ∃ B : Bool, s68 = .bool B ∧ wx = w3)
      case first =>
        by_cases h1 : h = 1
        · subst h1
          cases wb <;> cases wp
          all_goals
            go_wp2_with fail
            go_meet
            case rel => exact ⟨_, rfl, rfl⟩
        · have h1z : ¬ ((h : Int) = 1) := by omega
          have h1b : ((h : Int) == 1) = false := beq_eq_false_iff_ne.2 h1z
          cases wb <;> cases wp
          all_goals
            go_wp2_with fail
            go_meet
            case rel => exact ⟨_, rfl, rfl⟩
      obtain ⟨B, rfl, rfl⟩ := hcut
      go_upto_if 68 with fail
      go_cut [] from 19 to 133 (fun wx => ∃ zs : List Nat, St g n c a b a' b' xs zs w wx)
      case first =>
        cases B
        · go_wp2_with fail
          go_meet
          case rel => exact ⟨ys, hS⟩
        · have HC := Lib.hid (pis_any g n c a' b' ys (by omega) (by omega) (by omega) (hS.fins HF.out) hS.pred _ hS.row)
          go_wp2_with (go_at_call 94; refine HC.out.mono ?_; rintro e w4 ⟨t, zs, rfl, R1, P1, S1, T1⟩)
          all_goals first
            | (have ht : t = false := by assumption
               go_meet
               exact ⟨zs, hS.moved ha' hb' P1 R1 T1⟩)
            | (have ht : t = true := by assumption
               (try simp only [Exit.inBlock, Exit.then])
               refine bodyPost_ret (results_none rfl _ _ _) rfl ?_
               exact (hS.moved ha' hb' P1 R1 T1).over (S1 ht))
      clear hS
      obtain ⟨w4, hwc⟩ : ∃ W, W = wc := ⟨_, rfl⟩
      subst hwc
      obtain ⟨ys, hS⟩ := hcut
      have hyl := hS.row.len
      obtain ⟨pv, hpv⟩ := get_ex (xs := ys) (i := p) (by omega)
      have HPV := Lib.hid hpv
      have HS := Lib.hid hS
      have HYL := Lib.hid hyl
      go_upto_region 17 with fail
      go_cut [87] from 19 to 133 (fun s87 wx => ∃ B : Bool, s87 = .bool B ∧ Hid (B = true → 0 < a' ∧ ∃ u, ys[a' - 1]? = some u ∧ ltW u pv = false) ∧ ∃ k, wx = w4.drewN k)
      case first =>
        by_cases ha0 : a' = 0
        · subst ha0
          clear hS hyl hpv
          go_quiet (fail)
          go_wp2_with fail
          go_meet
          case rel => exact ⟨false, rfl, (fun e => by cases e), nq, rfl⟩
        · obtain ⟨j, rfl⟩ : ∃ j, a' = j + 1 := ⟨a' - 1, by omega⟩
          obtain ⟨u, hu⟩ := get_ex (xs := ys) (i := j) (by omega)
          have c1 : w4.cell? ⟨g, j, none⟩ = some (fV u) := hS.row.at hu
          have c2 : w4.cell? ⟨g, p, none⟩ = some (fV pv) := hS.row.at hpv
          have fz := hS.fins HF.out
          have HCL := Lib.hid (less_q (fz.at hu) (fz.at hpv) w4)
          have HU := Lib.hid hu
          have hg : decide ((j : Int) + 1 > 0) = true := decide_eq_true (by omega)
          have y1 : (j : Int) + 1 - 1 = (j : Int) := by omega
          have y2 : (0 : Int) ≤ (j : Int) := by omega
          have y3 : (j : Int) < (n : Int) := by omega
          have y4 : (0 : Int) ≤ (p : Int) := by omega
          have y5 : (p : Int) < (n : Int) := by omega
          clear hS hyl hpv hu fz
          cases hlt : ltW u pv
          · have HLT := Lib.hid hlt
            go_quiet (exact HCL.out _)
            go_wp2_with fail
            go_meet
            case rel => exact ⟨true, rfl, (fun _ => ⟨by omega, u, HU.out, HLT.out⟩), nq, rfl⟩
          · have HLT := Lib.hid hlt
            go_quiet (exact HCL.out _)
            go_wp2_with fail
            go_meet
            case rel => exact ⟨false, rfl, (fun e => by cases e), nq, rfl⟩
      clear hS hyl hpv
      obtain ⟨w5, hwc⟩ : ∃ W, W = wc := ⟨_, rfl⟩
      subst hwc
      obtain ⟨B, rfl, HB, kd, hw5⟩ := hcut
      have hS : St g n c a b a' b' xs ys w w5 := by rw [hw5]; exact HS.out.drewN kd
      clear hw5 HS
      cases B
      · have HC := Lib.hid (part_any g n c a' b' p ys hp1 hp2 (by omega) (by omega) (hS.fins HF.out) _ hS.row)
        go_upto_if 113 with (go_at_call 97; refine HC.out.mono ?_; rintro e w7 ⟨m, q, t, zs, rfl, hm1, hm2, R1, P1, K1, T1⟩)
        replace hS := hS.moved ha' hb' P1 R1 T1
        have KK := Lib.hid K1
        clear K1 T1 P1 R1 HC
        by_cases h4 : m - a' < b' - m
        · have h4z : (m : Int) - (a' : Int) < (b' : Int) - (m : Int) := by omega
          have HC := Lib.hid (IH.out a' m l zs w7 (by omega) (by omega) (by omega) hl (hS.fins HF.out) (hS.pred.sub (by omega)) hS.row)
          go_wp2_with (go_at_call 83; refine HC.out.mono ?_; intro e w8 hw8; obtain ⟨e1, e2⟩ := hS.left ha' hb' hm1 hm2 KK.out hw8; subst e1; clear hw8; obtain ⟨zs2, hS2⟩ := e2)
          go_roundg (b' - (m + 1))
          case measure => omega
          case rel => exact ⟨m + 1, b', l, _, _, zs2, by go_num, rfl, rfl, rfl, rfl, by omega, by omega, hb', Nat.le_refl _, by omega, hl, hS2⟩
        · have h4z : ¬ ((m : Int) - (a' : Int) < (b' : Int) - (m : Int)) := by omega
          have HC := Lib.hid (IH.out (m + 1) b' l zs w7 (by omega) (by omega) (by omega) hl (hS.fins HF.out) (Pred.next KK.out) hS.row)
          go_wp2_with (go_at_call 83; refine HC.out.mono ?_; intro e w8 hw8; obtain ⟨e1, e2⟩ := hS.right ha' hb' hm1 hm2 KK.out hw8; subst e1; clear hw8; obtain ⟨zs2, hS2⟩ := e2)
          go_roundg (m - a')
          case measure => omega
          case rel => exact ⟨a', m, l, _, _, zs2, rfl, rfl, rfl, rfl, rfl, ha', by omega, by omega, Nat.le_refl _, by omega, hl, hS2⟩
      · obtain ⟨h0, u, hu, hul⟩ := HB.out rfl
        have HU := Lib.hid hu
        have HUL := Lib.hid hul
        clear hu hul
        have HC := Lib.hid (partEq_any g n c a' b' p ys hp1 hp2 (by omega) (by omega) (hS.fins HF.out) _ hS.row)
        go_wp2_with (go_at_call 96; refine HC.out.mono ?_; rintro e w7 ⟨m, q, zs, rfl, hq, hm1, hm2, R1, P1, lo, hi, T1⟩)
        rw [HPV.out] at hq
        cases hq
        replace hS := hS.equal ha' hb' h0 HU.out HUL.out hm1 hm2 R1 P1 lo hi T1
        clear lo hi
        go_roundg (b' - m)
        case measure => omega
        case rel => exact ⟨m, b', l, _, _, zs, rfl, rfl, rfl, rfl, rfl, by omega, hm2, hb', Nat.le_refl _, by omega, hl, hS⟩
end

section
open Go.RowKit
attribute [local go_sem] run_store_float

set_option maxRecDepth 100000 in
theorem sortF_any (g n c : Nat) (xs : List Nat) (h1 : 1 ≤ n) (hn : n ≤ 200) (hF : Fins xs) (w : World) (hr : RowF w g n c xs) :
    Calls Tryz.prog 65 #[.slice (some ⟨g, 0, none⟩) n c] w (SortE g n c 0 n xs w) := by
  obtain ⟨k1, k2, -, -⟩ := bitLen_tab ⟨n, by omega⟩ h1
  simp only [] at k1 k2
  have HL := Lib.hid (len_any n (by omega))
  have HP : Hid (Pred ltW 0 n xs) := fun p h => absurd h (Nat.lt_irrefl 0)
  have HC := Lib.hid (pdq_any g n c hn (n + 1) 0 n (Lib.bitLen n) xs w (by omega) (Nat.zero_le _) (Nat.le_refl _) (by omega) hF HP.out hr)
  have hw : IntKind.u64.wrap (n : Int) = (n : Int) := by show (n : Int) % 18446744073709551616 = n; omega
  clear hr hF HP
  go_enter Tryz.func65, Tryz.ntmps65
  go_wp2_with (first | (go_at_call 84; refine (HL.out _).mono ?_; rintro e w' ⟨rfl, rfl⟩) | (go_at_call 83; refine HC.out.mono ?_; intro e w1 hw1; obtain ⟨e1, e2⟩ := id hw1; subst e1; clear e2))
  (try simp only [Exit.inBlock, Exit.then])
  refine bodyPost_ret (results_none rfl _ _ _) rfl ?_
  exact hw1

/-! ### Compact -/
def Vs (xs : List Nat) (q : Rat) : Prop := ∃ x ∈ xs, val x = q
/-- The first k numbers rise, and are the numbers of ys's first m. -/
structure Thin (ys zs : List Nat) (k m : Nat) : Prop where
  rise : ∀ i j x y, i < j → j < k → zs[i]? = some x → zs[j]? = some y → val x < val y
  last : ∀ x y, zs[k - 1]? = some x → ys[m - 1]? = some y → val x = val y
  mem : ∀ q, Vs (zs.take k) q ↔ Vs (ys.take m) q
  src : ∀ x ∈ zs.take k, x ∈ ys
theorem vs_snoc {xs : List Nat} {k x : Nat} (h : xs[k]? = some x) (q : Rat) : Vs (xs.take (k + 1)) q ↔ Vs (xs.take k) q ∨ val x = q := by
  unfold Vs
  rw [take_snoc h]
  constructor
  · rintro ⟨u, hu, e⟩
    rcases List.mem_append.1 hu with h | h
    · exact .inl ⟨u, h, e⟩
    · rw [List.mem_singleton.1 h] at e; exact .inr e
  · rintro (⟨u, hu, e⟩ | e)
    · exact ⟨u, List.mem_append.2 (.inl hu), e⟩
    · exact ⟨x, List.mem_append.2 (.inr (List.mem_singleton.2 rfl)), e⟩
theorem Thin.start {ys : List Nat} (_h : 1 ≤ ys.length) : Thin ys ys 1 1 :=
  ⟨fun i j x y h1 h2 => by omega, fun x y h1 h2 => by rw [h1] at h2; cases h2; rfl, fun q => Iff.rfl, fun x hx => List.mem_of_mem_take hx⟩
/-- One more, not equal to the one before. -/
theorem Thin.up {ys zs : List Nat} {k m x y : Nat} (h : Thin ys zs k m) (hk : 1 ≤ k) (hm : 1 ≤ m) (hs : SR ltW 0 ys.length ys) (hy : ys[m - 1]? = some y) (hx : ys[m]? = some x) (hz : zs[k]? = some x) (hne : val x ≠ val y) : Thin ys zs (k + 1) (m + 1) := by
  have hlt : val y < val x := by
    have := hs (m - 1) m y x (Nat.zero_le _) (by omega) (get_lt hx) hy hx
    unfold ltW at this
    have := of_decide_eq_false this
    grind
  have hall : ∀ i u, i < k → zs[i]? = some u → val u ≤ val y := by
    intro i u hi hu
    obtain ⟨v, hv⟩ := get_ex (xs := zs) (i := k - 1) (by have := get_lt hz; omega)
    have e := h.last v y hv hy
    by_cases e2 : i = k - 1
    · subst e2
      rw [hv] at hu
      cases hu
      rw [e]; exact Rat.le_refl
    · have := h.rise i (k - 1) u v (by omega) (by omega) hu hv
      rw [← e]
      exact Rat.le_of_lt this
  refine ⟨?_, ?_, ?_, ?_⟩
  · intro i j u v h1 h2 hu hv
    by_cases e : j = k
    · subst e
      rw [hz] at hv
      cases hv
      have := hall i u h1 hu
      grind
    · exact h.rise i j u v h1 (by omega) hu hv
  · intro u v hu hv
    rw [Nat.add_sub_cancel] at hu hv
    rw [hz] at hu
    rw [hx] at hv
    cases hu
    cases hv
    rfl
  · intro q
    rw [vs_snoc hz, vs_snoc hx, h.mem]
  · intro u hu
    rw [take_snoc hz] at hu
    rcases List.mem_append.1 hu with hu | hu
    · exact h.src u hu
    · rw [List.mem_singleton.1 hu]
      exact List.mem_of_getElem? hx
/-- One more, equal to the one before. -/
theorem Thin.same {ys zs : List Nat} {k m x y : Nat} (h : Thin ys zs k m) (hm : 1 ≤ m) (hy : ys[m - 1]? = some y) (hx : ys[m]? = some x) (he : val x = val y) : Thin ys zs k (m + 1) := by
  refine ⟨h.rise, ?_, ?_, h.src⟩
  · intro u v hu hv
    rw [Nat.add_sub_cancel, hx] at hv
    cases hv
    rw [h.last u y hu hy, he]
  · intro q
    rw [vs_snoc hx, h.mem]
    constructor
    · exact .inl
    · rintro (h | h)
      · exact h
      · refine ⟨y, ?_, he ▸ h⟩
        have := get_lt hx
        rw [List.mem_take_iff_getElem]
        refine ⟨m - 1, by omega, ?_⟩
        exact (List.getElem?_eq_some_iff.1 hy).2
/-- Stores at and behind place k do not count. -/
theorem Thin.ext {ys zs zs2 : List Nat} {k m : Nat} (h : Thin ys zs k m) (hk : 1 ≤ k) (e : ∀ i, i < k → zs2[i]? = zs[i]?) : Thin ys zs2 k m := by
  have et : zs2.take k = zs.take k := by
    apply List.ext_getElem?
    intro i
    rw [List.getElem?_take, List.getElem?_take]
    split
    · exact e i (by assumption)
    · rfl
  exact ⟨fun i j x y h1 h2 hx hy => h.rise i j x y h1 h2 ((e i (by omega)).symm.trans hx) ((e j h2).symm.trans hy), fun x y hx hy => h.last x y ((e _ (by omega)).symm.trans hx) hy, fun q => by rw [et]; exact h.mem q, by rw [et]; exact h.src⟩

theorem RowF.cap {w : World} {g n c : Nat} {xs : List Nat} (h : RowF w g n c xs) : n ≤ c := by
  rcases h.2 with ⟨e, _⟩ | ⟨g', cap, cur, e, h1, h2, h3, rest⟩
  · cases e
  · cases e; exact h3
theorem RowF.zeros {g n c : Nat} : ∀ (m o : Nat) (w : World) (zs : List Nat), RowF w g n c zs → ∃ zs2, RowF (w.setCells g o (List.replicate m (fV 0))) g n c zs2 ∧ (∀ i, i < o → zs2[i]? = zs[i]?) ∧ Touch g (g + 1) w (w.setCells g o (List.replicate m (fV 0)))
  | 0, o, w, zs, h => ⟨zs, h, fun _ _ => rfl, touch_refl _ _ _⟩
  | m + 1, o, w, zs, h => by
    obtain ⟨zs2, h1, h2, h3⟩ := RowF.zeros m (o + 1) (w.setCell ⟨g, o, none⟩ (fV 0)) (zs.set o 0) (h.put o 0)
    refine ⟨zs2, h1, fun i hi => ?_, (Touch.setCell w ⟨g, o, none⟩ (fV 0)).trans h3⟩
    rw [h2 i (by omega), List.getElem?_set_ne (by omega)]
def CompE (g n c : Nat) (ys : List Nat) (w : World) (e : Ending) (w' : World) : Prop :=
  ∃ k zs, e = .returned (.slice (some ⟨g, 0, none⟩) k c) ∧ 1 ≤ k ∧ k ≤ n ∧ RowF w' g n c zs ∧ Thin ys zs k n ∧ Touch g (g + 1) w w'
theorem eq_dec {x y : Nat} (hx : finB x = true) (hy : finB y = true) : (FloatKind.f32.format.order x y == some .eq) = decide (val x = val y) := eq_ord hx hy

set_option maxHeartbeats 3200000 in
set_option maxRecDepth 100000 in
theorem compact_any (g n c : Nat) (ys : List Nat) (h2 : 2 ≤ n) (hn : n ≤ 200) (hF : Fins ys) (hS : SR ltW 0 n ys) (w : World) (hr : RowF w g n c ys) :
    Calls Tryz.prog 66 #[.slice (some ⟨g, 0, none⟩) n c] w (CompE g n c ys w) := by
  have hl := hr.len
  have hcap := hr.cap
  have HL := Lib.hid hl
  have HF := Lib.hid hF
  have HR := Lib.hid hr
  have HS : Hid (SR ltW 0 ys.length ys) := by rw [hl]; exact hS
  have HT0 := Lib.hid (Thin.start (ys := ys) (by omega))
  clear hr hF hS hl
  have hn2 : ¬ (n : Int) < 2 := by omega
  go_enter Tryz.func66, Tryz.ntmps66
  go_wp2
  go_loopw [3] (fun si wr => ∃ k : Nat, si = .int .i64 k ∧ 1 ≤ k ∧ k ≤ n ∧ Hid (Thin ys ys k k) ∧ RowF wr g n c ys ∧ Touch g (g + 1) w wr) (fun si _ => n + 1 - (intOf si).toNat)
  case atStart => exact ⟨1, rfl, Nat.le_refl _, by omega, HT0, HR.out, touch_refl _ _ _⟩
  case round =>
    clear HT0 HR
    obtain ⟨k, rfl, hk1, hk2, hTh, hR, hTo⟩ := hrel
    have HRD := Lib.hid hR
    by_cases hkn : k = n
    · have hz : ¬ (k : Int) < (n : Int) := by omega
      have HK := Lib.hid hkn
      clear hkn hR
      go_wp2
      go_ret
      exact ⟨n, ys, rfl, by omega, Nat.le_refl _, HRD.out, by have := hTh.out; rw [HK.out] at this; exact this, hTo⟩
    obtain ⟨j, rfl⟩ : ∃ j, k = j + 1 := ⟨k - 1, by omega⟩
    obtain ⟨x, hx⟩ := get_ex (xs := ys) (i := j + 1) (by rw [HL.out]; omega)
    obtain ⟨y, hy⟩ := get_ex (xs := ys) (i := j) (by rw [HL.out]; omega)
    have cX : wr.cell? ⟨g, j + 1, none⟩ = some (fV x) := hR.at hx
    have cY : wr.cell? ⟨g, j, none⟩ = some (fV y) := hR.at hy
    have HX := Lib.hid hx
    have HY := Lib.hid hy
    have y0 : (0 : Int) ≤ (j : Int) + 1 := by omega
    have y1 : (j : Int) + 1 < (n : Int) := by omega
    have y2 : (j : Int) < (n : Int) := by omega
    have y3 : ((j : Int) + 1).toNat = j + 1 := by omega
    have y4 : (j : Int) + 1 - 1 = (j : Int) := by omega
    have y5 : (0 : Int) ≤ (j : Int) := by omega
    have y6 : IntKind.i64.wrap ((j : Int)) = (j : Int) := IntWalk.i64_in _ (by omega)
    have he := eq_dec (HF.out.at hx) (HF.out.at hy)
    clear hR hx hy
    by_cases hv : val x = val y
    case neg =>
      have hq : (FloatKind.f32.format.order x y == some .eq) = false := by rw [he, decide_eq_false hv]
      have HV := Lib.hid hv
      clear he hv
      go_wp2_with fail
      go_quiet (fail)
      go_wp2
      go_roundw
      case rel => exact ⟨j + 2, by go_num, by omega, by omega, hTh.out.up (by omega) (by omega) HS.out HY.out HX.out HX.out HV.out, HRD.out.drewN _, touch_drewN hTo _⟩
      case measure => simp [intOf]; omega
    have hq : (FloatKind.f32.format.order x y == some .eq) = true := by rw [he, decide_eq_true hv]
    have HT1 := Lib.hid (hTh.out.same (by omega) HY.out HX.out hv)
    clear he hv hTh
    go_wp2_with fail
    go_quiet (fail)
    have HR2 := Lib.hid (HRD.out.drewN nq)
    have HTo2 := Lib.hid (touch_drewN hTo nq)
    generalize wr.drewN nq = w2 at HR2 HTo2 ⊢
    have hck : ¬ c = j + 1 := by omega
    have hkc : j + 1 ≤ c := by omega
    clear cX cY HRD hTo hq HX HY
    go_wp2_with fail
    go_loopw [3, 5] (fun sk si wr => ∃ (k t : Nat) (zs : List Nat), sk = .int .i64 k ∧ si = .int .i64 ((t : Int) + 1) ∧ j + 1 ≤ k ∧ k < j + 2 + t ∧ j + 2 + t ≤ n ∧ Hid (Thin ys zs k (j + 2 + t)) ∧ Hid (∀ i, j + 1 + t ≤ i → zs[i]? = ys[i]?) ∧ RowF wr g n c zs ∧ Touch g (g + 1) w wr) (fun _ si _ => n + 1 - (intOf si).toNat)
    case atStart => exact ⟨j + 1, 0, ys, by first | rfl | go_num, by first | rfl | go_num, Nat.le_refl _, by omega, by omega, HT1, fun _ _ => rfl, HR2.out, HTo2.out⟩
    case round =>
      clear HT1 HR2 HTo2
      obtain ⟨k, t, zs, rfl, rfl, hk1', hk2', hk3, hTh, hEq, hR, hTo⟩ := hrel
      have HRD := Lib.hid hR
      by_cases hend : j + 2 + t = n
      · have hz : ¬ ((t : Int) + 1 < ((n - (j + 1) : Nat) : Int)) := by omega
        have hzz : ¬ ((t : Int) + 1 < (n : Int) - ((j : Int) + 1)) := by omega
        clear hR
        have hnk : 0 < n - k := by omega
        have hck2 : ¬ c = k := by omega
        have hkc2 : k ≤ c := by omega
        have hkn2 : k ≤ n := by omega
        have hcl := Lib.run_clear_slice (P := Tryz.prog) wr 24 28 0 (fV 0) (by kernel_rfl) (fun _ => rfl) rfl rfl g k (n - k) (c - k) hnk
          (fun i hi => by
            obtain ⟨u, hu⟩ := get_ex (xs := zs) (i := k + i) (by rw [HRD.out.len]; omega)
            rw [HRD.out.at hu]; rfl) (fun i _ => HRD.out.free _)
        have HZ := Lib.hid (RowF.zeros (n - k) k wr zs HRD.out)
        have HJ := Lib.hid hend
        clear hend
        go_wp2_with fail
        obtain ⟨zs2, h1, h2', h3⟩ := HZ.out
        have HZ1 := Lib.hid h1
        have HZ2 := Lib.hid h2'
        have HZ3 := Lib.hid (hTo.trans h3)
        clear h1 h2' h3 hcl HZ HRD hTo
        generalize wr.setCells g k (List.replicate (n - k) (fV 0)) = w5 at HZ1 HZ3 ⊢
        go_ret
        exact ⟨k, zs2, rfl, by omega, by omega, HZ1.out, by have := hTh.out; rw [HJ.out] at this; exact this.ext (by omega) HZ2.out, HZ3.out⟩
      · obtain ⟨x, hx⟩ := get_ex (xs := ys) (i := j + 2 + t) (by rw [HL.out]; omega)
        obtain ⟨y, hy⟩ := get_ex (xs := ys) (i := j + 1 + t) (by rw [HL.out]; omega)
        have hxz := (hEq.out (j + 2 + t) (by omega)).trans hx
        have hyz := (hEq.out (j + 1 + t) (by omega)).trans hy
        have cX : wr.cell? ⟨g, j + 1 + (t + 1), none⟩ = some (fV x) := by rw [show j + 1 + (t + 1) = j + 2 + t by omega]; exact hR.at hxz
        have cY : wr.cell? ⟨g, j + 1 + t, none⟩ = some (fV y) := hR.at hyz
        have he := eq_dec (HF.out.at hx) (HF.out.at hy)
        have HX := Lib.hid hx
        have HY := Lib.hid hy
        have hz : ((t : Int) + 1 < ((n - (j + 1) : Nat) : Int)) := by omega
        have z0 : (0 : Int) ≤ (t : Int) + 1 := by omega
        have z2 : (t : Int) < ((n - (j + 1) : Nat) : Int) := by omega
        have z3 : ((t : Int) + 1).toNat = t + 1 := by omega
        have z4 : (t : Int) + 1 - 1 = (t : Int) := by omega
        have z5 : (0 : Int) ≤ (t : Int) := by omega
        have z6 : IntKind.i64.wrap ((t : Int)) = (t : Int) := IntWalk.i64_in _ (by omega)
        clear hR hx hy hxz hyz
        by_cases hv : val x = val y
        · have hq : (FloatKind.f32.format.order x y != some .eq) = false := by rw [bne, he, decide_eq_true hv]; rfl
          have HT1 := Lib.hid (hTh.out.same (by omega) (by rw [show j + 2 + t - 1 = j + 1 + t by omega]; exact HY.out) HX.out hv)
          clear he hv
          go_wp2_with fail
          go_quiet (fail)
          go_wp2
          go_roundw
          case rel => exact ⟨k, t + 1, zs, rfl, by go_num, by omega, by omega, by omega, HT1, fun i hi => hEq.out i (by omega), HRD.out.drewN _, touch_drewN hTo _⟩
          case measure => simp [intOf]; omega
        · have hq : (FloatKind.f32.format.order x y != some .eq) = true := by rw [bne, he, decide_eq_false hv]; rfl
          have HV := Lib.hid hv
          clear he hv
          go_wp2_with fail
          go_quiet (fail)
          have HR2 := Lib.hid (HRD.out.drewN nq)
          have HTo2 := Lib.hid (touch_drewN hTo nq)
          clear cX HRD hTo cY
          have hxz := (hEq.out (j + 2 + t) (by omega)).trans HX.out
          have cX : (wr.drewN nq).cell? ⟨g, j + 1 + (t + 1), none⟩ = some (fV x) := by rw [show j + 1 + (t + 1) = j + 2 + t by omega]; exact HR2.out.at hxz
          clear hxz
          generalize wr.drewN nq = w5 at HR2 HTo2 cX ⊢
          have f1 := HR2.out.free k
          obtain ⟨u, hu⟩ := get_ex (xs := zs) (i := k) (by rw [HR2.out.len]; omega)
          have cU : w5.cell? ⟨g, k, none⟩ = some (fV u) := HR2.out.at hu
          have hkn : (k : Int) < (n : Int) := by omega
          have hk0 : (0 : Int) ≤ (k : Int) := by omega
          have HU := Lib.hid hu
          clear hu
          go_wp2
          go_roundw
          case rel => exact ⟨k + 1, t + 1, zs.set k x, by go_num, by go_num, by omega, by omega, by omega,
            (hTh.out.ext (zs2 := zs.set k x) (by omega) (fun i hi => List.getElem?_set_ne (by omega))).up (by omega) (by omega) HS.out (by rw [show j + 2 + t - 1 = j + 1 + t by omega]; exact HY.out) HX.out (by rw [List.getElem?_set_self (lt_of_get HU.out)]) HV.out,
            fun i hi => by rw [List.getElem?_set_ne (by omega)]; exact hEq.out i (by omega), HR2.out.put k x, HTo2.out.trans (Touch.setCell _ ⟨g, k, none⟩ _)⟩
          case measure => simp [intOf]; omega

/-- The first place of a number equal to x. -/
def IdxE (x : Nat) (xs : List Nat) (w : World) (e : Ending) (w' : World) : Prop :=
  ((∃ k d, e = .returned (.int .i64 (k : Nat)) ∧ xs[k]? = some d ∧ (ord32 x d == some .eq) = true ∧ ∀ (j u : Nat), j < k → xs[j]? = some u → (ord32 x u == some .eq) = false) ∨ e = .returned (.int .i64 (-1)) ∧ ∀ (j u : Nat), xs[j]? = some u → (ord32 x u == some .eq) = false) ∧ ∃ n, w.drewN n = w'
theorem index_any (v : Value) (xs : List Nat) (x : Nat) (hn : xs.length ≤ 1000000) (w : World) (hr : Rd fV w v xs) :
    Calls Tryz.prog 67 #[v, fV x] w (IdxE x xs w) := by
  obtain ⟨A, cap, rfl, hcap, hA⟩ := hr
  have HA := Lib.hid hA
  clear hA
  go_enter Tryz.func67, Tryz.ntmps67
  go_wp2
  go_loopw [8] (fun si wr => ∃ k : Nat, si = .int .i64 k ∧ k ≤ xs.length ∧ Hid (∀ (j u : Nat), j < k → xs[j]? = some u → (ord32 x u == some .eq) = false) ∧ ∃ n, w.drewN n = wr) (fun si _ => xs.length + 1 - (intOf si).toNat)
  case atStart => exact ⟨0, rfl, Nat.zero_le _, fun j u h => absurd h (Nat.not_lt_zero _), 0, rfl⟩
  case round =>
    obtain ⟨k, rfl, hk, hf, n, rfl⟩ := hrel
    by_cases hlt : k < xs.length
    · obtain ⟨u, hu⟩ := get_of_lt hlt
      obtain ⟨ad, rfl, hbl, hcell⟩ := HA.out k u hu
      have hk1 : (k : Int) < (xs.length : Int) := by omega
      have HU := Lib.hid hu
      clear hu
      cases he : (FloatKind.f32.format.order x u == some .eq)
      · have HE := Lib.hid he
        go_wp2
        go_roundw
        case rel => exact ⟨k + 1, by go_num, by omega, fun j d hj hd => by
          by_cases e : j = k
          · subst e
            rw [HU.out] at hd
            cases hd
            exact HE.out
          · exact hf.out j d (by omega) hd, _, rfl⟩
        case measure => simp [intOf]; omega
      · have HE := Lib.hid he
        go_wp2
        go_ret
        exact ⟨.inl ⟨k, u, rfl, HU.out, HE.out, hf.out⟩, _, rfl⟩
    · have hke : k = xs.length := by omega
      have HK := Lib.hid hke
      clear hke
      go_wp2
      go_ret
      exact ⟨.inr ⟨rfl, fun j u hu => hf.out j u (by rw [HK.out]; exact lt_of_get hu) hu⟩, _, rfl⟩
end
end
end Go.Proofs.YtjajlddnhmbekaaGreat
