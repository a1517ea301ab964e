/-
  slices.partialInsertionSortOrdered at float32, for finite numbers.
-/
import Derived.Test.YthdnelfggmlalaaPdqE
namespace Go.Proofs.Ythdnelfggmlalaa
open Go.RowKit
attribute [local go_sem] run_store_float

def PisE (g n c a b : Nat) (xs : List Nat) (w : World) (e : Ending) (w' : World) : Prop :=
  ∃ (t : Bool) (ys : List Nat), e = .returned (.bool t) ∧ RowF w' g n c ys ∧ PR a b xs ys ∧ (t = true → SR ltW a b ys) ∧ Touch g (g + 1) w w'
theorem SR.more {a i x y : Nat} {ys : List Nat} (h : SR ltW a i ys) (hi : a < i) (hx : ys[i]? = some x) (hy : ys[i - 1]? = some y) (hl : ltW x y = false) : SR ltW a (i + 1) ys := fun p q u v h1 h2 h3 hu hv => by
  by_cases e : q = i
  · subst e
    rw [hx] at hv
    cases hv
    by_cases e2 : p = q - 1
    · subst e2
      rw [hy] at hu
      cases hu
      exact hl
    · exact ltW_less.tr _ _ _ hl (h p (q - 1) u y h1 (by omega) (by omega) hu hy)
  · exact h p q u v h1 h2 (by omega) hu hv
set_option maxHeartbeats 6400000 in
set_option maxRecDepth 100000 in
theorem pis_any (g n c a b : Nat) (xs : List Nat) (hab : a < b) (hb : b ≤ n) (hn : n ≤ 1000000) (hF : Fins xs) (hPr : Pred ltW a b xs) (w : World) (hr : RowF w g n c xs) :
    Calls Try.prog 110 #[.slice (some ⟨g, 0, none⟩) n c, .int .i64 a, .int .i64 b] w (PisE g n c a b xs w) := by
  have HL := Lib.hid hr.len
  have HF := Lib.hid hF
  have HR := Lib.hid hr
  have HPr := Lib.hid hPr
  clear hF hr hPr
  go_enter Try.func110, Try.ntmps110
  go_wp2
  go_loopw [7, 8] (fun si sk wr => ∃ (i k : Nat) (ys : List Nat), si = .int .i64 i ∧ sk = .int .i64 k ∧ k ≤ 5 ∧ a + 1 ≤ i ∧ i ≤ b ∧ Hid (PR a b xs ys) ∧ Hid (SR ltW a i ys) ∧ RowF wr g n c ys ∧ Touch g (g + 1) w wr) (fun _ sk _ => 6 - (intOf sk).toNat)
  case atStart => exact ⟨a + 1, 0, xs, by go_num, rfl, by omega, Nat.le_refl _, by omega, PR.refl _ _ _, SR.small (Nat.le_refl _), HR.out, touch_refl _ _ _⟩
  case round =>
    obtain ⟨i, k, ys, rfl, rfl, hk, hi1, hi2, hp, hs, hR, hTo⟩ := hrel
    have HYL := Lib.hid (hp.out.len.trans HL.out)
    have HFY := Lib.hid (HF.out.perm hp.out.perm)
    by_cases hk5 : k < 5
    case neg =>
      have HRY := Lib.hid hR
      clear hR
      go_wp2
      go_ret
      exact ⟨false, ys, rfl, HRY.out, hp.out, (fun e => by cases e), hTo⟩
    go_upto_block 2 with fail
    go_cut [7] from 17 to 34 (fun si wx => ∃ i' : Nat, si = .int .i64 i' ∧ i ≤ i' ∧ i' ≤ b ∧ Hid (SR ltW a i' ys) ∧ Hid (i' = b ∨ ∃ x y, ys[i']? = some x ∧ ys[i' - 1]? = some y ∧ ltW x y = true) ∧ RowF wx g n c ys ∧ Touch g (g + 1) w wx)
    case first =>
      go_wp2_with fail
      go_loopw [7] (fun si wr => ∃ i' : Nat, si = .int .i64 i' ∧ i ≤ i' ∧ i' ≤ b ∧ Hid (SR ltW a i' ys) ∧ RowF wr g n c ys ∧ Touch g (g + 1) w wr) (fun si _ => b + 1 - (intOf si).toNat)
      case atStart => exact ⟨i, rfl, Nat.le_refl _, hi2, hs, hR, hTo⟩
      case round =>
        clear hs hR hTo
        obtain ⟨i', rfl, hj1, hj2, hs, hR, hTo⟩ := hrel
        have HRY := Lib.hid hR
        by_cases hlt : i' < b
        · obtain ⟨j, rfl⟩ : ∃ j, i' = j + 1 := ⟨i' - 1, by omega⟩
          obtain ⟨x, hx⟩ := get_ex (xs := ys) (i := j + 1) (by rw [HYL.out]; omega)
          obtain ⟨y, hy⟩ := get_ex (xs := ys) (i := j) (by rw [HYL.out]; omega)
          have y0 : (0 : Int) ≤ (j : Int) + 1 := by omega
          have y1 : (j : Int) + 1 < (n : Int) := by omega
          have y2 : (j : Int) < (n : Int) := by omega
          have y3 : ((j : Int) + 1).toNat = j + 1 := by omega
          have y4 : (j : Int) + 1 - 1 = (j : Int) := by omega
          have y5 : (0 : Int) ≤ (j : Int) := by omega
          have y6 : IntKind.i64.wrap ((j : Int)) = (j : Int) := IntWalk.i64_in _ (by omega)
          have cX : wr.cell? ⟨g, j + 1, none⟩ = some (fV x) := hR.at hx
          have cY : wr.cell? ⟨g, j, none⟩ = some (fV y) := hR.at hy
          have HCL := Lib.hid (less_q (HFY.out.at hx) (HFY.out.at hy) wr)
          have HX := Lib.hid hx
          have HY := Lib.hid hy
          have hg : decide ((j : Int) + 1 < (b : Int)) = true := decide_eq_true (by omega)
          clear hR hx hy
          cases hlc : ltW x y
          · have HLC := Lib.hid hlc
            go_wp2_with fail
            go_quiet (exact HCL.out _)
            go_wp2_with fail
            go_roundw
            case rel => exact ⟨j + 2, by go_num, by omega, by omega, hs.out.more (by omega) HX.out HY.out HLC.out, HRY.out.drewN _, touch_drewN hTo _⟩
            case measure => simp [intOf]; omega
          · have HLC := Lib.hid hlc
            go_wp2_with fail
            go_quiet (exact HCL.out _)
            go_wp2_with fail
            go_meet
            case rel => exact ⟨j + 1, by first | rfl | go_num, hj1, hj2, hs, .inr ⟨x, y, HX.out, HY.out, HLC.out⟩, HRY.out.drewN _, touch_drewN hTo _⟩
        · have hg : decide ((i' : Int) < (b : Int)) = false := decide_eq_false (by omega)
          have hg' : decide (i' < b) = false := decide_eq_false hlt
          clear hR
          go_wp2_with fail
          go_quiet (fail)
          go_wp2_with fail
          go_meet
          case rel => exact ⟨i', rfl, hj1, hj2, hs, .inl (by omega), HRY.out.drewN _, touch_drewN hTo _⟩
    obtain ⟨wI, hwc⟩ : ∃ W, W = wc := ⟨_, rfl⟩
    subst hwc
    clear hs hR hTo
    obtain ⟨i2, rfl, hi1', hi2', hs, hXi, hR, hTo⟩ := hcut
    by_cases hend : i2 = b
    · have HRY := Lib.hid hR
      have HSE : Hid (SR ltW a b ys) := by rw [← hend]; exact hs.out
      subst hend
      clear hR
      go_wp2
      go_ret
      exact ⟨true, ys, rfl, HRY.out, hp.out, fun _ => HSE.out, hTo⟩
    have heb : ((i2 : Int) == (b : Int)) = false := beq_eq_false_iff_ne.2 (by omega)
    by_cases h50 : b < a + 50
    · have HRY := Lib.hid hR
      have hs50 : (b : Int) - (a : Int) < 50 := by omega
      clear hR
      go_wp2
      go_ret
      exact ⟨false, ys, rfl, HRY.out, hp.out, (fun e => by cases e), hTo⟩
    have hs50 : ¬ (b : Int) - (a : Int) < 50 := by omega
    obtain ⟨i3, rfl⟩ : ∃ i3, i2 = i3 + 1 := ⟨i2 - 1, by omega⟩
    obtain ⟨x, y, hx, hy, hlx⟩ : ∃ x y, ys[i3 + 1]? = some x ∧ ys[i3]? = some y ∧ ltW x y = true := by
      rcases hXi.out with h | h
      · exact absurd h hend
      · rw [Nat.add_sub_cancel] at h; exact h
    have y0 : (0 : Int) ≤ (i3 : Int) + 1 := by omega
    have y1 : (i3 : Int) + 1 < (n : Int) := by omega
    have y2 : (i3 : Int) < (n : Int) := by omega
    have y3 : ((i3 : Int) + 1).toNat = i3 + 1 := by omega
    have y4 : (i3 : Int) + 1 - 1 = (i3 : Int) := by omega
    have y5 : (0 : Int) ≤ (i3 : Int) := by omega
    have y6 : IntKind.i64.wrap ((i3 : Int)) = (i3 : Int) := IntWalk.i64_in _ (by omega)
    have cX : wI.cell? ⟨g, i3 + 1, none⟩ = some (fV x) := hR.at hx
    have cY : wI.cell? ⟨g, i3, none⟩ = some (fV y) := hR.at hy
    have f1 := hR.free (i3 + 1)
    have f2 := hR.free i3
    have c3 : (wI.setCell ⟨g, i3 + 1, none⟩ (fV y)).cell? ⟨g, i3, none⟩ = some (fV y) := swap_cell hR (by omega) hy
    have HS : Hid (RowF ((wI.setCell ⟨g, i3 + 1, none⟩ (fV y)).setCell ⟨g, i3, none⟩ (fV x)).drew g n c (sw ys (i3 + 1) i3 x y)) := (hR.sw (i3 + 1) i3 x y).drew
    have HPS := Lib.hid (hp.out.trans (PR.sw (a := a) (b := b) hx hy (by omega) (by omega) (by omega) (by omega)))
    have HSS : Hid (SR ltW a i3 (sw ys (i3 + 1) i3 x y)) := (hs.out.sub (Nat.le_refl _) (by omega)).same fun q h1 h2 => by rw [sw_get hx hy, if_neg (by omega), if_neg (by omega)]
    have HTS : Hid (Touch g (g + 1) w ((wI.setCell ⟨g, i3 + 1, none⟩ (fV y)).setCell ⟨g, i3, none⟩ (fV x)).drew) := hTo.trans ((touch_swap wI g (i3 + 1) i3 (fV y) (fV x)).trans (touch_drewN (touch_refl _ _ _) 1))
    clear hR hx hy hlx hXi
    go_wp2_with fail
    go_region
    obtain ⟨w6, hw6⟩ : ∃ W, W = ((wI.setCell ⟨g, i3 + 1, none⟩ (fV y)).setCell ⟨g, i3, none⟩ (fV x)).drew := ⟨_, rfl⟩
    rw [← hw6] at HS HTS ⊢
    obtain ⟨y2s, hy2s⟩ : ∃ l, l = sw ys (i3 + 1) i3 x y := ⟨_, rfl⟩
    rw [← hy2s] at HS HPS HSS
    clear hw6 hy2s cX cY c3 f1 f2 hp hs hTo HYL HFY
    go_upto_if 61 with fail
    go_cut [9, 61] from 62 to 94 (fun _ _ wx => ∃ zs : List Nat, Hid (PR a b xs zs) ∧ Hid (SR ltW a (i3 + 1) zs) ∧ RowF wx g n c zs ∧ Touch g (g + 1) w wx)
    case first =>
      by_cases h2 : a + 1 ≤ i3
      case neg =>
        have hg : decide ((i3 : Int) + 1 - (a : Int) ≥ 2) = false := decide_eq_false (by omega)
        have hg2 : ¬ (i3 : Int) + 1 - (a : Int) ≥ 2 := by omega
        go_wp2_with fail
        go_meet
        case rel => exact ⟨y2s, HPS, SR.small (by omega), HS.out, HTS.out⟩
      have hg : decide ((i3 : Int) + 1 - (a : Int) ≥ 2) = true := decide_eq_true (by omega)
      have hg2 : (i3 : Int) + 1 - (a : Int) ≥ 2 := by omega
      go_wp2_with fail
      go_loopw [9] (fun sj wr => ∃ (j : Nat) (zs : List Nat), sj = .int .i64 j ∧ a ≤ j ∧ j ≤ i3 ∧ Hid (PR a b xs zs) ∧ Hid (InsI a i3 j zs) ∧ RowF wr g n c zs ∧ Touch g (g + 1) w wr) (fun sj _ => (intOf sj).toNat)
      case atStart => exact ⟨i3, y2s, by first | rfl | go_num, by omega, Nat.le_refl _, HPS, InsI.start HSS.out, HS.out, HTS.out⟩
      case round =>
        clear HS HTS HSS HPS
        obtain ⟨j, zs, rfl, hja, hji, hp, hI, hR, hTo⟩ := hrel
        have HZL := Lib.hid (hp.out.len.trans HL.out)
        have HRZ := Lib.hid hR
        by_cases hj0 : j = 0
        · have hg3 : ¬ (j : Int) ≥ 1 := by omega
          have hja2 : j = a := by omega
          have HJA := Lib.hid hja2
          clear hR hj0 hja2
          go_wp2_with fail
          go_meet
          case rel => exact ⟨zs, hp, hI.out.done (.inl HJA.out) hja (by rw [HZL.out]; omega), HRZ.out, hTo⟩
        obtain ⟨j', rfl⟩ : ∃ j', j = j' + 1 := ⟨j - 1, by omega⟩
        obtain ⟨x, hx⟩ := get_ex (xs := zs) (i := j' + 1) (by rw [HZL.out]; omega)
        obtain ⟨y, hy⟩ := get_ex (xs := zs) (i := j') (by rw [HZL.out]; omega)
        have y0 : (0 : Int) ≤ (j' : Int) + 1 := by omega
        have y1 : (j' : Int) + 1 < (n : Int) := by omega
        have y2 : (j' : Int) < (n : Int) := by omega
        have y3 : ((j' : Int) + 1).toNat = j' + 1 := by omega
        have y4 : (j' : Int) + 1 - 1 = (j' : Int) := by omega
        have y5 : (0 : Int) ≤ (j' : Int) := by omega
        have y6 : IntKind.i64.wrap ((j' : Int)) = (j' : Int) := IntWalk.i64_in _ (by omega)
        have cX : wr.cell? ⟨g, j' + 1, none⟩ = some (fV x) := hR.at hx
        have cY : wr.cell? ⟨g, j', none⟩ = some (fV y) := hR.at hy
        have fz := HF.out.perm hp.out.perm
        have HCL := Lib.hid (less_q (fz.at hx) (fz.at hy) wr)
        have HX := Lib.hid hx
        have HY := Lib.hid hy
        have HNB : Hid (ltW x y = true → a ≤ j') := fun hl => by
          by_cases e : a ≤ j'
          · exact e
          · have e2 : a = j' + 1 := by omega
            have h := HPr.out.moved hp.out y (by omega) (by rw [show a - 1 = j' by omega]; exact hy) (j' + 1) x (by omega) (by omega) hx
            rw [h] at hl
            cases hl
        clear hR hx hy fz
        cases hlc : ltW x y
        · have HLC := Lib.hid hlc
          go_wp2_with fail
          go_quiet (exact HCL.out _)
          go_wp2_with fail
          go_meet
          case rel => exact ⟨zs, hp, hI.out.done (.inr fun u v hu hv => by
            rw [HX.out] at hu
            rw [Nat.add_sub_cancel, HY.out] at hv
            cases hu
            cases hv
            exact HLC.out) hja (by rw [HZL.out]; omega), HRZ.out.drewN _, touch_drewN hTo _⟩
        · have HLC := Lib.hid hlc
          have haj := HNB.out hlc
          go_wp2_with fail
          go_quiet (exact HCL.out _)
          go_wp2_with fail
          have hR3 := HRZ.out.drewN nq
          have c1' := hR3.at HX.out
          have c2' := hR3.at HY.out
          have f1 := hR3.free j'
          have f2 := hR3.free (j' + 1)
          have hTT := touch_drewN hTo nq
          clear cX cY
          generalize wr.drewN nq = w5 at hR3 c1' c2' f1 f2 hTT ⊢
          have c3 : (w5.setCell ⟨g, j' + 1, none⟩ (fV y)).cell? ⟨g, j', none⟩ = some (fV y) := swap_cell hR3 (by omega) HY.out
          have HSW := Lib.hid (hR3.sw (j' + 1) j' x y)
          clear hR3
          go_region
          go_wp2_with fail
          go_roundw
          case rel => exact ⟨j', Go.Proofs.Ythdnelfggmlalaa.sw zs (j' + 1) j' x y, by go_num, haj, by omega, hp.out.trans (PR.sw HX.out HY.out (by omega) (by omega) (by omega) (by omega)), hI.out.step haj hji HX.out HY.out HLC.out, HSW.out.drew, hTT.trans ((touch_swap _ _ _ _ _ _).trans (touch_drewN (touch_refl _ _ _) 1))⟩
          case measure => first | (simp [intOf]; done) | (simp [intOf]; omega)
    obtain ⟨wL, hwc⟩ : ∃ W, W = wc := ⟨_, rfl⟩
    subst hwc
    clear HS HTS HSS HPS
    obtain ⟨zs, hp, hs, hR, hTo⟩ := hcut
    by_cases h2 : i3 + 3 ≤ b
    case neg =>
      have hg : decide ((b : Int) - ((i3 : Int) + 1) ≥ 2) = false := decide_eq_false (by omega)
      have hg2 : ¬ (b : Int) - ((i3 : Int) + 1) ≥ 2 := by omega
      have HRZ := Lib.hid hR
      clear hR
      go_wp2
      go_roundw
      case rel => exact ⟨i3 + 1, k + 1, zs, by first | rfl | go_num, by go_num, by omega, by omega, by omega, hp, hs, HRZ.out, hTo⟩
      case measure => simp [intOf]; omega
    have hg : decide ((b : Int) - ((i3 : Int) + 1) ≥ 2) = true := decide_eq_true (by omega)
    have hg2 : (b : Int) - ((i3 : Int) + 1) ≥ 2 := by omega
    have HRZ := Lib.hid hR
    clear hR
    go_wp2_with fail
    go_loopw [10] (fun sj wr => ∃ (j : Nat) (zs : List Nat), sj = .int .i64 ((j : Int) + 1) ∧ i3 + 1 ≤ j ∧ j + 1 ≤ b ∧ Hid (PR a b xs zs) ∧ Hid (SR ltW a (i3 + 1) zs) ∧ RowF wr g n c zs ∧ Touch g (g + 1) w wr) (fun sj _ => b + 1 - (intOf sj).toNat)
    case atStart => exact ⟨i3 + 1, zs, by first | rfl | go_num, Nat.le_refl _, by omega, hp, hs, HRZ.out, hTo⟩
    case round =>
      clear HRZ hp hs hTo
      obtain ⟨j, zs, rfl, hj1, hj2, hp, hs, hR, hTo⟩ := hrel
      have HZL := Lib.hid (hp.out.len.trans HL.out)
      have HRZ := Lib.hid hR
      by_cases hj0 : j + 1 = b
      · have hg3 : ¬ (j : Int) + 1 < (b : Int) := by omega
        clear hR
        go_wp2
        go_roundw
        case rel => exact ⟨i3 + 1, k + 1, zs, by first | rfl | go_num, by go_num, by omega, by omega, by omega, hp, hs, HRZ.out, hTo⟩
        case measure => simp [intOf]; omega
      have hg3 : (j : Int) + 1 < (b : Int) := by omega
      obtain ⟨x, hx⟩ := get_ex (xs := zs) (i := j + 1) (by rw [HZL.out]; omega)
      obtain ⟨y, hy⟩ := get_ex (xs := zs) (i := j) (by rw [HZL.out]; omega)
      have y0 : (0 : Int) ≤ (j : Int) + 1 := by omega
      have y1 : (j : Int) + 1 < (n : Int) := by omega
      have y2 : (j : Int) < (n : Int) := by omega
      have y3 : ((j : Int) + 1).toNat = j + 1 := by omega
      have y4 : (j : Int) + 1 - 1 = (j : Int) := by omega
      have y5 : (0 : Int) ≤ (j : Int) := by omega
      have y6 : IntKind.i64.wrap ((j : Int)) = (j : Int) := IntWalk.i64_in _ (by omega)
      have cX : wr.cell? ⟨g, j + 1, none⟩ = some (fV x) := hR.at hx
      have cY : wr.cell? ⟨g, j, none⟩ = some (fV y) := hR.at hy
      have fz := HF.out.perm hp.out.perm
      have HCL := Lib.hid (less_q (fz.at hx) (fz.at hy) wr)
      have HX := Lib.hid hx
      have HY := Lib.hid hy
      clear hR hx hy fz
      cases hlc : ltW x y
      · go_wp2_with fail
        go_quiet (exact HCL.out _)
        go_wp2
        go_roundw
        case rel => exact ⟨i3 + 1, k + 1, zs, by first | rfl | go_num, by go_num, by omega, by omega, by omega, hp, hs, HRZ.out.drewN _, touch_drewN hTo _⟩
        case measure => simp [intOf]; omega
      · go_wp2_with fail
        go_quiet (exact HCL.out _)
        go_wp2_with fail
        have hR3 := HRZ.out.drewN nq
        have c1' := hR3.at HX.out
        have c2' := hR3.at HY.out
        have f1 := hR3.free j
        have f2 := hR3.free (j + 1)
        have hTT := touch_drewN hTo nq
        clear cX cY
        generalize wr.drewN nq = w5 at hR3 c1' c2' f1 f2 hTT ⊢
        have c3 : (w5.setCell ⟨g, j + 1, none⟩ (fV y)).cell? ⟨g, j, none⟩ = some (fV y) := swap_cell hR3 (by omega) HY.out
        have HSW := Lib.hid (hR3.sw (j + 1) j x y)
        clear hR3
        go_region
        go_wp2_with fail
        go_roundw
        case rel => exact ⟨j + 1, Go.Proofs.Ythdnelfggmlalaa.sw zs (j + 1) j x y, by go_num, by omega, by omega, hp.out.trans (PR.sw HX.out HY.out (by omega) (by omega) (by omega) (by omega)), hs.out.same (fun q h1 h2 => by rw [sw_get HX.out HY.out, if_neg (by omega), if_neg (by omega)]), HSW.out.drew, hTT.trans ((touch_swap _ _ _ _ _ _).trans (touch_drewN (touch_refl _ _ _) 1))⟩
        case measure => simp [intOf]; omega
end Go.Proofs.Ythdnelfggmlalaa
