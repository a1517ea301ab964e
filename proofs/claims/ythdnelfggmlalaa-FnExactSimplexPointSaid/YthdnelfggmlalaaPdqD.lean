/-
  slices.siftDownOrdered and heapSortOrdered at float32, for finite numbers.
-/
import Derived.Test.YthdnelfggmlalaaPdqB
import Derived.Test.YthdnelfggmlalaaPdqP
namespace Go.Proofs.Ythdnelfggmlalaa
open Go.RowKit
attribute [local go_sem] run_store_float

def SiftE (g n c f lo hi : Nat) (xs : List Nat) (w : World) (e : Ending) (w' : World) : Prop :=
  e = .returned (.tuple #[]) ∧ ∃ ys, RowF w' g n c ys ∧ PR f (f + hi) xs ys ∧ HeapR ltW f lo hi ys ∧ Touch g (g + 1) w w'
set_option maxHeartbeats 3200000 in
set_option maxRecDepth 100000 in
theorem sift_any (g n c f lo hi : Nat) (xs : List Nat) (hlo : lo ≤ 1000000) (hfh : f + hi ≤ n) (hn : n ≤ 1000000) (hF : Fins xs) (hH : HeapR ltW f (lo + 1) hi xs) (w : World) (hr : RowF w g n c xs) :
    Calls Try.prog 124 #[.slice (some ⟨g, 0, none⟩) n c, .int .i64 lo, .int .i64 hi, .int .i64 f] w (SiftE g n c f lo hi xs w) := by
  have HL := Lib.hid hr.len
  have HF := Lib.hid hF
  have HR := Lib.hid hr
  have HH := Lib.hid hH
  clear hF hr hH
  go_enter Try.func124, Try.ntmps124
  go_wp2
  go_loopw [8] (fun si wr => ∃ (r : Nat) (ys : List Nat), si = .int .i64 r ∧ lo ≤ r ∧ r ≤ 1000000 ∧ Hid (PR f (f + hi) xs ys) ∧ Hid (SiftI ltW f lo hi r ys) ∧ RowF wr g n c ys ∧ Touch g (g + 1) w wr) (fun si _ => hi + 1 - (intOf si).toNat)
  case atStart => exact ⟨lo, xs, rfl, Nat.le_refl _, hlo, PR.refl _ _ _, SiftI.start HH.out, HR.out, touch_refl _ _ _⟩
  case round =>
    obtain ⟨r, ys, rfl, hr1, hr2, hp, hI, hR, hTo⟩ := hrel
    have HRY := Lib.hid hR
    have HYL := Lib.hid (hp.out.len.trans HL.out)
    have HFY := Lib.hid (HF.out.perm hp.out.perm)
    by_cases hc : hi ≤ 2 * r + 1
    · clear hR
      go_wp2
      refine bodyPost_ret (results_none rfl _ _ _) rfl ?_
      exact ⟨rfl, ys, HRY.out, hp.out, hI.out.leaf hc, hTo⟩
    · obtain ⟨d, hd⟩ : ∃ d, d = 2 * r + 1 := ⟨_, rfl⟩
      have hd1 : (2 : Int) * (r : Int) + 1 = (d : Int) := by omega
      have hdh : d < hi := by omega
      have hdh' : ¬ (d : Int) ≥ (hi : Int) := by omega
      obtain ⟨x, hx⟩ := get_ex (xs := ys) (i := f + r) (by rw [HYL.out]; omega)
      obtain ⟨y, hy⟩ := get_ex (xs := ys) (i := f + d) (by rw [HYL.out]; omega)
      have HX := Lib.hid hx
      have HY := Lib.hid hy
      have c0 : wr.cell? ⟨g, f + r, none⟩ = some (fV x) := hR.at hx
      have c1 : wr.cell? ⟨g, f + d, none⟩ = some (fV y) := hR.at hy
      have z0 : (0 : Int) ≤ (f : Int) + (r : Int) := by omega
      have z1 : (f : Int) + (r : Int) < (n : Int) := by omega
      have z2 : ((f : Int) + (r : Int)).toNat = f + r := by omega
      have z3 : (0 : Int) ≤ (f : Int) + (d : Int) := by omega
      have z4 : (f : Int) + (d : Int) < (n : Int) := by omega
      have z5 : ((f : Int) + (d : Int)).toNat = f + d := by omega
      have HD := Lib.hid hd
      clear hR hx hy hd hc
      by_cases h2 : d + 1 < hi
      · obtain ⟨y2, hy2⟩ := get_ex (xs := ys) (i := f + (d + 1)) (by rw [HYL.out]; omega)
        have HY2 := Lib.hid hy2
        have c2 : wr.cell? ⟨g, f + (d + 1), none⟩ = some (fV y2) := HRY.out.at hy2
        have HCL := Lib.hid (less_q (HFY.out.at HY.out) (HFY.out.at hy2) wr)
        have hg2 : decide ((d : Int) + 1 < (hi : Int)) = true := decide_eq_true (by omega)
        have z6 : (0 : Int) ≤ (f : Int) + (d : Int) + 1 := by omega
        have z7 : (f : Int) + (d : Int) + 1 < (n : Int) := by omega
        have z8 : ((f : Int) + (d : Int) + 1).toNat = f + (d + 1) := by omega
        have z9 : (0 : Int) ≤ (f : Int) + ((d : Int) + 1) := by omega
        have z10 : (f : Int) + ((d : Int) + 1) < (n : Int) := by omega
        have z11 : ((f : Int) + ((d : Int) + 1)).toNat = f + (d + 1) := by omega
        clear hy2
        cases hlt2 : ltW y y2
        · have HL2 := Lib.hid hlt2
          go_wp2_with fail
          go_quiet (exact HCL.out _)
          go_wp2_with fail
          have HRQ : Hid (RowF (wr.drewN nq) g n c ys) := HRY.out.drewN nq
          have HTQ := Lib.hid (touch_drewN hTo nq)
          have q0 := HRQ.out.at HX.out
          have q1 := HRQ.out.at HY.out
          clear c2
          clear c0 c1
          generalize wr.drewN nq = wq at *
          have HG : Hid (Great ltW f hi r (d) ys) := ⟨.inl HD.out, hdh, fun e u v he _ hu hv => by
            rw [HY.out] at hu
            cases hu
            rcases he with he | he
            · rw [he, ← HD.out, HY.out] at hv
              cases hv
              exact ltW_less.irr _
            · rw [he, show 2 * r + 2 = d + 1 by rw [HD.out], HY2.out] at hv
              cases hv
              exact HL2.out⟩
          have hcc : (d) < hi ∧ r < (d) := by have h1 := HG.out.1; exact ⟨HG.out.2.1, by omega⟩
          have HCL2 := Lib.hid (less_q (HFY.out.at HX.out) (HFY.out.at HY.out) wq)
          cases hlc : ltW x y
          · have HLC := Lib.hid hlc
            go_wp2_with fail
            go_quiet (exact HCL2.out _)
            go_wp2
            refine bodyPost_ret (results_none rfl _ _ _) rfl ?_
            exact ⟨rfl, ys, HRQ.out.drewN _, hp.out, hI.out.done ltW_less HG.out HX.out HY.out HLC.out, touch_drewN HTQ.out _⟩
          · have HLC := Lib.hid hlc
            go_wp2_with fail
            go_quiet (exact HCL2.out _)
            go_wp2_with fail
            have hR3 := HRQ.out.drewN nq
            have c0' := hR3.at HX.out
            have c1' := hR3.at HY.out
            have f1 := hR3.free (f + r)
            have f2 := hR3.free (f + (d))
            have hTT := touch_drewN HTQ.out nq
            clear q0 q1
            try clear q2
            generalize wq.drewN nq = w5 at hR3 c0' c1' f1 f2 hTT ⊢
            have c3 : (w5.setCell ⟨g, f + r, none⟩ (fV y)).cell? ⟨g, f + (d), none⟩ = some (fV y) := swap_cell hR3 (by omega) HY.out
            have HS := Lib.hid (hR3.sw (f + r) (f + (d)) x y)
            clear hR3
            go_region
            go_wp2
            go_roundw
            case rel => exact ⟨d, Go.Proofs.Ythdnelfggmlalaa.sw ys (f + r) (f + (d)) x y, by first | rfl | go_num, by omega, by omega, hp.out.trans (PR.sw HX.out HY.out (by omega) (by omega) (by omega) (by omega)), hI.out.step ltW_less hr1 HG.out HX.out HY.out HLC.out, HS.out.drew, hTT.trans ((touch_swap _ _ _ _ _ _).trans (touch_drewN (touch_refl _ _ _) 1))⟩
            case measure => simp [intOf]; omega
        · have HL2 := Lib.hid hlt2
          go_wp2_with fail
          go_quiet (exact HCL.out _)
          go_wp2_with fail
          have HRQ : Hid (RowF (wr.drewN nq) g n c ys) := HRY.out.drewN nq
          have HTQ := Lib.hid (touch_drewN hTo nq)
          have q0 := HRQ.out.at HX.out
          have q1 := HRQ.out.at HY.out
          have q2 := HRQ.out.at HY2.out
          clear c2
          clear c0 c1
          generalize wr.drewN nq = wq at *
          have HG : Hid (Great ltW f hi r (d + 1) ys) := ⟨.inr (by rw [HD.out]), h2, fun e u v he _ hu hv => by
            rw [HY2.out] at hu
            cases hu
            rcases he with he | he
            · rw [he, ← HD.out, HY.out] at hv
              cases hv
              exact ltW_less.asym _ _ HL2.out
            · rw [he, show 2 * r + 2 = d + 1 by rw [HD.out], HY2.out] at hv
              cases hv
              exact ltW_less.irr _⟩
          have hcc : (d + 1) < hi ∧ r < (d + 1) := by have h1 := HG.out.1; exact ⟨HG.out.2.1, by omega⟩
          have HCL2 := Lib.hid (less_q (HFY.out.at HX.out) (HFY.out.at HY2.out) wq)
          cases hlc : ltW x y2
          · have HLC := Lib.hid hlc
            go_wp2_with fail
            go_quiet (exact HCL2.out _)
            go_wp2
            refine bodyPost_ret (results_none rfl _ _ _) rfl ?_
            exact ⟨rfl, ys, HRQ.out.drewN _, hp.out, hI.out.done ltW_less HG.out HX.out HY2.out HLC.out, touch_drewN HTQ.out _⟩
          · have HLC := Lib.hid hlc
            go_wp2_with fail
            go_quiet (exact HCL2.out _)
            go_wp2_with fail
            have hR3 := HRQ.out.drewN nq
            have c0' := hR3.at HX.out
            have c1' := hR3.at HY2.out
            have f1 := hR3.free (f + r)
            have f2 := hR3.free (f + (d + 1))
            have hTT := touch_drewN HTQ.out nq
            clear q0 q1
            try clear q2
            generalize wq.drewN nq = w5 at hR3 c0' c1' f1 f2 hTT ⊢
            have c3 : (w5.setCell ⟨g, f + r, none⟩ (fV y2)).cell? ⟨g, f + (d + 1), none⟩ = some (fV y2) := swap_cell hR3 (by omega) HY2.out
            have HS := Lib.hid (hR3.sw (f + r) (f + (d + 1)) x y2)
            clear hR3
            go_region
            go_wp2
            go_roundw
            case rel => exact ⟨d + 1, Go.Proofs.Ythdnelfggmlalaa.sw ys (f + r) (f + (d + 1)) x y2, by first | rfl | go_num, by omega, by omega, hp.out.trans (PR.sw HX.out HY2.out (by omega) (by omega) (by omega) (by omega)), hI.out.step ltW_less hr1 HG.out HX.out HY2.out HLC.out, HS.out.drew, hTT.trans ((touch_swap _ _ _ _ _ _).trans (touch_drewN (touch_refl _ _ _) 1))⟩
            case measure => simp [intOf]; omega
      · have hg2 : decide ((d : Int) + 1 < (hi : Int)) = false := decide_eq_false (by omega)
        go_wp2_with fail
        go_quiet (fail)
        go_wp2_with fail
        have HRQ : Hid (RowF (wr.drewN nq) g n c ys) := HRY.out.drewN nq
        have HTQ := Lib.hid (touch_drewN hTo nq)
        have q0 := HRQ.out.at HX.out
        have q1 := HRQ.out.at HY.out
        clear c0 c1
        generalize wr.drewN nq = wq at *
        have HG : Hid (Great ltW f hi r (d) ys) := ⟨.inl HD.out, hdh, fun e u v he hle hu hv => by
          rw [HY.out] at hu
          cases hu
          rcases he with he | he
          · rw [he, ← HD.out, HY.out] at hv
            cases hv
            exact ltW_less.irr _
          · have := HD.out
            omega⟩
        have hcc : (d) < hi ∧ r < (d) := by have h1 := HG.out.1; exact ⟨HG.out.2.1, by omega⟩
        have HCL2 := Lib.hid (less_q (HFY.out.at HX.out) (HFY.out.at HY.out) wq)
        cases hlc : ltW x y
        · have HLC := Lib.hid hlc
          go_wp2_with fail
          go_quiet (exact HCL2.out _)
          go_wp2
          refine bodyPost_ret (results_none rfl _ _ _) rfl ?_
          exact ⟨rfl, ys, HRQ.out.drewN _, hp.out, hI.out.done ltW_less HG.out HX.out HY.out HLC.out, touch_drewN HTQ.out _⟩
        · have HLC := Lib.hid hlc
          go_wp2_with fail
          go_quiet (exact HCL2.out _)
          go_wp2_with fail
          have hR3 := HRQ.out.drewN nq
          have c0' := hR3.at HX.out
          have c1' := hR3.at HY.out
          have f1 := hR3.free (f + r)
          have f2 := hR3.free (f + (d))
          have hTT := touch_drewN HTQ.out nq
          clear q0 q1
          try clear q2
          generalize wq.drewN nq = w5 at hR3 c0' c1' f1 f2 hTT ⊢
          have c3 : (w5.setCell ⟨g, f + r, none⟩ (fV y)).cell? ⟨g, f + (d), none⟩ = some (fV y) := swap_cell hR3 (by omega) HY.out
          have HS := Lib.hid (hR3.sw (f + r) (f + (d)) x y)
          clear hR3
          go_region
          go_wp2
          go_roundw
          case rel => exact ⟨d, Go.Proofs.Ythdnelfggmlalaa.sw ys (f + r) (f + (d)) x y, by first | rfl | go_num, by omega, by omega, hp.out.trans (PR.sw HX.out HY.out (by omega) (by omega) (by omega) (by omega)), hI.out.step ltW_less hr1 HG.out HX.out HY.out HLC.out, HS.out.drew, hTT.trans ((touch_swap _ _ _ _ _ _).trans (touch_drewN (touch_refl _ _ _) 1))⟩
          case measure => simp [intOf]; omega

theorem swap_cell_any {w : World} {g n c i j : Nat} {xs : List Nat} {x y : Nat} (h : RowF w g n c xs) (hx : xs[i]? = some x) (hy : xs[j]? = some y) : (w.setCell ⟨g, i, none⟩ (fV y)).cell? ⟨g, j, none⟩ = some (fV y) := by
  by_cases e : j = i
  · subst e
    exact World.cell?_setCell_same' _ _ _ (by rw [h.at hx]; rfl)
  · exact swap_cell h e hy
set_option maxHeartbeats 3200000 in
set_option maxRecDepth 100000 in
theorem heapF_any (g n c a b : Nat) (xs : List Nat) (hab : a < b) (hb : b ≤ n) (hn : n ≤ 1000000) (hF : Fins xs) (w : World) (hr : RowF w g n c xs) :
    Calls Try.prog 106 #[.slice (some ⟨g, 0, none⟩) n c, .int .i64 a, .int .i64 b] w (SortE g n c a b xs w) := by
  have HL := Lib.hid hr.len
  have HF := Lib.hid hF
  have HR := Lib.hid hr
  obtain ⟨N, hN⟩ : ∃ N, N = b - a := ⟨_, rfl⟩
  obtain ⟨M, hM⟩ : ∃ M, M = (N - 1) / 2 := ⟨_, rfl⟩
  have hN1 : (b : Int) - (a : Int) = (N : Int) := by omega
  have hNpos : 1 ≤ N := by omega
  have hM1 : ((N : Int) - 1) / 2 = (M : Int) := by omega
  have hM2 : N ≤ 2 * (M + 1) + 1 := by omega
  have hMN : M < N := by omega
  have haN : a + N = b := by omega
  have HN := Lib.hid hN
  have HM1 := Lib.hid hM1
  clear hF hr hM hN hM1
  go_enter Try.func106, Try.ntmps106
  go_wp2
  go_loopw [9] (fun si wr => ∃ (k : Nat) (ys : List Nat), si = .int .i64 ((k : Int) - 1) ∧ k ≤ M + 1 ∧ Hid (PR a b xs ys) ∧ Hid (HeapR ltW a k N ys) ∧ RowF wr g n c ys ∧ Touch g (g + 1) w wr) (fun si _ => (intOf si + 1).toNat)
  case atStart => exact ⟨M + 1, xs, by have h := HM1.out; congr 1; omega, Nat.le_refl _, PR.refl _ _ _, HeapR.vac hM2, HR.out, touch_refl _ _ _⟩
  case round =>
    obtain ⟨k, ys, rfl, hk, hp, hH, hR, hTo⟩ := hrel
    by_cases hk0 : k = 0
    · subst hk0
      have hneg : ¬ ((0 : Nat) : Int) - 1 ≥ 0 := by omega
      have HRY := Lib.hid hR
      clear hR
      obtain ⟨w2, rfl⟩ : ∃ w2, w2 = wr := ⟨_, rfl⟩
      go_wp2
      go_loopw [10] (fun si wr => ∃ (k : Nat) (ys : List Nat), si = .int .i64 ((k : Int) - 1) ∧ k ≤ N ∧ Hid (PR a b xs ys) ∧ Hid (HeapR ltW a 0 k ys) ∧ Hid (Tail ltW a k N ys) ∧ RowF wr g n c ys ∧ Touch g (g + 1) w wr) (fun si _ => (intOf si + 1).toNat)
      case atStart => exact ⟨N, ys, by first | rfl | go_num, Nat.le_refl _, hp, hH, Tail.start, HRY.out, hTo⟩
      case round =>
        clear hp hH HRY hTo
        obtain ⟨k, ys, rfl, hk, hp, hH, hTl, hR, hTo⟩ := hrel
        have hyl := hp.out.len.trans HL.out
        by_cases hk0 : k = 0
        · subst hk0
          have hneg2 : ¬ ((0 : Nat) : Int) - 1 ≥ 0 := by omega
          have HRY := Lib.hid hR
          have HSR : Hid (SR ltW a b ys) := by
            have h := hTl.out
            rw [HN.out] at h
            exact h.sorted
          clear hR hyl
          go_wp2
          refine bodyPost_ret (results_none rfl _ _ _) rfl ?_
          exact ⟨rfl, ys, HRY.out, hp.out, HSR.out, hTo⟩
        · obtain ⟨i, rfl⟩ : ∃ i, k = i + 1 := ⟨k - 1, by omega⟩
          have ei : ((i + 1 : Nat) : Int) - 1 = (i : Int) := by omega
          rw [ei]
          obtain ⟨x, hx⟩ := get_ex (xs := ys) (i := a) (by omega)
          obtain ⟨y, hy⟩ := get_ex (xs := ys) (i := a + i) (by omega)
          have c0 : wr.cell? ⟨g, a, none⟩ = some (fV x) := hR.at hx
          have c1 : wr.cell? ⟨g, a + i, none⟩ = some (fV y) := hR.at hy
          have f1 := hR.free a
          have f2 := hR.free (a + i)
          have c3 : (wr.setCell ⟨g, a, none⟩ (fV y)).cell? ⟨g, a + i, none⟩ = some (fV y) := swap_cell_any hR hx hy
          have z0 : (0 : Int) ≤ (a : Int) + (i : Int) := by omega
          have z1 : (a : Int) + (i : Int) < (n : Int) := by omega
          have z2 : ((a : Int) + (i : Int)).toNat = a + i := by omega
          have z3 : (0 : Int) ≤ (a : Int) := by omega
          have z4 : (a : Int) < (n : Int) := by omega
          have HS := Lib.hid (hR.sw a (a + i) x y).drew
          have HP2 := Lib.hid (hp.out.trans (PR.sw hx hy (Nat.le_refl _) hab (by omega) (by omega)))
          have HT2 := Lib.hid (hTl.out.step ltW_less hH.out (by omega) (by omega) hx hy)
          have HH2 := Lib.hid (hH.out.sw_top hx hy)
          have HTo := Lib.hid (hTo.trans ((touch_swap wr g a (a + i) (fV y) (fV x)).trans (touch_drewN (touch_refl _ _ _) 1)))
          clear hR hx hy hyl
          go_wp2
          go_region
          go_wp2_with fail
          refine (sift_any g n c a 0 i _ (by omega) (by omega) hn (HF.out.perm HP2.out.perm) HH2.out _ HS.out).mono ?_
          rintro e w5 ⟨rfl, zs, R5, P5, H5, T5⟩
          have HR5 := Lib.hid R5
          clear R5
          go_wp2
          go_roundw
          case rel => exact ⟨i, zs, by go_num, by omega, HP2.out.trans (P5.mono (Nat.le_refl _) (by omega)), H5, HT2.out.moved P5, HR5.out, HTo.out.trans T5⟩
          case measure => first | (simp [intOf]; done) | (simp [intOf]; omega)
    · obtain ⟨i, rfl⟩ : ∃ i, k = i + 1 := ⟨k - 1, by omega⟩
      have ei : ((i + 1 : Nat) : Int) - 1 = (i : Int) := by omega
      rw [ei]
      have HRY := Lib.hid hR
      clear hR
      go_wp2_with fail
      refine (sift_any g n c a i N ys (by omega) (by omega) hn (HF.out.perm hp.out.perm) hH.out _ HRY.out).mono ?_
      rintro e w5 ⟨rfl, zs, R5, P5, H5, T5⟩
      have HR5 := Lib.hid R5
      clear R5
      go_wp2
      go_roundw
      case rel => exact ⟨i, zs, by go_num, by omega, hp.out.trans (P5.mono (Nat.le_refl _) (by omega)), H5, HR5.out, hTo.trans T5⟩
      case measure => first | (simp [intOf]; done) | (simp [intOf]; omega)
end Go.Proofs.Ythdnelfggmlalaa
