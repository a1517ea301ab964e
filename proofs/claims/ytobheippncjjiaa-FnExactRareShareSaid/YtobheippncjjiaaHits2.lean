/-
  Shares of hits: spec.HitsShare.
-/
import Derived.Test.YtobheippncjjiaaHits
import Derived.Test.YtobheippncjjiaaGrow
namespace Go.Proofs.Ytobheippncjjiaa
open Go.RowKit
attribute [local go_sem] run_fl_add run_fl_sub run_fl_mul run_fl_quo run_up_ run_store_float

theorem size_set (w : World) (p : Addr) (u : Value) : (w.setCell p u).heap.size = w.heap.size := by simp
theorem hitRow_one (c : Option Nat) (b : Nat) (h : absF .f32 b = oneN) : absL [b] = hitRow c 0 1 := by simp [absL, hitRow, h, hitA]
theorem hitRow_more (c : Option Nat) (k : Nat) : hitRow c k (k + 1) ++ [some 0] = hitRow c k (k + 2) := by
  have := hitA_over c (show k < k + 1 by omega)
  simp [hitRow, List.range_succ, this]

set_option maxHeartbeats 3200000 in
theorem specHitsShare_any (n : Int) (ch : Nat) (w : World) :
    Calls Try.prog 47 #[.int .i64 n, fV ch] w (RetHitsShare n ch w) := by
  cases hi : inB n 0 63
  · have Ho := Lib.hid (hitOk_f (ch := ch) (show hitOk1 n ch = false by unfold hitOk1; rw [hi]; rfl))
    have Hi := Lib.hid hi
    clear hi
    go_enter Try.func47, Try.ntmps47
    go_wp2_with (go_at_call 85; refine (l00In_any _ _ _ _).mono ?_; rintro e w' ⟨rfl, rfl⟩; rw [Hi.out])
    refine bodyPost_ret (v := .tuple #[shV (.slice none 0 0) (.slice none 0 0), .bool false]) (by simp [results, Try.results47, go_sem, *]) rfl ?_
    unfold RetHitsShare
    rw [Ho.out]
    exact RetSh.none (by first | exact below_alloc _ _ | (exact ((below_alloc w _).setCell (by simp) _).setCell (by simp) _))
  · have hnr := inB_true hi
    obtain ⟨N, rfl⟩ : ∃ N : Nat, n = (N : Int) := ⟨n.toNat, by omega⟩
    have hN : N ≤ 63 := by omega
    cases hp : partB ch
    · have Ho := Lib.hid (hitOk_f (show hitOk1 N ch = false by unfold hitOk1; rw [hp]; simp))
      have Hi := Lib.hid hi
      have Hp := Lib.hid hp
      clear hi hp hnr
      go_enter Try.func47, Try.ntmps47
      go_wp2_with (first | (go_at_call 85; refine (l00In_any _ _ _ _).mono ?_; rintro e w' ⟨rfl, rfl⟩; rw [Hi.out]) | (go_at_call 66; refine (l02Part_any _ _).mono ?_; rintro e w' ⟨rfl, rfl⟩; rw [Hp.out]))
      refine bodyPost_ret (v := .tuple #[shV (.slice none 0 0) (.slice none 0 0), .bool false]) (by simp [results, Try.results47, go_sem, *]) rfl ?_
      unfold RetHitsShare
      rw [Ho.out]
      exact RetSh.none (by first | exact below_alloc _ _ | (exact ((below_alloc w _).setCell (by simp) _).setCell (by simp) _))
    · have Ho := Lib.hid (hitOk_t (show hitOk1 N ch = true by unfold hitOk1; rw [hp, hi]; rfl))
      have Hi := Lib.hid hi
      have Hp := Lib.hid hp
      clear hi hp hnr
      go_enter Try.func47, Try.ntmps47
      go_wp2_with (first | (go_at_call 85; refine (l00In_any _ _ _ _).mono ?_; rintro e w' ⟨rfl, rfl⟩; rw [Hi.out]) | (go_at_call 66; refine (l02Part_any _ _).mono ?_; rintro e w' ⟨rfl, rfl⟩; rw [Hp.out]))
      have B : BoxAt ((((w.alloc (.cells ([.slice none 0 0, .slice none 0 0] : List Value).toArray 33)).alloc (.cells #[fV 0] 39)).alloc (.cells #[fV 1065353216] 39)).alloc (.cells #[.slice (some ⟨w.heap.size + 1, 0, none⟩) 1 1, .slice (some ⟨w.heap.size + 1 + 1, 0, none⟩) 1 1] 33)) w.heap.size [.slice none 0 0, .slice none 0 0] := (((BoxAt.new w _ _).alloc _).alloc _).alloc _
      have hT : Below w.heap.size w ((((w.alloc (.cells ([.slice none 0 0, .slice none 0 0] : List Value).toArray 33)).alloc (.cells #[fV 0] 39)).alloc (.cells #[fV 1065353216] 39)).alloc (.cells #[.slice (some ⟨w.heap.size + 1, 0, none⟩) 1 1, .slice (some ⟨w.heap.size + 1 + 1, 0, none⟩) 1 1] 33)) := (((below_alloc w _).alloc (by simp) _).alloc (by simp; omega) _).alloc (by simp; omega) _
      have hG := Grow.new (w.alloc (.cells ([.slice none 0 0, .slice none 0 0] : List Value).toArray 33)) 0 1065353216 33
      simp only [size_alloc] at hG
      generalize hg : (((w.alloc _).alloc _).alloc _).alloc _ = W0 at *
      clear hg
      obtain ⟨S, hS⟩ : ∃ S, S = w.heap.size + 1 + 1 + 1 := ⟨_, rfl⟩
      have hG' : Grow W0 (w.heap.size + 1) (w.heap.size + 1 + 1 + 1) _ _ _ _ := hG
      rw [← hS] at hG' ⊢
      have hRS : w.heap.size < S := by omega
      clear hS hG
      go_loopw [7] (fun sl wr => ∃ (k : Nat) (v0 v1 : Value) (ys : List Nat), k ≤ N ∧ sl = .int .i64 ((k + 1 : Nat) : Int) ∧ Hid (ys.length = k + 1) ∧ Grow wr (w.heap.size + 1) S v0 v1 (cntL (k + 1)) ys ∧ Hid (absL ys = hitRow (absF .f32 ch) k (k + 1)) ∧ BoxAt wr w.heap.size [.slice none 0 0, .slice none 0 0] ∧ Below w.heap.size w wr) (fun sl _ => N + 2 - (intOf sl).toNat)
      case atStart => exact ⟨0, _, _, [1065353216], by omega, rfl, rfl, hG', hitRow_one _ _ abs_one, B, hT⟩
      case round =>
        obtain ⟨k, v0, v1, ys, hk, rfl, hyl, hG, hy, hB, hb⟩ := hrel
        clear B hT hG'
        have hsz := hB.lt
        by_cases hlt : k < N
        · have hcl := Lib.hid (cntL_len (k + 1))
          obtain ⟨g0, c0, rfl, _, _, _⟩ := hG.o0.form (by rw [cntL_len]; omega)
          obtain ⟨g1, c1, rfl, _, _, _⟩ := hG.o1.form (by rw [hyl.out]; omega)
          rw [hcl.out, hyl.out] at hG
          have d0 := hG.box.cell 0 _ rfl
          have hGH := Lib.hid hG
          clear hG
          go_wp2_with (at_builtin; go_loud (refine elF_.app (fun _ => rfl) _ rfl _ _ rfl (w.heap.size + 1) _ (cntL (k + 1)) rfl (hGH.out.alloc _).o0 _ _ rfl (rd_one fV _ _ _) (by omega) (by rw [hcl.out]; simp; omega) (by simp; omega) ?_))
          intro v' w' ho hg hbb hp
          have hG2 := (hGH.out.alloc (.cells #[fV (floatOfInt .f32 ((k : Int) + 1))] 39)).app0 ho hg (by rw [size_alloc]; exact hp)
          have hB2 := (hB.alloc (.cells #[fV (floatOfInt .f32 ((k : Int) + 1))] 39)).below' hbb (by simp; omega) (by omega)
          have f0 := ((hGH.out.alloc (.cells #[fV (floatOfInt .f32 ((k : Int) + 1))] 39)).box.kept hg hGH.out.n0).free 0
          have e0 := ((hGH.out.alloc (.cells #[fV (floatOfInt .f32 ((k : Int) + 1))] 39)).box.kept hg hGH.out.n0).cell 0 _ rfl
          have hb2 : Below w.heap.size w w' := (hb.alloc (by omega) _).trans (hbb.mono (by omega))
          have hsz2 := hbb.size
          rw [size_alloc] at hsz2
          obtain ⟨g0', c0', rfl, _, _, _⟩ := ho.form (by simp)
          rw [show cntL (k + 1) ++ [floatOfInt .f32 ((k : Int) + 1)] = cntL (k + 2) from by rw [cntL_succ (k + 1)]; rfl, cntL_len] at hG2
          rw [show (cntL (k + 1) ++ [floatOfInt .f32 ((k : Int) + 1)]).length = k + 2 from by rw [List.length_append, cntL_len]; rfl]
          have d1 := hG2.box.cell 1 _ rfl
          have hGH2 := Lib.hid hG2
          have hrd := rd_one fV (w'.setCell ⟨S, 0, none⟩ (.slice (some ⟨g0', 0, none⟩) (k + 2) c0')) 0 39
          rw [size_set] at hrd
          have HRD := Lib.hid hrd
          clear hG2 ho hg hp hGH d0 hrd
          go_wp2_with (at_builtin; go_loud (refine elF_.app (fun _ => rfl) _ rfl _ _ rfl (w.heap.size + 1) _ ys rfl (hGH2.out.alloc _).o1 _ _ rfl HRD.out (by omega) (by have := hyl.out; show ys.length + 1 ≤ _; omega) (by rw [size_alloc, size_set]; omega) ?_))
          intro v'' w'' ho hg hbb' hp
          have hyl2 : (ys ++ [0]).length = k + 2 := by rw [List.length_append, hyl.out]; rfl
          have hG3 := (hGH2.out.alloc (.cells #[fV 0] 39)).app1 ho hg (by rw [size_alloc, size_set]; exact hp)
          have hB3 := ((hB2.other (p := ⟨S, 0, none⟩) (by show S ≠ _; omega) (.slice (some ⟨g0', 0, none⟩) (k + 2) c0')).alloc (.cells #[fV 0] 39)).below' hbb' (by rw [size_alloc, size_set]; omega) (by omega)
          have q0 := ((hGH2.out.alloc (.cells #[fV 0] 39)).box.kept hg hGH2.out.n1).free 1
          have q1 := ((hGH2.out.alloc (.cells #[fV 0] 39)).box.kept hg hGH2.out.n1).cell 1 _ rfl
          have hb3 : Below w.heap.size w w'' := ((hb2.setCell (p := ⟨S, 0, none⟩) (Nat.le_of_lt hRS) _).alloc (by rw [size_set]; omega) _).trans (hbb'.mono (by omega))
          have hsz3 := hbb'.size
          rw [size_alloc, size_set] at hsz3
          obtain ⟨g1', c1', rfl, _, _, _⟩ := ho.form (by simp)
          rw [hyl2] at hG3 ⊢
          have hGH3 := Lib.hid hG3
          have hBH := Lib.hid (hB3.other (p := ⟨S, 1, none⟩) (by show S ≠ _; omega) (.slice (some ⟨g1', 0, none⟩) (k + 2) c1'))
          have hBb := Lib.hid (hb3.setCell (p := ⟨S, 1, none⟩) (Nat.le_of_lt hRS) (.slice (some ⟨g1', 0, none⟩) (k + 2) c1'))
          have hzs : absL (ys ++ [0]) = hitMid (absF .f32 ch) k (k + 1) (k + 2) := by
            rw [← hitRow_mid, ← hitRow_more, ← hy.out]
            simp [absL, abs_zero]
          have HZS := Lib.hid hzs
          have HYL2 := Lib.hid hyl2
          clear hG3 ho hg hp hGH2 HRD hbb' hbb hB2 hb2 hB3 hb3 hzs hyl2 d1 f0 e0
          go_wp2
          obtain ⟨wo, hwo⟩ : ∃ wo, wo = w''.setCell ⟨S, 1, none⟩ (.slice (some ⟨g1', 0, none⟩) (k + 2) c1') := ⟨_, rfl⟩
          rw [← hwo] at hGH3 hBH hBb ⊢
          clear hwo q0 q1
          go_loopw [8] (fun sj wr => ∃ (j : Nat) (zs : List Nat), j ≤ k + 1 ∧ sj = .int .i64 (j : Int) ∧ Hid (zs.length = k + 2) ∧ Grow wr (w.heap.size + 1) S (.slice (some ⟨g0', 0, none⟩) (k + 2) c0') (.slice (some ⟨g1', 0, none⟩) (k + 2) c1') (cntL (k + 2)) zs ∧ Hid (absL zs = hitMid (absF .f32 ch) k j (k + 2)) ∧ BoxAt wr w.heap.size [.slice none 0 0, .slice none 0 0] ∧ Below w.heap.size w wr) (fun sj _ => (intOf sj).toNat)
          case atStart => exact ⟨k + 1, _, by omega, rfl, HYL2, hGH3.out, HZS.out, hBH.out, hBb.out⟩
          case round =>
            obtain ⟨j, zs, hj, rfl, hzl, hG, hz, hB', hb'⟩ := hrel
            have hg1 := hG.o1.lt g1' rfl
            by_cases hj1 : 1 ≤ j
            · obtain ⟨a, ha, haa⟩ := absL_get (xs := zs) (i := j) (by rw [hz.out]; exact hitMid_at _ _ _ _ (by omega))
              obtain ⟨b, hb2, hbb⟩ := absL_get (xs := zs) (i := j - 1) (by rw [hz.out]; exact hitMid_at _ _ _ _ (by omega))
              rw [if_neg (by omega)] at haa hbb
              have e1 := hG.at1 ha
              have e2 := hG.at1 hb2
              have f1 := hG.free1 j
              have d1 := hG.box.cell 1 _ rfl
              have HSt := Lib.hid (fun x => hG.put1 j x)
              have HA := Lib.hid haa
              have HB := Lib.hid hbb
              have hsub : IntKind.i64.wrap ((j : Int) - 1) = ((j - 1 : Nat) : Int) := by rw [IntWalk.i64_in _ (by omega)]; omega
              have hp0 : (0 : Int) ≤ ((j - 1 : Nat) : Int) := by omega
              have hp1 : ((j - 1 : Nat) : Int) < ((k + 2 : Nat) : Int) := by omega
              have hq0 : (0 : Int) ≤ (j : Int) := by omega
              have hq1 : (j : Int) < ((k + 2 : Nat) : Int) := by omega
              clear ha hb2 haa hbb hG
              go_wp2
              refine wp_region_fq 21 (fun _ _ _ => True) (by kernel_rfl) (by kernel_rfl) ?_
              simp only [List.take, List.drop]
              repeat (first | (refine wpFq_one (by rfl) ?_; go_big_quiet_step (fail); refine wpQuiet_nil ?_) | (refine wpFq_nilc (by rfl) _ rfl _ (by rfl) ?_; simp only [Act.put, List.setIfInBounds_toArray, List.set_cons_zero, List.set_cons_succ]) | (refine wpFq_fl (by rfl) _ _ _ _ _ rfl (by rfl) _ _ _ (by rfl) (by rfl) ?_; intro fb hfb; simp only [Act.put, List.setIfInBounds_toArray, List.set_cons_zero, List.set_cons_succ]) | (refine wpFq_up (by rfl) _ _ _ rfl (by kernel_rfl) (by kernel_rfl) _ (by rfl) ?_; intro fb hfb; simp only [Act.put, List.setIfInBounds_toArray, List.set_cons_zero, List.set_cons_succ]))
              refine wpFq_nil ?_
              intro nq
              rename_i g1_ k1 g2_ k2 g3_ k3
              have HF : Hid (absF .f32 fb = hitA (absF .f32 ch) (k + 1) j) := by
                unfold Hid
                rw [hfb, k2, k3, k1, HA.out, HB.out, abs_one]
                exact (hitA_step _ (by omega) (by omega)).symm
              clear k1 k2 k3 hfb
              go_wp2
              go_roundw
              case rel =>
                refine ⟨j - 1, zs.set j fb, by omega, rfl, by unfold Hid; rw [List.length_set]; exact hzl.out, (HSt.out fb).below ⟨rfl, rfl, rfl, Nat.le_refl _, fun _ _ => rfl⟩, ?_, (hB'.other (p := ⟨g1', j, none⟩) (by show g1' ≠ _; omega) _).below ⟨rfl, rfl, rfl, Nat.le_refl _, fun _ _ => rfl⟩, below_drewN_ (hb'.setCell (p := ⟨g1', j, none⟩) (by show _ ≤ g1'; omega) _)⟩
                unfold Hid
                rw [absL_set, hz.out, HF.out]
                exact hitMid_set _ hj1 (by omega)
              case measure => simp [intOf]; omega
            · have hj0 : j = 0 := by omega
              subst hj0
              obtain ⟨a, ha, haa⟩ := absL_get (xs := zs) (i := 0) (by rw [hz.out]; exact hitMid_at _ _ _ _ (by omega))
              rw [if_neg (by omega)] at haa
              have e1 := hG.at1 ha
              have f1 := hG.free1 0
              have d1 := hG.box.cell 1 _ rfl
              have HSt := Lib.hid (fun x => hG.put1 0 x)
              have HA := Lib.hid haa
              clear ha haa hG
              go_wp2
              refine wp_region_fq 10 (fun _ _ _ => True) (by kernel_rfl) (by kernel_rfl) ?_
              simp only [List.take, List.drop]
              repeat (first | (refine wpFq_one (by rfl) ?_; go_big_quiet_step (fail); refine wpQuiet_nil ?_) | (refine wpFq_nilc (by rfl) _ rfl _ (by rfl) ?_; simp only [Act.put, List.setIfInBounds_toArray, List.set_cons_zero, List.set_cons_succ]) | (refine wpFq_fl (by rfl) _ _ _ _ _ rfl (by rfl) _ _ _ (by rfl) (by rfl) ?_; intro fb hfb; simp only [Act.put, List.setIfInBounds_toArray, List.set_cons_zero, List.set_cons_succ]) | (refine wpFq_up (by rfl) _ _ _ rfl (by kernel_rfl) (by kernel_rfl) _ (by rfl) ?_; intro fb hfb; simp only [Act.put, List.setIfInBounds_toArray, List.set_cons_zero, List.set_cons_succ]))
              refine wpFq_nil ?_
              intro nq
              rename_i g1_ k1
              have HF : Hid (absF .f32 fb = hitA (absF .f32 ch) (k + 1) 0) := by
                unfold Hid
                rw [hfb, k1, HA.out, abs_one]
                rfl
              clear k1 hfb
              go_wp2
              go_roundw
              case rel =>
                refine ⟨k + 1, _, _, zs.set 0 fb, by omega, by go_num, by unfold Hid; rw [List.length_set]; exact hzl.out, (HSt.out fb).below ⟨rfl, rfl, rfl, Nat.le_refl _, fun _ _ => rfl⟩, ?_, (hB'.other (p := ⟨g1', 0, none⟩) (by show g1' ≠ _; omega) _).below ⟨rfl, rfl, rfl, Nat.le_refl _, fun _ _ => rfl⟩, below_drewN_ (hb'.setCell (p := ⟨g1', 0, none⟩) (by show _ ≤ g1'; omega) _)⟩
                unfold Hid
                rw [absL_set, hz.out, HF.out]
                exact hitMid_zero _ (by omega)
              case measure => simp [intOf]; omega
        · have hke : k = N := by omega
          subst hke
          have hcl := Lib.hid (cntL_len (k + 1))
          obtain ⟨g0, c0, rfl, _, _, _⟩ := hG.o0.form (by rw [cntL_len]; omega)
          obtain ⟨g1, c1, rfl, _, _, _⟩ := hG.o1.form (by rw [hyl.out]; omega)
          rw [hcl.out, hyl.out] at hG
          have hgz := hG.o0.lt g0 rfl
          have hgz1 := hG.o1.lt g1 rfl
          go_wp2_with (go_at_call 62; refine (l05Is_any _ _ _ (cntL (k + 1)) ys (by rw [cntL_len]; omega) (by rw [hyl.out]; omega) _ hG.box hG.o0.rd hG.o1.rd).mono ?_)
          rintro e w3 ⟨rfl, hb3⟩
          replace hG := hG.below hb3
          replace hB := hB.below hb3
          have HT := Lib.hid (hb.trans (hb3.mono hb.size))
          clear hb hb3
          have hsok : shareB (cntL (k + 1)) ys = hitOk k ch := by
            rw [Ho.out, shareB_abs, hy.out, Int.toNat_natCast]; rfl
          have d0 := hB.cell 0 _ rfl
          have d1 := hB.cell 1 _ rfl
          have f0 := hB.free 0
          have f1 := hB.free 1
          have r0 := hG.box.cell 0 _ rfl
          have r1 := hG.box.cell 1 _ rfl
          have hGH := Lib.hid hG
          clear hG
          cases hs : shareB (cntL (k + 1)) ys
          all_goals
            rw [hs] at hsok
            have HS := Lib.hid hsok
            have HS' := Lib.hid hs
            clear hsok hs
            go_wp2
          · refine bodyPost_ret (v := .tuple #[shV (.slice none 0 0) (.slice none 0 0), .bool false]) (by simp [results, Try.results47, go_sem, *]) rfl ?_
            unfold RetHitsShare
            rw [← HS.out]
            exact RetSh.none ((HT.out.setCell (by simp) _).setCell (by simp) _)
          · refine bodyPost_ret (v := .tuple #[shV (.slice (some ⟨g0, 0, none⟩) (k + 1) c0) (.slice (some ⟨g1, 0, none⟩) (k + 1) c1), .bool true]) (by simp [results, Try.results47, go_sem, *]) rfl ?_
            unfold RetHitsShare
            rw [← HS.out]
            have hG := (hGH.out.other (p := ⟨w.heap.size, 0, none⟩) (by show w.heap.size < _; omega) (by omega) (.slice (some ⟨g0, 0, none⟩) (k + 1) c0)).other (p := ⟨w.heap.size, 1, none⟩) (by show w.heap.size < _; omega) (by omega) (.slice (some ⟨g1, 0, none⟩) (k + 1) c1)
            exact ⟨_, cntL (k + 1), _, ys, rfl, hG.o0.base_ (by omega), hG.o1.base_ (by omega), hG.ap, by rw [cntL_len]; omega, by rw [hyl.out]; omega, by rw [Int.toNat_natCast]; rfl, by rw [hy.out]; unfold hitC; rw [Int.toNat_natCast]; rfl, (HT.out.setCell (by simp) _).setCell (by simp) _⟩
end Go.Proofs.Ytobheippncjjiaa
