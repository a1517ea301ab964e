/-
  Shares of rare hits: spec.RareShare.
-/
import Derived.Test.YtobheippncjjiaaRare
namespace Go.Proofs.Ytobheippncjjiaa
open Go.RowKit
attribute [local go_sem] run_fl_add run_fl_sub run_fl_mul run_fl_quo run_up_ run_store_float

theorem rareA_pos (r : Option Nat) {k : Nat} (h : 1 ≤ k) : rareA r k = opF .quo .f32 (opF .mul .f32 (rareA r (k - 1)) r) (absF .f32 (floatOfInt .f32 (k : Int))) := by
  cases k with
  | zero => omega
  | succ k => rfl
theorem cntL_zero : cntL 0 = [] := rfl
theorem rareRow_zero (r : Option Nat) : rareRow r 0 = [] := rfl
set_option maxHeartbeats 6400000 in
theorem specRareShare_any (r : Nat) (n : Int) (w : World) :
    Calls Try.prog 51 #[fV r, .int .i64 n] w (RetRareShare r n w) := by
  cases ho : rareOk1 r n
  · have Ho := Lib.hid (rareOk_f ho)
    cases hg : geB r 0 <;> cases hl : leB r 1107296256 <;> cases hi : inB n 0 63
    all_goals first | (exfalso; unfold rareOk1 at ho; rw [hg, hl, hi] at ho; cases ho; done) | skip
    all_goals
      have hg' : (FloatKind.f32.format.order r 0 == some .gt || FloatKind.f32.format.order r 0 == some .eq) = _ := hg
      have hl' : (FloatKind.f32.format.order r 1107296256 == some .lt || FloatKind.f32.format.order r 1107296256 == some .eq) = _ := hl
      have Hi := Lib.hid hi
      clear hi hg hl ho
      go_enter Try.func51, Try.ntmps51
      go_wp2_with (go_at_call 85; refine (l00In_any _ _ _ _).mono ?_; rintro e w' ⟨rfl, rfl⟩; rw [Hi.out])
      refine bodyPost_ret (v := .tuple #[shV (.slice none 0 0) (.slice none 0 0), .bool false]) (by simp [results, Try.results51, go_sem, *]) rfl ?_
      unfold RetRareShare
      rw [Ho.out]
      exact RetSh.none (by first | exact below_alloc _ _ | (exact ((below_alloc w _).setCell (by simp) _).setCell (by simp) _))
  · have Ho := Lib.hid (rareOk_t ho)
    have ho' := ho
    unfold rareOk1 at ho'
    simp only [Bool.and_eq_true] at ho'
    obtain ⟨⟨hg, hl⟩, hi⟩ := ho'
    have hnr := inB_true hi
    obtain ⟨N, rfl⟩ : ∃ N : Nat, n = (N : Int) := ⟨n.toNat, by omega⟩
    have hN : N ≤ 63 := by omega
    have hg' : (FloatKind.f32.format.order r 0 == some .gt || FloatKind.f32.format.order r 0 == some .eq) = true := hg
    have hl' : (FloatKind.f32.format.order r 1107296256 == some .lt || FloatKind.f32.format.order r 1107296256 == some .eq) = true := hl
    have Hi := Lib.hid hi
    clear hi hg hl ho hnr
    go_enter Try.func51, Try.ntmps51
    go_wp2_with (go_at_call 85; refine (l00In_any _ _ _ _).mono ?_; rintro e w' ⟨rfl, rfl⟩; rw [Hi.out])
    have B : BoxAt ((w.alloc (.cells ([.slice none 0 0, .slice none 0 0] : List Value).toArray 33)).alloc (.cells ([.slice none 0 0, .slice none 0 0] : List Value).toArray 33)) w.heap.size [.slice none 0 0, .slice none 0 0] := (BoxAt.new w _ _).alloc _
    have hG0 : Grow ((w.alloc (.cells ([.slice none 0 0, .slice none 0 0] : List Value).toArray 33)).alloc (.cells ([.slice none 0 0, .slice none 0 0] : List Value).toArray 33)) (w.heap.size + 1) (w.heap.size + 1) (.slice none 0 0) (.slice none 0 0) [] [] :=
      ⟨by have := BoxAt.new (w.alloc (.cells ([.slice none 0 0, .slice none 0 0] : List Value).toArray 33)) [.slice none 0 0, .slice none 0 0] 33; rwa [size_alloc] at this, Own.nil, Own.nil, by simp [Value.ownBlock], by simp [Value.ownBlock], .inl rfl⟩
    have hT : Below w.heap.size w ((w.alloc (.cells ([.slice none 0 0, .slice none 0 0] : List Value).toArray 33)).alloc (.cells ([.slice none 0 0, .slice none 0 0] : List Value).toArray 33)) := (below_alloc w _).alloc (by simp) _
    generalize hgw : (w.alloc _).alloc _ = W0 at *
    clear hgw
    obtain ⟨S, hS⟩ : ∃ S, S = w.heap.size + 1 := ⟨_, rfl⟩
    rw [← hS] at hG0 ⊢
    have hRS : w.heap.size < S := by omega
    clear hS
    go_loopw [7, 8, 9] (fun sc ss sl wr => ∃ (k cb sb : Nat) (v0 v1 : Value) (ys : List Nat), k ≤ N + 1 ∧ sl = .int .i64 (k : Int) ∧ sc = fV cb ∧ ss = fV sb ∧ Hid (absF .f32 cb = rareA (absF .f32 r) (k - 1)) ∧ Hid (absF .f32 sb = sumF (rareRow (absF .f32 r) k)) ∧ Hid (ys.length = k) ∧ Grow wr S S v0 v1 (cntL k) ys ∧ Hid (absL ys = rareRow (absF .f32 r) k) ∧ BoxAt wr w.heap.size [.slice none 0 0, .slice none 0 0] ∧ Below w.heap.size w wr) (fun _ _ sl _ => N + 1 - (intOf sl).toNat)
    case atStart => exact ⟨0, _, _, _, _, [], by omega, rfl, rfl, rfl, abs_one, abs_zero, rfl, hG0, rfl, B, hT⟩
    case round =>
      obtain ⟨k, cb, sb, v0, v1, ys, hk, rfl, rfl, rfl, hcb, hsb, hyl, hG, hy, hB, hb⟩ := hrel
      clear B hT hG0
      have hsz := hB.lt
      have hSl := hG.box.lt
      by_cases hlt : k < N + 1
      · have hcl := Lib.hid (cntL_len k)
        have d0 := hG.box.cell 0 _ rfl
        have hGH := Lib.hid hG
        clear hG
        have hcl' : (cntL k).length ≤ 64 := by rw [cntL_len]; omega
        have Hcl' := Lib.hid hcl'
        clear hcl'
        by_cases hk0 : (k : Int) > 0
        · go_wp2_with (at_builtin; go_loud (refine elF_.app (fun _ => rfl) _ rfl _ _ rfl S _ (cntL k) rfl (Own.alloc (by first | exact hGH.out.o0 | exact Own.drewN hGH.out.o0 _) _) _ _ rfl (rd_one fV _ _ _) (by omega) (by have := Hcl'.out; show (cntL k).length + 1 ≤ _; omega) (by simp; omega) ?_))
          intro v' w' ho hg hbb hp
          generalize hcv : flR .quo .f32 (flR .mul .f32 cb r wr) _ _ = cb2
          have HC2 : Hid (absF .f32 cb2 = rareA (absF .f32 r) k) := by
            unfold Hid
            rw [← hcv, abs_flR .quo rfl, abs_flR .mul rfl, hcb.out]
            exact (rareA_pos _ (by omega)).symm
          clear hcv
          obtain ⟨W1, hg, hbb, h1G, h1B, h1b, h1s⟩ : ∃ W1 : World, (W1.alloc (.cells #[fV (floatOfInt .f32 (k : Int))] 39)).grownBy w' v0.ownBlock ∧ Below S (W1.alloc (.cells #[fV (floatOfInt .f32 (k : Int))] 39)) w' ∧ Grow W1 S S v0 v1 (cntL k) ys ∧ BoxAt W1 w.heap.size [.slice none 0 0, .slice none 0 0] ∧ Below w.heap.size w W1 ∧ W1.heap.size = wr.heap.size :=
            ⟨_, hg, hbb, by first | exact hGH.out | exact hGH.out.below (below_drewN_ (Below.refl _ _)), by first | exact hB | exact hB.below (below_drewN_ (Below.refl _ _)), by first | exact hb | exact below_drewN_ hb, rfl⟩
          have hG2 := (h1G.alloc (.cells #[fV (floatOfInt .f32 (k : Int))] 39)).app0 ho hg (by rw [size_alloc, h1s]; exact hp)
          have hB2 := (h1B.alloc (.cells #[fV (floatOfInt .f32 (k : Int))] 39)).below' hbb (by rw [size_alloc]; omega) (by omega)
          have f0 := ((h1G.alloc (.cells #[fV (floatOfInt .f32 (k : Int))] 39)).box.kept hg h1G.n0).free 0
          have e0 := ((h1G.alloc (.cells #[fV (floatOfInt .f32 (k : Int))] 39)).box.kept hg h1G.n0).cell 0 _ rfl
          have hb2 : Below w.heap.size w w' := (h1b.alloc (by omega) _).trans (hbb.mono (by omega))
          have hsz2 := hbb.size
          rw [size_alloc, h1s] at hsz2
          obtain ⟨g0', c0', rfl, _, _, _⟩ := ho.form (by simp)
          rw [show cntL k ++ [floatOfInt .f32 (k : Int)] = cntL (k + 1) from (cntL_succ k).symm, cntL_len] at hG2
          rw [show (cntL k ++ [floatOfInt .f32 (k : Int)]).length = k + 1 from by rw [List.length_append, cntL_len]; rfl]
          have d1 := hG2.box.cell 1 _ rfl
          have hGH2 := Lib.hid hG2
          have hrd := rd_one fV (w'.setCell ⟨S, 0, none⟩ (.slice (some ⟨g0', 0, none⟩) (k + 1) c0')) cb2 39
          rw [size_set] at hrd
          have HRD := Lib.hid hrd
          clear hG2 ho hg hp hGH d0 hrd h1G h1B h1b h1s
          go_wp2_with (at_builtin; go_loud (refine elF_.app (fun _ => rfl) _ rfl _ _ rfl S _ ys rfl (hGH2.out.alloc _).o1 _ _ rfl HRD.out (by omega) (by have := hyl.out; show ys.length + 1 ≤ _; omega) (by rw [size_alloc, size_set]; omega) ?_))
          intro v'' w'' ho hg hbb' hp
          have hyl2 : (ys ++ [cb2]).length = k + 1 := by rw [List.length_append, hyl.out]; rfl
          have hG3 := (hGH2.out.alloc (.cells #[fV cb2] 39)).app1 ho hg (by rw [size_alloc, size_set]; exact hp)
          have hB3 := ((hB2.other (p := ⟨S, 0, none⟩) (by show S ≠ _; omega) (.slice (some ⟨g0', 0, none⟩) (k + 1) c0')).alloc (.cells #[fV cb2] 39)).below' hbb' (by rw [size_alloc, size_set]; omega) (by omega)
          have q0 := ((hGH2.out.alloc (.cells #[fV cb2] 39)).box.kept hg hGH2.out.n1).free 1
          have q1 := ((hGH2.out.alloc (.cells #[fV cb2] 39)).box.kept hg hGH2.out.n1).cell 1 _ rfl
          have hb3 : Below w.heap.size w w'' := ((hb2.setCell (p := ⟨S, 0, none⟩) (Nat.le_of_lt hRS) _).alloc (by rw [size_set]; omega) _).trans (hbb'.mono (by omega))
          obtain ⟨g1', c1', rfl, _, _, _⟩ := ho.form (by simp)
          rw [hyl2] at hG3 ⊢
          have hGH3 := Lib.hid hG3
          have hBH := Lib.hid (hB3.other (p := ⟨S, 1, none⟩) (by show S ≠ _; omega) (.slice (some ⟨g1', 0, none⟩) (k + 1) c1'))
          have hBb := Lib.hid (hb3.setCell (p := ⟨S, 1, none⟩) (Nat.le_of_lt hRS) (.slice (some ⟨g1', 0, none⟩) (k + 1) c1'))
          have hzs : absL (ys ++ [cb2]) = rareRow (absF .f32 r) (k + 1) := by
            rw [rareRow_succ, ← hy.out, ← HC2.out]
            simp [absL]
          have HZS := Lib.hid hzs
          have HYL2 := Lib.hid hyl2
          clear hG3 ho hg hp hGH2 HRD hbb' hbb hB2 hb2 hB3 hb3 hzs hyl2 d1 f0 e0
          go_wp2
          go_roundw
          case rel =>
            refine ⟨k + 1, cb2, _, _, _, ys ++ [cb2], by omega, by go_num, rfl, rfl, HC2.out, ?_, HYL2, hGH3.out.below (below_drewN_ (Below.refl _ _)), HZS, hBH.out.below (below_drewN_ (Below.refl _ _)), below_drewN_ hBb.out⟩
            unfold Hid
            rw [abs_flR .add rfl, hsb.out, HC2.out, rareRow_succ, sumF_snoc]
          case measure => simp [intOf]; omega
        · go_wp2_with (at_builtin; go_loud (refine elF_.app (fun _ => rfl) _ rfl _ _ rfl S _ (cntL k) rfl (Own.alloc (by first | exact hGH.out.o0 | exact Own.drewN hGH.out.o0 _) _) _ _ rfl (rd_one fV _ _ _) (by omega) (by have := Hcl'.out; show (cntL k).length + 1 ≤ _; omega) (by simp; omega) ?_))
          intro v' w' ho hg hbb hp
          have HC2 : Hid (absF .f32 cb = rareA (absF .f32 r) k) := by
            unfold Hid
            rw [hcb.out, show k - 1 = k by omega]
          clear hcb
          obtain ⟨cb2, rfl⟩ : ∃ x, x = cb := ⟨cb, rfl⟩
          obtain ⟨W1, hg, hbb, h1G, h1B, h1b, h1s⟩ : ∃ W1 : World, (W1.alloc (.cells #[fV (floatOfInt .f32 (k : Int))] 39)).grownBy w' v0.ownBlock ∧ Below S (W1.alloc (.cells #[fV (floatOfInt .f32 (k : Int))] 39)) w' ∧ Grow W1 S S v0 v1 (cntL k) ys ∧ BoxAt W1 w.heap.size [.slice none 0 0, .slice none 0 0] ∧ Below w.heap.size w W1 ∧ W1.heap.size = wr.heap.size :=
            ⟨_, hg, hbb, by first | exact hGH.out | exact hGH.out.below (below_drewN_ (Below.refl _ _)), by first | exact hB | exact hB.below (below_drewN_ (Below.refl _ _)), by first | exact hb | exact below_drewN_ hb, rfl⟩
          have hG2 := (h1G.alloc (.cells #[fV (floatOfInt .f32 (k : Int))] 39)).app0 ho hg (by rw [size_alloc, h1s]; exact hp)
          have hB2 := (h1B.alloc (.cells #[fV (floatOfInt .f32 (k : Int))] 39)).below' hbb (by rw [size_alloc]; omega) (by omega)
          have f0 := ((h1G.alloc (.cells #[fV (floatOfInt .f32 (k : Int))] 39)).box.kept hg h1G.n0).free 0
          have e0 := ((h1G.alloc (.cells #[fV (floatOfInt .f32 (k : Int))] 39)).box.kept hg h1G.n0).cell 0 _ rfl
          have hb2 : Below w.heap.size w w' := (h1b.alloc (by omega) _).trans (hbb.mono (by omega))
          have hsz2 := hbb.size
          rw [size_alloc, h1s] at hsz2
          obtain ⟨g0', c0', rfl, _, _, _⟩ := ho.form (by simp)
          rw [show cntL k ++ [floatOfInt .f32 (k : Int)] = cntL (k + 1) from (cntL_succ k).symm, cntL_len] at hG2
          rw [show (cntL k ++ [floatOfInt .f32 (k : Int)]).length = k + 1 from by rw [List.length_append, cntL_len]; rfl]
          have d1 := hG2.box.cell 1 _ rfl
          have hGH2 := Lib.hid hG2
          have hrd := rd_one fV (w'.setCell ⟨S, 0, none⟩ (.slice (some ⟨g0', 0, none⟩) (k + 1) c0')) cb2 39
          rw [size_set] at hrd
          have HRD := Lib.hid hrd
          clear hG2 ho hg hp hGH d0 hrd h1G h1B h1b h1s
          go_wp2_with (at_builtin; go_loud (refine elF_.app (fun _ => rfl) _ rfl _ _ rfl S _ ys rfl (hGH2.out.alloc _).o1 _ _ rfl HRD.out (by omega) (by have := hyl.out; show ys.length + 1 ≤ _; omega) (by rw [size_alloc, size_set]; omega) ?_))
          intro v'' w'' ho hg hbb' hp
          have hyl2 : (ys ++ [cb2]).length = k + 1 := by rw [List.length_append, hyl.out]; rfl
          have hG3 := (hGH2.out.alloc (.cells #[fV cb2] 39)).app1 ho hg (by rw [size_alloc, size_set]; exact hp)
          have hB3 := ((hB2.other (p := ⟨S, 0, none⟩) (by show S ≠ _; omega) (.slice (some ⟨g0', 0, none⟩) (k + 1) c0')).alloc (.cells #[fV cb2] 39)).below' hbb' (by rw [size_alloc, size_set]; omega) (by omega)
          have q0 := ((hGH2.out.alloc (.cells #[fV cb2] 39)).box.kept hg hGH2.out.n1).free 1
          have q1 := ((hGH2.out.alloc (.cells #[fV cb2] 39)).box.kept hg hGH2.out.n1).cell 1 _ rfl
          have hb3 : Below w.heap.size w w'' := ((hb2.setCell (p := ⟨S, 0, none⟩) (Nat.le_of_lt hRS) _).alloc (by rw [size_set]; omega) _).trans (hbb'.mono (by omega))
          obtain ⟨g1', c1', rfl, _, _, _⟩ := ho.form (by simp)
          rw [hyl2] at hG3 ⊢
          have hGH3 := Lib.hid hG3
          have hBH := Lib.hid (hB3.other (p := ⟨S, 1, none⟩) (by show S ≠ _; omega) (.slice (some ⟨g1', 0, none⟩) (k + 1) c1'))
          have hBb := Lib.hid (hb3.setCell (p := ⟨S, 1, none⟩) (Nat.le_of_lt hRS) (.slice (some ⟨g1', 0, none⟩) (k + 1) c1'))
          have hzs : absL (ys ++ [cb2]) = rareRow (absF .f32 r) (k + 1) := by
            rw [rareRow_succ, ← hy.out, ← HC2.out]
            simp [absL]
          have HZS := Lib.hid hzs
          have HYL2 := Lib.hid hyl2
          clear hG3 ho hg hp hGH2 HRD hbb' hbb hB2 hb2 hB3 hb3 hzs hyl2 d1 f0 e0
          go_wp2
          go_roundw
          case rel =>
            refine ⟨k + 1, cb2, _, _, _, ys ++ [cb2], by omega, by go_num, rfl, rfl, HC2.out, ?_, HYL2, hGH3.out.below (below_drewN_ (Below.refl _ _)), HZS, hBH.out.below (below_drewN_ (Below.refl _ _)), below_drewN_ hBb.out⟩
            unfold Hid
            rw [abs_flR .add rfl, hsb.out, HC2.out, rareRow_succ, sumF_snoc]
          case measure => simp [intOf]; omega
      · have hke : N + 1 = k := by omega
        subst hke
        obtain ⟨g0, c0, rfl, _, _, _⟩ := hG.o0.form (by rw [cntL_len]; omega)
        obtain ⟨g1, c1, rfl, _, _, _⟩ := hG.o1.form (by rw [hyl.out]; omega)
        rw [cntL_len, hyl.out] at hG
        have d1 := hG.box.cell 1 _ rfl
        have hGH := Lib.hid hG
        clear hG
        go_wp2
        go_loopw [57] (fun si wr' => ∃ (k : Nat) (zs : List Nat), k ≤ N + 1 ∧ si = .int .i64 k ∧ Hid (zs.length = N + 1) ∧ Grow wr' S S (.slice (some ⟨g0, 0, none⟩) (N + 1) c0) (.slice (some ⟨g1, 0, none⟩) (N + 1) c1) (cntL (N + 1)) zs ∧ Hid (absL zs = divTo (sumF (rareRow (absF .f32 r) (N + 1))) (rareRow (absF .f32 r) (N + 1)) k) ∧ BoxAt wr' w.heap.size [.slice none 0 0, .slice none 0 0] ∧ Below w.heap.size w wr') (fun si _ => N + 1 - (intOf si).toNat)
        case atStart => exact ⟨0, ys, by omega, rfl, hyl, hGH.out, by unfold Hid; rw [divTo_zero, hy.out], hB, hb⟩
        case round =>
          obtain ⟨k, zs, hk, rfl, hzl, hG, hz, hB', hb'⟩ := hrel
          clear d1
          have hg1 := hG.o1.lt g1 rfl
          by_cases hlt : k < N + 1
          · obtain ⟨a, ha, haa⟩ := absL_get (xs := zs) (i := k) (by rw [hz.out, divTo_at _ (by rw [rareRow_len]; exact hlt)]; exact rareRow_at _ hlt)
            have e1 := hG.at1 ha
            have f1 := hG.free1 k
            have d1 := hG.box.cell 1 _ rfl
            have HSt := Lib.hid (fun x => hG.put1 k x)
            have HA := Lib.hid haa
            have hp0 : (0 : Int) ≤ (k : Int) := by omega
            have hp1 : (k : Int) < ((N + 1 : Nat) : Int) := by omega
            clear ha haa hG
            go_wp2
            refine wp_region_fq 11 (fun _ _ _ => True) (by kernel_rfl) (by kernel_rfl) ?_
            simp only [List.take, List.drop]
            repeat (first | (refine wpFq_one (by rfl) ?_; go_big_quiet_step (fail); refine wpQuiet_nil ?_) | (refine wpFq_nilc (by rfl) _ rfl _ (by rfl) ?_; simp only [Act.put, List.setIfInBounds_toArray, List.set_cons_zero, List.set_cons_succ]) | (refine wpFq_fl (by rfl) _ _ _ _ _ rfl (by rfl) _ _ _ (by rfl) (by rfl) ?_; intro fb hfb; simp only [Act.put, List.setIfInBounds_toArray, List.set_cons_zero, List.set_cons_succ]) | (refine wpFq_up (by rfl) _ _ _ rfl (by kernel_rfl) (by kernel_rfl) _ (by rfl) ?_; intro fb hfb; simp only [Act.put, List.setIfInBounds_toArray, List.set_cons_zero, List.set_cons_succ]))
            refine wpFq_nil ?_
            intro nq
            have HF : Hid (absF .f32 fb = opF .quo .f32 (rareA (absF .f32 r) k) (sumF (rareRow (absF .f32 r) (N + 1)))) := by
              unfold Hid
              rw [hfb, HA.out, hsb.out]
            clear hfb
            go_wp2
            go_roundw
            case rel =>
              refine ⟨k + 1, zs.set k fb, by omega, by go_num, by unfold Hid; rw [List.length_set]; exact hzl.out, (HSt.out fb).below (below_drewN_ (Below.refl _ _)), ?_, (hB'.other (p := ⟨g1, k, none⟩) (by show g1 ≠ _; omega) _).below (below_drewN_ (Below.refl _ _)), below_drewN_ (hb'.setCell (p := ⟨g1, k, none⟩) (by show _ ≤ g1; omega) _)⟩
              unfold Hid
              rw [absL_set, hz.out, HF.out]
              exact divTo_set _ (rareRow_at _ hlt)
            case measure => simp [intOf]; omega
          · have hke : k = N + 1 := by omega
            subst hke
            have hgz := hG.o0.lt g0 rfl
            have hgz1 := hG.o1.lt g1 rfl
            obtain ⟨hB, hb⟩ : BoxAt wr w.heap.size [.slice none 0 0, .slice none 0 0] ∧ Below w.heap.size w wr := ⟨hB', hb'⟩
            clear hB' hb'
            go_wp2_with (go_at_call 62; refine (l05Is_any _ _ _ (cntL (N + 1)) zs (by rw [cntL_len]; omega) (by rw [hzl.out]; omega) _ hG.box hG.o0.rd hG.o1.rd).mono ?_)
            rintro e w3 ⟨rfl, hb3⟩
            replace hG := hG.below hb3
            replace hB := hB.below hb3
            have HT := Lib.hid (hb.trans (hb3.mono hb.size))
            clear hb hb3
            have hsok : shareB (cntL (N + 1)) zs = rareOk r N := by
              rw [Ho.out, shareB_abs, hz.out]; unfold rareC; rw [Int.toNat_natCast]
            have d0 := hB.cell 0 _ rfl
            have d1 := hB.cell 1 _ rfl
            have f0 := hB.free 0
            have f1 := hB.free 1
            have r0 := hG.box.cell 0 _ rfl
            have r1 := hG.box.cell 1 _ rfl
            have hGH := Lib.hid hG
            clear hG
            cases hs : shareB (cntL (N + 1)) zs
            all_goals
              rw [hs] at hsok
              have HS := Lib.hid hsok
              have HS' := Lib.hid hs
              clear hsok hs
              go_wp2
            · refine bodyPost_ret (v := .tuple #[shV (.slice none 0 0) (.slice none 0 0), .bool false]) (by simp [results, Try.results51, go_sem, *]) rfl ?_
              unfold RetRareShare
              rw [← HS.out]
              exact RetSh.none ((HT.out.setCell (by simp) _).setCell (by simp) _)
            · refine bodyPost_ret (v := .tuple #[shV (.slice (some ⟨g0, 0, none⟩) (N + 1) c0) (.slice (some ⟨g1, 0, none⟩) (N + 1) c1), .bool true]) (by simp [results, Try.results51, go_sem, *]) rfl ?_
              unfold RetRareShare
              rw [← HS.out]
              have hG := (hGH.out.other (p := ⟨w.heap.size, 0, none⟩) (by show w.heap.size < _; omega) (by omega) (.slice (some ⟨g0, 0, none⟩) (N + 1) c0)).other (p := ⟨w.heap.size, 1, none⟩) (by show w.heap.size < _; omega) (by omega) (.slice (some ⟨g1, 0, none⟩) (N + 1) c1)
              exact ⟨_, cntL (N + 1), _, zs, rfl, hG.o0.base_ (by omega), hG.o1.base_ (by omega), hG.ap, by rw [cntL_len]; omega, by rw [hzl.out]; omega, by rw [Int.toNat_natCast]; rfl, by rw [hz.out]; unfold rareC; rw [Int.toNat_natCast]; rfl, (HT.out.setCell (by simp) _).setCell (by simp) _⟩
end Go.Proofs.Ytobheippncjjiaa
