/-
  impl.SimplexPoint.
-/
import Derived.Test.YthdnelfggmlalaaSimpW
import Derived.Test.YthdnelfggmlalaaPdqN
namespace Go.Proofs.Ythdnelfggmlalaa
section
open Go.RowKit
attribute [local go_sem] run_fl_add run_fl_sub run_fl_mul run_fl_quo run_store_float

theorem bitLen_le : ∀ x : Fin 256, Lib.bitLen x.val ≤ 8 := by decide +kernel
set_option maxRecDepth 100000 in
theorem sortF_all (g n c : Nat) (xs : List Nat) (hn : n ≤ 200) (hF : Fins xs) (w : World) (hr : RowF w g n c xs) :
    Calls Try.prog 47 #[.slice (some ⟨g, 0, none⟩) n c] w (SortE g n c 0 n xs w) := by
  have k2 := bitLen_le ⟨n, by omega⟩
  simp only [] at k2
  have HL := Lib.hid (len_any n (by omega))
  have HP : Hid (Pred ltW 0 n xs) := fun p h => absurd h (Nat.lt_irrefl 0)
  have HC := Lib.hid (pdq_any g n c hn (n + 1) 0 n (Lib.bitLen n) xs w (by omega) (Nat.zero_le _) (Nat.le_refl _) (by omega) hF HP.out hr)
  have hw : IntKind.u64.wrap (n : Int) = (n : Int) := by show (n : Int) % 18446744073709551616 = n; omega
  clear hr hF HP
  go_enter Try.func47, Try.ntmps47
  go_wp2_with (first | (go_at_call 80; refine (HL.out _).mono ?_; rintro e w' ⟨rfl, rfl⟩) | (go_at_call 79; refine HC.out.mono ?_; intro e w1 hw1; obtain ⟨e1, e2⟩ := id hw1; subst e1; clear e2))
  (try simp only [Exit.inBlock, Exit.then])
  refine bodyPost_ret (results_none rfl _ _ _) rfl ?_
  exact hw1
theorem touch3 (w : World) (g : Nat) (x y z : Value) : Touch g (g + 1) w (((w.setCell ⟨g, 0, none⟩ x).setCell ⟨g, 1, none⟩ y).setCell ⟨g, 2, none⟩ z) :=
  ((Touch.setCell w ⟨g, 0, none⟩ x).trans (Touch.setCell _ ⟨g, 1, none⟩ y)).trans (Touch.setCell _ ⟨g, 2, none⟩ z)
theorem set3 {w : World} {g : Nat} {a b c : Value} (h : BoxAt w g [a, b, c]) (x y z : Value) : BoxAt (((w.setCell ⟨g, 0, none⟩ x).setCell ⟨g, 1, none⟩ y).setCell ⟨g, 2, none⟩ z) g [x, y, z] :=
  ((h.set (i := 0) rfl x).set (i := 1) rfl y).set (i := 2) rfl z
theorem share_at (k a b : Int) (j : Nat) (w : World) : Calls Try.prog 46 #[sdV k (sdI k a b j).1 (sdI k a b j).2] w fun e w' => e = .returned (.tuple #[sdV k (sdI k a b (j + 1)).1 (sdI k a b (j + 1)).2, fV (shW k a b j)]) ∧ Below w.heap.size w w' := by
  refine (share_any k _ _ w).mono ?_
  rintro e w' ⟨u, rfl, hu, hb⟩
  have h := (shW_eq k a b j).1
  unfold shI at h
  rw [h] at hu
  rw [(absF_some hu).1]
  exact ⟨rfl, hb⟩
def lastW (ys : List Nat) (i : Nat) : Nat := if i = 0 then 0 else ys.getD (i - 1) 0
theorem lastW_s {ys : List Nat} {i x : Nat} (h : ys[i]? = some x) : lastW ys (i + 1) = x := by
  unfold lastW
  rw [if_neg (by omega), Nat.add_sub_cancel, List.getD_eq_getElem?_getD, h]
  rfl
theorem gapA_last {ys : List Nat} {j : Nat} (hl : ys.length = j) : opF .sub .f32 (absF .f32 1065353216) (absF .f32 (lastW ys j)) = gapA ys j := by
  have h1 : absF .f32 1065353216 = some 1065353216 := absF_of (by decide)
  cases j with
  | zero =>
    rw [List.length_eq_zero_iff.1 hl, gapA_nil]
    decide
  | succ m =>
    obtain ⟨y, hy⟩ := get_ex (xs := ys) (i := m) (by omega)
    rw [gapA_end hl hy, lastW_s hy, h1]
theorem isSize_any (n : Int) (w : World) : Calls Try.prog 45 #[.int .i64 n] w fun e w' => e = .returned (.bool (inB n 1 64)) ∧ w = w' := by
  have HC := Lib.hid (within_any n 1 64)
  go_enter Try.func45, Try.ntmps45
  go_wp2_with (go_at_call 58; refine (HC.out _).mono ?_; rintro e w' ⟨rfl, rfl⟩)
  go_ret
  exact ⟨rfl, rfl⟩
set_option maxHeartbeats 3200000 in
set_option maxRecDepth 100000 in
theorem implSimplexPoint_any (k a b : Int) (hb0 : 0 ≤ b) (n : Int) (w : World) :
    Calls Try.prog 13 #[sdV k a b, .int .i64 n] w (RetSimplexPoint k a b n w) := by
  go_enter Try.func13, Try.ntmps13
  go_wp2_with fail
  have B0 : BoxAt ((w.alloc (.cells ([.int .i64 k, u64V a, u64V b] : List Value).toArray 25)).alloc (.cells ([.int .i64 0, u64V 0, u64V 0] : List Value).toArray 25)) w.heap.size [.int .i64 k, u64V a, u64V b] := (BoxAt.new w _ _).alloc _
  have B1 : BoxAt ((w.alloc (.cells ([.int .i64 k, u64V a, u64V b] : List Value).toArray 25)).alloc (.cells ([.int .i64 0, u64V 0, u64V 0] : List Value).toArray 25)) (w.heap.size + 1) [.int .i64 0, u64V 0, u64V 0] := by
    have := BoxAt.new (w.alloc (.cells ([.int .i64 k, u64V a, u64V b] : List Value).toArray 25)) [.int .i64 0, u64V 0, u64V 0] 25
    rwa [size_alloc] at this
  have hT : Below w.heap.size w ((w.alloc (.cells ([.int .i64 k, u64V a, u64V b] : List Value).toArray 25)).alloc (.cells ([.int .i64 0, u64V 0, u64V 0] : List Value).toArray 25)) := ((Below.refl _ _).alloc (Nat.le_refl _) _).alloc (by simp) _
  have hsz : w.heap.size + 2 ≤ ((w.alloc (.cells ([.int .i64 k, u64V a, u64V b] : List Value).toArray 25)).alloc (.cells ([.int .i64 0, u64V 0, u64V 0] : List Value).toArray 25)).heap.size := by rw [size_alloc, size_alloc]; omega
  generalize hg : (w.alloc _).alloc _ = W00 at *
  clear hg
  refine (validSeed_any k a b hb0 _).mono ?_
  rintro e W0 ⟨rfl, hbv⟩
  replace B0 := B0.below hbv
  replace B1 := B1.below hbv
  replace hT := below_to hT hbv hT.size
  replace hsz := Nat.le_trans hsz hbv.size
  clear hbv
  cases hs : seedB k a b
  · have Ho : Hid (simOk k a b n = false) := by unfold Hid simOk; rw [hs]; rfl
    have Hs := Lib.hid hs
    clear hs
    have d0 := B1.cell 0 _ rfl
    have d1 := B1.cell 1 _ rfl
    have d2 := B1.cell 2 _ rfl
    have f0 := B1.free 0
    have f1 := B1.free 1
    have f2 := B1.free 2
    have HT := Lib.hid hT
    clear hT
    go_wp2
    refine bodyPost_ret (v := .tuple #[sdV 0 0 0, .slice none 0 0, .bool false]) (by simp [results, Try.results13, go_sem, *]) rfl (sim_no Ho.out ?_)
    exact ((HT.out.setCell (by simp; done) _).setCell (by simp; done) _).setCell (by simp; done) _
  have Hs := Lib.hid hs
  clear hs
  go_wp2_with fail
  refine (isSize_any n _).mono ?_
  rintro e w1 ⟨rfl, rfl⟩
  cases hi : inB n 1 64
  · have Ho : Hid (simOk k a b n = false) := by unfold Hid simOk; rw [hi]; simp
    have Hi := Lib.hid hi
    clear hi
    have d0 := B1.cell 0 _ rfl
    have d1 := B1.cell 1 _ rfl
    have d2 := B1.cell 2 _ rfl
    have f0 := B1.free 0
    have f1 := B1.free 1
    have f2 := B1.free 2
    have HT := Lib.hid hT
    clear hT
    go_wp2
    refine bodyPost_ret (v := .tuple #[sdV 0 0 0, .slice none 0 0, .bool false]) (by simp [results, Try.results13, go_sem, *]) rfl (sim_no Ho.out ?_)
    exact ((HT.out.setCell (by simp; done) _).setCell (by simp; done) _).setCell (by simp; done) _
  have Ho : Hid (simOk k a b n = true) := by unfold Hid simOk; rw [Hs.out, hi]; rfl
  have hn := inB_true hi
  clear hi
  obtain ⟨N, rfl⟩ : ∃ N : Nat, n = ((N + 1 : Nat) : Int) := ⟨(n - 1).toNat, by omega⟩
  have hN : N ≤ 63 := by omega
  clear hn
  go_wp2
  go_loopw [7, 25] (fun so si wr => ∃ j : Nat, j ≤ N ∧ si = .int .i64 (j : Int) ∧ Own fV 56 wr (w.heap.size + 2) so (shL k a b j) ∧ Hid (∃ q, so.ownBlock = some q) ∧ BoxAt wr w.heap.size [.int .i64 k, u64V (sdI k a b j).1, u64V (sdI k a b j).2] ∧ BoxAt wr (w.heap.size + 1) [.int .i64 0, u64V 0, u64V 0] ∧ Below w.heap.size w wr ∧ w.heap.size + 2 ≤ wr.heap.size) (fun _ si _ => N + 2 - (intOf si).toNat)
  case atStart =>
    have h := (own_nil_new fV W0 56).base_ hsz
    exact ⟨0, by omega, rfl, h, ⟨_, rfl⟩, B0.alloc _, B1.alloc _, hT.alloc (by omega) _, by simp; omega⟩
  case round =>
    obtain ⟨j, hj, rfl, hown, hq, hB, hB2, hbl, hz⟩ := hrel
    have HOW := Lib.hid hown
    have HBX := Lib.hid hB
    have HB2 := Lib.hid hB2
    have HBL := Lib.hid hbl
    clear hown hB2 hbl B0 B1 hT
    by_cases hlt : j < N
    · have hj1 : (j : Int) < (N : Int) := by omega
      have d0 := hB.cell 0 _ rfl
      have d1 := hB.cell 1 _ rfl
      have d2 := hB.cell 2 _ rfl
      clear hB
      go_wp2_with fail
      refine (share_at k a b j _).mono ?_
      rintro e wq ⟨rfl, ht⟩
      have BX := HBX.out.below ht
      have B2 := HB2.out.below ht
      have HOQ := Lib.hid (HOW.out.below ht)
      have HBQ := Lib.hid (below_to HBL.out ht (by omega))
      have hzq := ht.size
      have e0 := BX.cell 0 _ rfl
      have e1 := BX.cell 1 _ rfl
      have e2 := BX.cell 2 _ rfl
      have f0 := BX.free 0
      have f1 := BX.free 1
      have f2 := BX.free 2
      have HXQ := Lib.hid BX
      have H2Q := Lib.hid B2
      clear BX B2 ht d0 d1 d2
      go_upto_region 8 with fail
      have BX := set3 HXQ.out (.int .i64 k) (.int .u64 (sdI k a b (j + 1)).fst) (.int .u64 (sdI k a b (j + 1)).snd)
      have T3 := touch3 wq w.heap.size (.int .i64 k) (.int .u64 (sdI k a b (j + 1)).fst) (.int .u64 (sdI k a b (j + 1)).snd)
      generalize ((wq.setCell ⟨w.heap.size, 0, none⟩ (.int .i64 k)).setCell ⟨w.heap.size, 1, none⟩ (.int .u64 (sdI k a b (j + 1)).fst)).setCell ⟨w.heap.size, 2, none⟩ (.int .u64 (sdI k a b (j + 1)).snd) = ws at BX T3 ⊢
      have ho := own_touch HOQ.out T3 (by omega)
      have HXS := Lib.hid BX
      have H2S := Lib.hid (H2Q.out.touch T3 (.inr (by omega)))
      have HBS := Lib.hid (HBQ.out.trans (T3.below (Nat.le_refl _) (by omega)))
      have hzs := T3.size
      clear BX T3 e0 e1 e2 f0 f1 f2 HXQ H2Q HBQ HOQ
      go_wp2_with (at_builtin; go_loud (refine elF_.app (fun _ => rfl) _ rfl _ _ rfl (w.heap.size + 2) _ (shL k a b j) rfl (Own.alloc ho _) _ _ rfl (rd_one fV _ _ _) (by omega) (by rw [shL_len]; simp; omega) (by simp; omega) ?_))
      intro v' w' ho' hgr hbb hp
      have hob : Hid (∃ q, v'.ownBlock = some q) := by
        obtain ⟨q, hq'⟩ := hq.out
        rcases hp with h | h
        · exact ⟨q, by rw [h]; exact hq'⟩
        · exact ⟨_, h⟩
      have hws := hbb.size
      rw [size_alloc] at hws
      clear hgr hp
      go_wp2
      go_roundw
      case rel => exact ⟨j + 1, by omega, by go_num, by rw [shL_succ]; exact ho', hob, (HXS.out.alloc _).below' hbb (by rw [size_alloc]; omega) (by omega), (H2S.out.alloc _).below' hbb (by rw [size_alloc]; omega) (by omega), (HBS.out.alloc (by omega) _).trans (hbb.mono (by omega)), by omega⟩
      case measure => simp [intOf]; omega
    · have hje : j = N := by omega
      subst hje
      clear hB
      obtain ⟨q, hq'⟩ := hq.out
      obtain ⟨g, c, rfl, hg, hRow⟩ := own_row' HOW.out hq'
      have hlen := shL_len k a b j
      rw [hlen] at hRow ⊢
      have HR := Lib.hid hRow
      clear hRow hq hq' HOW
      have hnlt : ((j : Int) < (j : Int)) = False := by simp
      go_wp2_with fail
      refine (sortF_all g j c (shL k a b j) (by omega) (fun x hx => (shL_pw k a b j x hx).fin) _ HR.out).mono ?_
      rintro e wy ⟨rfl, ys, hR, hP, hS, hto⟩
      have HRY := Lib.hid hR
      have hPp := hP.perm
      have hyl : ys.length = j := by rw [hPp.length_eq, hlen]
      have hys := Lib.hid (srtW_is (shL_pw k a b j) hPp (by rw [hyl]; exact hS))
      have HHX := Lib.hid (HBX.out.touch hto (.inl (by omega)))
      have HH2 := Lib.hid (HB2.out.touch hto (.inl (by omega)))
      have HHB := Lib.hid (touch_back HBL.out hto (by omega) (by omega))
      have hzy := hto.size
      clear HBX HB2 HBL hto hP hPp hS hR HR
      go_wp2
      obtain ⟨g2, hgy⟩ : ∃ g2, g2 = wy.heap.size := ⟨_, rfl⟩
      go_loopw [9, 10, 42] (fun so sl si wr2 => ∃ (i : Nat) (os : List Nat), i ≤ j ∧ si = .int .i64 (i : Int) ∧ sl = fV (lastW ys i) ∧ Own fV 56 wr2 wy.heap.size so os ∧ os.length = i ∧ Hid (absL os = gapsA ys i) ∧ Below wy.heap.size wy wr2) (fun _ _ si _ => j + 2 - (intOf si).toNat)
      case atStart => exact ⟨0, [], Nat.zero_le _, rfl, rfl, own_nil_new fV _ _, rfl, rfl, below_alloc _ _⟩
      case round =>
        obtain ⟨i, os, hi, rfl, rfl, hown, hol, habs, hb2⟩ := hrel
        have hz2 := hb2.size
        have HOL := Lib.hid hol
        clear hol
        by_cases hlt2 : i < j
        · obtain ⟨x, hx⟩ := get_ex (xs := ys) (i := i) (by omega)
          have c1 : wr.cell? ⟨g, i, none⟩ = some (fV x) := by rw [hb2.cell (by exact HRY.out.lt)]; exact HRY.out.at hx
          have HX := Lib.hid hx
          have hz3 : (i : Int) < (j : Int) := by omega
          have hz11 : (0 : Int) ≤ (i : Int) := by omega
          clear hx
          by_cases hi0 : i = 0
          · subst hi0
            have HG := Lib.hid (gapA_0 HX.out)
            go_wp2_with (at_builtin; go_loud (refine elF_.app (fun _ => rfl) _ rfl _ _ rfl wy.heap.size _ os rfl (Own.alloc hown _) _ _ rfl (rd_one fV _ _ _) (by omega) (by rw [HOL.out]; simp) (by simp; omega) ?_))
            intro v' wv ho hgr hbb hp
            clear hgr hp
            go_wp2
            go_roundw
            case rel => exact ⟨0 + 1, _, by omega, rfl, by rw [lastW_s HX.out], ho, by rw [List.length_append, HOL.out]; rfl, by unfold Hid; rw [absL_appS, habs.out, gapsA_succ ys 0, HG.out]; rfl, (hb2.alloc (by simpa using hz2) _).trans hbb⟩
            case measure => simp [intOf]
          · obtain ⟨m, rfl⟩ : ∃ m, i = m + 1 := ⟨i - 1, by omega⟩
            obtain ⟨y, hy⟩ := get_ex (xs := ys) (i := m) (by omega)
            have HG := Lib.hid (gapA_mid hy HX.out)
            have HLW := lastW_s hy
            rw [HLW]
            have hzz : (((m + 1 : Nat) : Int) == 0) = false := beq_eq_false_iff_ne.2 (by omega)
            have hzz' : (((m : Int) + 1) == 0) = false := beq_eq_false_iff_ne.2 (by omega)
            clear hy HLW
            go_wp2_with (at_builtin; go_loud (refine elF_.app (fun _ => rfl) _ rfl _ _ rfl wy.heap.size _ os rfl (Own.alloc (Own.drewN hown _) _) _ _ rfl (rd_one fV _ _ _) (by omega) (by rw [HOL.out]; simp; omega) (by simp; omega) ?_))
            intro v' wv ho hgr hbb hp
            clear hgr hp
            go_wp2
            go_roundw
            case rel => exact ⟨m + 1 + 1, _, by omega, by go_num, by rw [lastW_s HX.out], ho, by rw [List.length_append, HOL.out]; rfl, by unfold Hid; rw [absL_appS, habs.out, gapsA_succ ys (m + 1), HG.out]; simp [absL, abs_flR .sub rfl], ((below_drewN' _ hb2).alloc (by simpa using hz2) _).trans hbb⟩
            case measure => simp [intOf]; omega
        · have hie : i = j := by omega
          subst hie
          have HGL := Lib.hid (gapA_last hyl)
          have BX := HHX.out.below' hb2 (Nat.le_refl _) (by omega)
          have HBX := Lib.hid BX
          have HB2 := Lib.hid (HH2.out.below' hb2 (Nat.le_refl _) (by omega))
          have HBF := Lib.hid (below_to HHB.out hb2 (by omega))
          have d0 := BX.cell 0 _ rfl
          have d1 := BX.cell 1 _ rfl
          have d2 := BX.cell 2 _ rfl
          have dA0 : ∀ (m : Nat) (o : Obj), ((wr.drewN m).alloc o).cell? ⟨w.heap.size, 0, none⟩ = some (.int .i64 k) := fun m o => ((box_drew HBX.out m).alloc o).cell 0 _ rfl
          have dA1 : ∀ (m : Nat) (o : Obj), ((wr.drewN m).alloc o).cell? ⟨w.heap.size, 1, none⟩ = some (u64V (sdI k a b i).1) := fun m o => ((box_drew HBX.out m).alloc o).cell 1 _ rfl
          have dA2 : ∀ (m : Nat) (o : Obj), ((wr.drewN m).alloc o).cell? ⟨w.heap.size, 2, none⟩ = some (u64V (sdI k a b i).2) := fun m o => ((box_drew HBX.out m).alloc o).cell 2 _ rfl
          have hwl := BX.lt
          have hwl2 := HB2.out.lt
          clear BX
          go_wp2
          go_region_law ((go_loud (refine elF_.app_step (fun _ => rfl) _ (by rfl) _ _ (by rfl) wy.heap.size _ os (by rfl) (Own.alloc (by exact hown) _) _ _ (by rfl) (by exact rd_one fV _ _ _) (by omega) (by rw [HOL.out]; simp; omega) (by simp; omega) ?_); intro v' wv ho hgr hbb hp; have Z := (BoxAt.alloc (box_drew HB2.out _) _).below' hbb (by rw [size_alloc]; exact Nat.le_succ_of_le hz2) (by omega); have Y := (BoxAt.alloc (box_drew HBX.out _) _).below' hbb (by rw [size_alloc]; exact Nat.le_succ_of_le hz2) (by omega); have f0 := Z.free 0; have f1 := Z.free 1; have f2 := Z.free 2; have z0 := Z.cell 0 _ rfl; have z1 := Z.cell 1 _ rfl; have z2 := Z.cell 2 _ rfl; have y0 := Y.cell 0 _ rfl; have y1 := Y.cell 1 _ rfl; have y2 := Y.cell 2 _ rfl))
          all_goals
            clear hgr hp
            go_wp2
            refine bodyPost_ret (v := .tuple #[sdV k (sdI k a b i).1 (sdI k a b i).2, v', .bool true]) (by simp [results, Try.results13, go_sem, *]) rfl ?_
            have T := touch3 wv (w.heap.size + 1) (.int .i64 k) (.int .u64 (sdI k a b i).fst) (.int .u64 (sdI k a b i).snd)
            have hws := hbb.size
            rw [size_alloc] at hws
            have hbs := HBF.out.size
            refine ⟨v', _, ?_, (own_touch ho T (by omega)).base_ (by omega), by rw [List.length_append, HOL.out]; simp; omega, ?_, (((below_drewN' _ HBF.out).alloc (by exact hbs) _).trans (hbb.mono (by omega))).trans (T.below (by omega) (by exact Nat.le_trans hbs (Nat.le_of_succ_le hws)))⟩
            · unfold simSeed
              rw [Ho.out]
              simp
            · unfold simL
              rw [Ho.out, absL_appS, habs.out]
              simp [hys.out, gapsA_succ, absL, abs_flR .sub rfl, HGL.out]
end
end Go.Proofs.Ythdnelfggmlalaa
