/-
  spec.SimplexPoint.
-/
import Derived.Test.YthdnelfggmlalaaSimpS
import Derived.Test.YthdnelfggmlalaaWithin
import Derived.Test.YthdnelfggmlalaaFq
import Derived.Deep.RegionHeld3
import Derived.Deep.RegionLaw
namespace Go.Proofs.Ythdnelfggmlalaa
open Go.RowKit
attribute [local go_sem] run_fl_add run_fl_sub run_fl_mul run_fl_quo run_store_float

theorem own_touch {w w' : World} {base lo hi : Nat} {v : Value} {xs : List Nat} (h : Own fV 56 w base v xs) (t : Touch lo hi w w') (hd : hi ≤ base) : Own fV 56 w' base v xs := (h.ranged.touch t (.inr hd)).own
theorem row_own {w : World} {g n c base : Nat} {xs : List Nat} (h : RowF w g n c xs) (hb : base ≤ g) : Own fV 56 w base (.slice (some ⟨g, 0, none⟩) n c) xs := by
  have hl := h.len
  unfold Own
  rw [hl]
  refine ⟨h.1, ?_⟩
  rcases h.2 with ⟨e, _⟩ | ⟨g', cap, cur, e, h1, rest⟩
  · cases e
  · cases e
    exact .inr ⟨g, c, cur, rfl, hb, rest⟩
theorem own_cells {w : World} {base g c n : Nat} {xs : List Nat} (h : Own fV 56 w base (.slice (some ⟨g, 0, none⟩) n c) xs) {i x : Nat} (hx : xs[i]? = some x) : w.cell? ⟨g, i, none⟩ = some (fV x) := by
  obtain ⟨A, cp, e, -, hA⟩ := h.rd
  cases e
  obtain ⟨ad, e, hb, hc⟩ := hA i x hx
  cases e
  rw [Addr.add] at hc
  split at hc
  · rename_i h0
    subst h0
    exact hc
  · rw [Nat.zero_add] at hc
    exact hc
theorem gapA_g {ys : List Nat} {z : Nat} (h : (ys ++ [1065353216])[0]? = some z) : gapA ys 0 = absF .f32 z := by
  unfold gapA
  rw [if_pos rfl, List.getD_eq_getElem?_getD, h]
  rfl
theorem gapA_s {ys : List Nat} {i y z : Nat} (hy : (ys ++ [1065353216])[i]? = some y) (hz : (ys ++ [1065353216])[i + 1]? = some z) : gapA ys (i + 1) = opF .sub .f32 (absF .f32 z) (absF .f32 y) := by
  unfold gapA
  rw [if_neg (by omega), List.getD_eq_getElem?_getD, List.getD_eq_getElem?_getD, Nat.add_sub_cancel, hy, hz]
  rfl
theorem absL_appS (a b : List Nat) : absL (a ++ b) = absL a ++ absL b := by simp [absL]
def simOk (k a b n : Int) : Bool := seedB k a b && inB n 1 64
def simSeed (k a b n : Int) : Value := if simOk k a b n then sdV k (sdI k a b (n.toNat - 1)).1 (sdI k a b (n.toNat - 1)).2 else sdV 0 0 0
noncomputable def simL (k a b n : Int) : List (Option Nat) := if simOk k a b n then gapsA (srtW (shL k a b (n.toNat - 1))) n.toNat else []
def RetSimplexPoint (k a b n : Int) (w : World) (e : Ending) (w' : World) : Prop :=
  ∃ v y, e = .returned (.tuple #[simSeed k a b n, v, .bool (simOk k a b n)]) ∧ Own fV 56 w' w.heap.size v y ∧ y.length ≤ 1099511627776 ∧ absL y = simL k a b n ∧ Below w.heap.size w w'
theorem sim_no {k a b n : Int} {w w' : World} (h : simOk k a b n = false) (hb : Below w.heap.size w w') : RetSimplexPoint k a b n w (.returned (.tuple #[sdV 0 0 0, .slice none 0 0, .bool false])) w' := by
  refine ⟨.slice none 0 0, [], ?_, Own.nil, by simp, ?_, hb⟩
  · unfold simSeed; rw [h]; rfl
  · unfold simL; rw [h]; rfl
theorem l04Count_any (n : Int) (w : World) : Calls Try.prog 41 #[.int .i64 n] w fun e w' => e = .returned (.bool (inB n 1 64)) ∧ w = w' := by
  have HC := Lib.hid (l00In_any n 1 64)
  go_enter Try.func41, Try.ntmps41
  go_wp2_with (go_at_call 62; refine (HC.out _).mono ?_; rintro e w' ⟨rfl, rfl⟩)
  go_ret
  exact ⟨rfl, rfl⟩
theorem l02Share_at (g : Nat) (k a b : Int) (j : Nat) (w : World) (hB : BoxAt w g [.int .i64 k, u64V (sdI k a b j).1, u64V (sdI k a b j).2]) : Calls Try.prog 42 #[.pointer (some ⟨g, 0, none⟩)] w fun e w' => e = .returned (fV (shW k a b j)) ∧ BoxAt w' g [.int .i64 k, u64V (sdI k a b (j + 1)).1, u64V (sdI k a b (j + 1)).2] ∧ Touch g (g + 1) w w' := by
  refine (l02Share_any g k _ _ w hB).mono ?_
  rintro e w' ⟨u, rfl, hu, hB', ht⟩
  have h := (shW_eq k a b j).1
  unfold shI at h
  rw [h] at hu
  rw [(absF_some hu).1]
  exact ⟨rfl, hB', ht⟩

set_option maxHeartbeats 3200000 in
set_option maxRecDepth 100000 in
theorem specSimplexPoint_any (k a b : Int) (hb0 : 0 ≤ b) (n : Int) (w : World) :
    Calls Try.prog 11 #[sdV k a b, .int .i64 n] w (RetSimplexPoint k a b n w) := by
  go_enter Try.func11, Try.ntmps11
  go_wp2_with fail
  have B0 : BoxAt ((w.alloc (.cells ([.int .i64 k, u64V a, u64V b] : List Value).toArray 25)).alloc (.cells ([.int .i64 0, u64V 0, u64V 0] : List Value).toArray 25)) w.heap.size [.int .i64 k, u64V a, u64V b] := (BoxAt.new w _ _).alloc _
  have B1 : BoxAt ((w.alloc (.cells ([.int .i64 k, u64V a, u64V b] : List Value).toArray 25)).alloc (.cells ([.int .i64 0, u64V 0, u64V 0] : List Value).toArray 25)) (w.heap.size + 1) [.int .i64 0, u64V 0, u64V 0] := by
    have := BoxAt.new (w.alloc (.cells ([.int .i64 k, u64V a, u64V b] : List Value).toArray 25)) [.int .i64 0, u64V 0, u64V 0] 25
    rwa [size_alloc] at this
  have hT : Below w.heap.size w ((w.alloc (.cells ([.int .i64 k, u64V a, u64V b] : List Value).toArray 25)).alloc (.cells ([.int .i64 0, u64V 0, u64V 0] : List Value).toArray 25)) := ((Below.refl _ _).alloc (Nat.le_refl _) _).alloc (by simp) _
  have hsz : ((w.alloc (.cells ([.int .i64 k, u64V a, u64V b] : List Value).toArray 25)).alloc (.cells ([.int .i64 0, u64V 0, u64V 0] : List Value).toArray 25)).heap.size = w.heap.size + 2 := by rw [size_alloc, size_alloc]
  generalize hg : (w.alloc _).alloc _ = W0 at *
  clear hg
  refine (l02IsSeed_any _ k a b hb0 _ B0).mono ?_
  rintro e w1 ⟨rfl, rfl⟩
  cases hs : seedB k a b
  · have Ho : Hid (simOk k a b n = false) := by unfold Hid simOk; rw [hs]; rfl
    have Hs := Lib.hid hs
    clear hs
    have d0 := B1.cell 0 _ rfl
    have d1 := B1.cell 1 _ rfl
    have d2 := B1.cell 2 _ rfl
    have f0 := B1.free 0
    have f1 := B1.free 1
    have f2 := B1.free 2
    have HT := Lib.hid hT
    clear hT
    go_wp2
    refine bodyPost_ret (v := .tuple #[sdV 0 0 0, .slice none 0 0, .bool false]) (by simp [results, Try.results11, go_sem, *]) rfl (sim_no Ho.out ?_)
    exact ((HT.out.setCell (by simp; done) _).setCell (by simp; done) _).setCell (by simp; done) _
  have Hs := Lib.hid hs
  clear hs
  go_wp2_with fail
  refine (l04Count_any n _).mono ?_
  rintro e w1 ⟨rfl, rfl⟩
  cases hi : inB n 1 64
  · have Ho : Hid (simOk k a b n = false) := by unfold Hid simOk; rw [hi]; simp
    have Hi := Lib.hid hi
    clear hi
    have d0 := B1.cell 0 _ rfl
    have d1 := B1.cell 1 _ rfl
    have d2 := B1.cell 2 _ rfl
    have f0 := B1.free 0
    have f1 := B1.free 1
    have f2 := B1.free 2
    have HT := Lib.hid hT
    clear hT
    go_wp2
    refine bodyPost_ret (v := .tuple #[sdV 0 0 0, .slice none 0 0, .bool false]) (by simp [results, Try.results11, go_sem, *]) rfl (sim_no Ho.out ?_)
    exact ((HT.out.setCell (by simp; done) _).setCell (by simp; done) _).setCell (by simp; done) _
  have Ho : Hid (simOk k a b n = true) := by unfold Hid simOk; rw [Hs.out, hi]; rfl
  have hn := inB_true hi
  clear hi
  obtain ⟨N, rfl⟩ : ∃ N : Nat, n = ((N + 1 : Nat) : Int) := ⟨(n - 1).toNat, by omega⟩
  have hN : N ≤ 63 := by omega
  have HT := Lib.hid hT
  clear hn
  go_wp2
  go_loopw [7, 8] (fun so si wr => ∃ j : Nat, j ≤ N ∧ si = .int .i64 ((j : Int) + 1) ∧ Own fV 56 wr (w.heap.size + 2) so (shL k a b j) ∧ BoxAt wr w.heap.size [.int .i64 k, u64V (sdI k a b j).1, u64V (sdI k a b j).2] ∧ BoxAt wr (w.heap.size + 1) [.int .i64 0, u64V 0, u64V 0] ∧ Below w.heap.size w wr ∧ w.heap.size + 2 ≤ wr.heap.size) (fun _ si _ => N + 2 - (intOf si).toNat)
  case atStart =>
    have h := own_nil_new fV W0 56
    rw [hsz] at h
    exact ⟨0, by omega, rfl, h, B0.alloc _, B1.alloc _, hT.alloc (by omega) _, by simp; omega⟩
  case round =>
    obtain ⟨j, hj, rfl, hown, hB, hB2, hbl, hz⟩ := hrel
    have HOW := Lib.hid hown
    have HBX := Lib.hid hB
    have HB2 := Lib.hid hB2
    have HBL := Lib.hid hbl
    clear hown hB hB2 hbl B0 B1 hT HT
    by_cases hlt : j < N
    · go_wp2_with fail
      refine (l02Share_at w.heap.size k a b j _ HBX.out).mono ?_
      rintro e wq ⟨rfl, hq, ht⟩
      have ho := own_touch HOW.out ht (by omega)
      have h2q := HB2.out.touch ht (.inr (by omega))
      have hbq := HBL.out.trans (ht.below (Nat.le_refl _) (by omega))
      have hzq := ht.size
      have HHQ := Lib.hid hq
      have HH2 := Lib.hid h2q
      have HHB := Lib.hid hbq
      clear hq h2q hbq ht
      go_wp2_with (at_builtin; go_loud (refine elF_.app (fun _ => rfl) _ rfl _ _ rfl (w.heap.size + 2) _ (shL k a b j) rfl (Own.alloc ho _) _ _ rfl (rd_one fV _ _ _) (by omega) (by rw [shL_len]; simp; omega) (by simp; omega) ?_))
      intro v' w' ho' hg hbb hp
      have hws := hbb.size
      rw [size_alloc] at hws
      go_wp2
      go_roundw
      case rel => exact ⟨j + 1, by omega, by go_num, by rw [shL_succ]; exact ho', (HHQ.out.alloc _).below' hbb (by rw [size_alloc]; omega) (by omega), (HH2.out.alloc _).below' hbb (by rw [size_alloc]; omega) (by omega), (HHB.out.alloc (by omega) _).trans (hbb.mono (by omega)), by omega⟩
      case measure => simp [intOf]; omega
    · have hje : j = N := by omega
      subst hje
      obtain ⟨cz, ez, rfl, -, -⟩ := HOW.out.rd
      have hlen := shL_len k a b j
      go_wp2_with fail
      have hRd : Rd fV wr (.slice cz j ez) (shL k a b j) := by have h := HOW.out.rd; rwa [hlen] at h
      refine (l04Ascending_any _ (shL k a b j) (by rw [hlen]; omega) (fun x hx => (shL_pw k a b j x hx).fin) _ hRd).mono ?_
      clear hRd
      rintro e wy ⟨g, c, ys, rfl, hg, hR, hP, hS, hby⟩
      rw [hlen] at hR
      have hys := Lib.hid (srtW_is (shL_pw k a b j) hP hS)
      have hyl : ys.length = j := by rw [hP.length_eq, hlen]
      have HYP := Lib.hid (show ∀ x ∈ ys, Pw x from fun x hx => shL_pw k a b j x (hP.mem_iff.1 hx))
      have HHX := Lib.hid (HBX.out.below hby)
      have HH2 := Lib.hid (HB2.out.below hby)
      have HHB := Lib.hid (below_to HBL.out hby (by omega))
      have hzy := hby.size
      have how := row_own (base := w.heap.size + 2) hR (by omega)
      clear hR hby hP hS HOW HBX HB2 HBL
      go_wp2_with (at_builtin; go_loud (refine elF_.app (fun _ => rfl) _ rfl _ _ rfl (w.heap.size + 2) _ ys rfl (Own.alloc how _) _ [1065353216] rfl (rd_one fV _ _ _) (by omega) (by simp; omega) (by simp; omega) ?_))
      intro v' w' ho' hgr hbb hp
      have hws := hbb.size
      rw [size_alloc] at hws
      replace HHX := Lib.hid ((HHX.out.alloc _).below' hbb (by rw [size_alloc]; omega) (by omega))
      replace HH2 := Lib.hid ((HH2.out.alloc _).below' hbb (by rw [size_alloc]; omega) (by omega))
      replace HHB := Lib.hid ((HHB.out.alloc (by omega) _).trans (hbb.mono (by omega)))
      have hl2 : (ys ++ [1065353216]).length = j + 1 := by simp [hyl]
      obtain ⟨g2, c2, rfl, hc2, hg2, hg3⟩ := ho'.form (by omega)
      rw [hl2]
      have HRd := Lib.hid ho'.rd
      obtain ⟨z0, hz0⟩ := get_ex (xs := ys ++ [1065353216]) (i := 0) (by omega)
      have HA := Lib.hid (fun i x => own_cells ho' (i := i) (x := x))
      have hcz : w'.cell? ⟨g2, 0, none⟩ = some (fV z0) := HA.out 0 z0 hz0
      have HZ0 := Lib.hid hz0
      clear ho' hgr hbb hp how hz0
      go_wp2
      go_loopw [9, 10] (fun so si wr2 => ∃ (i : Nat) (os : List Nat), i ≤ j ∧ si = .int .i64 ((i : Int) + 1) ∧ Own fV 56 wr2 w'.heap.size so os ∧ os.length = i + 1 ∧ Hid (absL os = gapsA ys (i + 1)) ∧ Below w'.heap.size w' wr2) (fun _ si _ => j + 2 - (intOf si).toNat)
      case atStart => exact ⟨0, [z0], Nat.zero_le _, rfl, own_one w' _ z0 (Nat.le_refl _), rfl, by unfold Hid; rw [gapsA_succ, gapA_g HZ0.out]; rfl, below_alloc _ _⟩
      case round =>
        clear hcz
        obtain ⟨w1, hw1⟩ : ∃ w1, w1 = wr := ⟨_, rfl⟩
        obtain ⟨i, os, hi, rfl, hown, hol, habs, hb2⟩ := hrel
        have hz2 := hb2.size
        have HOL := Lib.hid hol
        clear hol hw1
        by_cases hlt2 : i < j
        · obtain ⟨x, hx⟩ := get_ex (xs := ys ++ [1065353216]) (i := i + 1) (by omega)
          obtain ⟨y, hy⟩ := get_ex (xs := ys ++ [1065353216]) (i := i) (by omega)
          have HG := Lib.hid (gapA_s hy hx)
          have c1 : wr.cell? ⟨g2, i + 1, none⟩ = some (fV x) := by rw [hb2.cell (by exact hg3)]; exact HA.out _ _ hx
          have c2' : wr.cell? ⟨g2, i, none⟩ = some (fV y) := by rw [hb2.cell (by exact hg3)]; exact HA.out _ _ hy
          have hz1 : (0 : Int) ≤ (i : Int) + 1 := by omega
          have hz3 : ((i : Int) + 1).toNat = i + 1 := by omega
          have hz4 : (i : Int) + 1 - 1 = (i : Int) := by omega
          have hz6 : IntKind.i64.wrap ((i : Int)) = (i : Int) := IntWalk.i64_in _ (by omega)
          have hz7 : (i : Int) + 1 < ((j + 1 : Nat) : Int) := by omega
          have hz8 : (i : Int) < ((j + 1 : Nat) : Int) := by omega
          have hz9 : (i : Int) + 1 < (j : Int) + 1 := by omega
          have hz10 : (i : Int) < (j : Int) + 1 := by omega
          have hz11 : (0 : Int) ≤ (i : Int) := by omega
          have hz12 : (i : Int) < (j : Int) := by omega
          clear hx hy
          go_wp2
          go_region_law ((go_loud (refine elF_.app_step (fun _ => rfl) _ (by rfl) _ _ (by rfl) w'.heap.size _ os (by rfl) (Own.alloc (by exact hown) _) _ _ (by rfl) (by exact rd_one fV _ _ _) (by omega) (by rw [HOL.out]; simp; omega) (by simp; omega) ?_); intro v' wv ho hgr hbb hp))
          all_goals
            clear hgr hp
            go_wp2
            go_roundw
            case rel => exact ⟨i + 1, _, by omega, by go_num, ho, by rw [List.length_append, HOL.out]; rfl, by unfold Hid; rw [absL_appS, habs.out, gapsA_succ ys (i + 1), HG.out]; simp [absL, abs_flR .sub rfl], ((below_drewN' _ hb2).alloc (by simpa using hz2) _).trans hbb⟩
            case measure => simp [intOf]; omega
        · have hie : i = j := by omega
          subst hie
          have BX := HHX.out.below' hb2 (Nat.le_refl _) (by omega)
          have B2 := HH2.out.below' hb2 (Nat.le_refl _) (by omega)
          have HBF := Lib.hid (below_to HHB.out hb2 (by omega))
          have HOF := Lib.hid hown
          have hlo : os.length ≤ 1099511627776 := by rw [HOL.out]; omega
          have d0 := BX.cell 0 _ rfl
          have d1 := BX.cell 1 _ rfl
          have d2 := BX.cell 2 _ rfl
          have e0 := B2.cell 0 _ rfl
          have e1 := B2.cell 1 _ rfl
          have e2 := B2.cell 2 _ rfl
          have f0 := B2.free 0
          have f1 := B2.free 1
          have f2 := B2.free 2
          have HB2 := Lib.hid B2
          clear hown hb2 BX B2 hz2
          go_wp2
          refine bodyPost_ret (v := .tuple #[sdV k (sdI k a b i).1 (sdI k a b i).2, u9, .bool true]) (by simp [results, Try.results11, go_sem, *]) rfl ?_
          have T := ((Touch.setCell wr ⟨w.heap.size + 1, 0, none⟩ (.int .i64 k)).trans (Touch.setCell _ ⟨w.heap.size + 1, 1, none⟩ (.int .u64 (sdI k a b i).fst))).trans (Touch.setCell _ ⟨w.heap.size + 1, 2, none⟩ (.int .u64 (sdI k a b i).snd))
          refine ⟨_, os, ?_, (own_touch HOF.out T (by show w.heap.size + 1 + 1 ≤ _; omega)).base_ (by omega), hlo, ?_, HBF.out.trans (T.below (by show _ ≤ w.heap.size + 1; omega) (by have := HBF.out.size; omega))⟩
          · unfold simSeed
            rw [Ho.out]
            simp
          · unfold simL
            rw [Ho.out, habs.out]
            simp [hys.out]
end Go.Proofs.Ythdnelfggmlalaa
