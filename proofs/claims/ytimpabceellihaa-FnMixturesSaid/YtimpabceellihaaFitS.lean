/-
  Fitted mixtures: the walk of spec.FitMixture.
-/
import Derived.Test.YtimpabceellihaaRow3
import Derived.Test.YtimpabceellihaaOrdT
namespace Go.Proofs.Ytimpabceellihaa
open Go.RowKit
attribute [local go_sem] run_fl_add run_fl_sub run_fl_mul run_fl_quo run_up_

/-- The shares of the first numbers, one row behind the other. -/
def fFl (x0 x1 x2 xs : List Nat) (m : Nat) : List (Option Nat) := (xs.take m).flatMap fun y => fL (fun j => fShr x0 x1 x2 j y) x0.length
theorem fFl_succ {x0 x1 x2 xs : List Nat} {m y : Nat} (h : xs[m]? = some y) : fFl x0 x1 x2 xs (m + 1) = fFl x0 x1 x2 xs m ++ fL (fun j => fShr x0 x1 x2 j y) x0.length := by simp [fFl, take_snoc h]
theorem fFl_len (x0 x1 x2 xs : List Nat) : ∀ m, m ≤ xs.length → (fFl x0 x1 x2 xs m).length = m * x0.length
  | 0, _ => by simp [fFl]
  | m + 1, h => by
    obtain ⟨y, hy⟩ := get_of_lt (xs := xs) (k := m) (by omega)
    rw [fFl_succ hy, List.length_append, fFl_len x0 x1 x2 xs m (by omega), fL_len, Nat.succ_mul]
theorem fFl_at {x0 x1 x2 xs : List Nat} {i j y : Nat} (hy : xs[i]? = some y) (hj : j < x0.length) : ∀ m, i < m → m ≤ xs.length → (fFl x0 x1 x2 xs m)[i * x0.length + j]? = some (fShr x0 x1 x2 j y)
  | 0, h, _ => by omega
  | m + 1, h, hm => by
    obtain ⟨z, hz⟩ := get_of_lt (xs := xs) (k := m) (by omega)
    have hl := fFl_len x0 x1 x2 xs m (by omega)
    rw [fFl_succ hz]
    by_cases e : i = m
    · subst e
      rw [hz] at hy
      cases hy
      rw [List.getElem?_append_right (by omega), hl, Nat.add_sub_cancel_left]
      unfold fL
      rw [List.getElem?_map, List.getElem?_range hj]
      rfl
    · have h1 : i * x0.length + j < m * x0.length := by
        have : (i + 1) * x0.length ≤ m * x0.length := Nat.mul_le_mul_right _ (by omega)
        rw [Nat.succ_mul] at this
        omega
      rw [List.getElem?_append_left (by omega)]
      exact fFl_at hy hj m (by omega) (by omega)
theorem fit_at {x0 x1 x2 xs zs : List Nat} {i j y : Nat} (h : absL zs = fFl x0 x1 x2 xs xs.length) (hy : xs[i]? = some y) (hj : j < x0.length) (hi : i < xs.length) : ∃ q, zs[i * x0.length + j]? = some q ∧ absF .f32 q = fShr x0 x1 x2 j y := by
  have h1 := fFl_at (x1 := x1) (x2 := x2) hy hj xs.length hi (Nat.le_refl _)
  rw [← h] at h1
  unfold absL at h1
  rw [List.getElem?_map] at h1
  cases hq : zs[i * x0.length + j]? with
  | none => rw [hq] at h1; cases h1
  | some q => rw [hq] at h1; exact ⟨q, rfl, Option.some.inj h1⟩
set_option maxRecDepth 100000 in
set_option maxHeartbeats 12800000 in
theorem specFitMixture_any (s0 : Value) (x0 : List Nat) (s1 : Value) (x1 : List Nat) (s2 : Value) (x2 : List Nat) (hn0 : x0.length ≤ 1099511627776) (hn1 : x1.length ≤ 1099511627776) (hn2 : x2.length ≤ 1099511627776) (v : Value) (xs : List Nat) (hn : xs.length ≤ 1099511627776) (r : Int) (w : World) (hr0 : Rd fV w s0 x0) (hr1 : Rd fV w s1 x1) (hr2 : Rd fV w s2 x2) (hr3 : Rd fV w v xs) :
    Calls Try.prog 6 #[mxV s0 s1 s2, v, .int .i64 r] w (RetFitMixture x0 x1 x2 xs r w) := by
  have HR0 := Lib.hid hr0
  obtain ⟨A0, cap0, rfl, hcap0, hA0⟩ := hr0
  have HA0 := Lib.hid hA0
  clear hA0
  have HR1 := Lib.hid hr1
  obtain ⟨A1, cap1, rfl, hcap1, hA1⟩ := hr1
  have HA1 := Lib.hid hA1
  clear hA1
  have HR2 := Lib.hid hr2
  obtain ⟨A2, cap2, rfl, hcap2, hA2⟩ := hr2
  have HA2 := Lib.hid hA2
  clear hA2
  have HR3 := Lib.hid hr3
  obtain ⟨A3, cap3, rfl, hcap3, hA3⟩ := hr3
  have HA3 := Lib.hid hA3
  clear hA3
  go_enter Try.func6, Try.ntmps6
  go_wp2_with fail
  have B0 : BoxAt ((w.alloc (.cells ([.slice A0 x0.length cap0, .slice A1 x1.length cap1, .slice A2 x2.length cap2] : List Value).toArray 26)).alloc (.cells ([.slice none 0 0, .slice none 0 0, .slice none 0 0] : List Value).toArray 26)) w.heap.size [.slice A0 x0.length cap0, .slice A1 x1.length cap1, .slice A2 x2.length cap2] := (BoxAt.new w _ _).alloc _
  have B1 : BoxAt ((w.alloc (.cells ([.slice A0 x0.length cap0, .slice A1 x1.length cap1, .slice A2 x2.length cap2] : List Value).toArray 26)).alloc (.cells ([.slice none 0 0, .slice none 0 0, .slice none 0 0] : List Value).toArray 26)) (w.heap.size + 1) [.slice none 0 0, .slice none 0 0, .slice none 0 0] := by
    have := BoxAt.new (w.alloc (.cells ([.slice A0 x0.length cap0, .slice A1 x1.length cap1, .slice A2 x2.length cap2] : List Value).toArray 26)) [.slice none 0 0, .slice none 0 0, .slice none 0 0] 26
    rwa [size_alloc] at this
  have hT : Below w.heap.size w ((w.alloc (.cells ([.slice A0 x0.length cap0, .slice A1 x1.length cap1, .slice A2 x2.length cap2] : List Value).toArray 26)).alloc (.cells ([.slice none 0 0, .slice none 0 0, .slice none 0 0] : List Value).toArray 26)) := ((Below.refl _ _).alloc (Nat.le_refl _) _).alloc (by simp) _
  generalize hg : (w.alloc _).alloc _ = W0 at *
  clear hg
  refine (l05Mixture_any _ _ _ _ x0 x1 x2 hn0 hn1 hn2 _ B0 (HR0.out.below hT) (HR1.out.below hT) (HR2.out.below hT)).mono ?_
  rintro e w1 ⟨rfl, hb⟩
  replace B0 := B0.below hb
  replace B1 := B1.below hb
  replace hT := below_to hT hb hT.size
  clear hb
  cases hs : mixB x0 x1 x2
  · have Ho := Lib.hid (fit_f1 (xs := xs) (r := r) hs)
    clear hs
    have d0 := B1.cell 0 _ rfl
    have d1 := B1.cell 1 _ rfl
    have d2 := B1.cell 2 _ rfl
    have f0 := B1.free 0
    have f1 := B1.free 1
    have f2 := B1.free 2
    have HT := Lib.hid hT
    clear hT
    go_wp2
    refine bodyPost_ret (v := .tuple #[mxV (.slice none 0 0) (.slice none 0 0) (.slice none 0 0), .bool false]) (by simp [results, Try.results6, go_sem, *]) rfl ?_
    exact ret_fit_no Ho.out (((HT.out.setCell (by simp) _).setCell (by simp) _).setCell (by simp) _)
  obtain ⟨hk, hl1, hl2⟩ := mixB_len hs
  have HMX := Lib.hid hs
  have HL1 := Lib.hid hl1
  have HL2 := Lib.hid hl2
  have hk1 : 1 ≤ x0.length := hk.1
  have hk8 : x0.length ≤ 8 := hk.2
  clear hs hk hl1 hl2
  go_wp2_with fail
  refine (l05Numbers_any _ xs hn 2 (by omega) _ (HR3.out.below hT)).mono ?_
  rintro e w2 ⟨rfl, hd⟩
  have hb := below_of_drew hd
  clear hd
  replace B0 := B0.below hb
  replace B1 := B1.below hb
  replace hT := below_to hT hb hT.size
  clear hb
  cases hs : sampB xs 2
  · have Ho := Lib.hid (fit_f2 (x0 := x0) (x1 := x1) (x2 := x2) (r := r) hs)
    clear hs
    have d0 := B1.cell 0 _ rfl
    have d1 := B1.cell 1 _ rfl
    have d2 := B1.cell 2 _ rfl
    have f0 := B1.free 0
    have f1 := B1.free 1
    have f2 := B1.free 2
    have HT := Lib.hid hT
    clear hT
    go_wp2
    refine bodyPost_ret (v := .tuple #[mxV (.slice none 0 0) (.slice none 0 0) (.slice none 0 0), .bool false]) (by simp [results, Try.results6, go_sem, *]) rfl ?_
    exact ret_fit_no Ho.out (((HT.out.setCell (by simp) _).setCell (by simp) _).setCell (by simp) _)
  have HSX := Lib.hid hs
  clear hs
  go_wp2_with fail
  refine (l00In_any _ _ _ _).mono ?_
  rintro e w4 ⟨rfl, rfl⟩
  cases hs : inB r 0 64
  · have Ho := Lib.hid (fit_f3 (x0 := x0) (x1 := x1) (x2 := x2) (xs := xs) hs)
    clear hs
    have d0 := B1.cell 0 _ rfl
    have d1 := B1.cell 1 _ rfl
    have d2 := B1.cell 2 _ rfl
    have f0 := B1.free 0
    have f1 := B1.free 1
    have f2 := B1.free 2
    have HT := Lib.hid hT
    clear hT
    go_wp2
    refine bodyPost_ret (v := .tuple #[mxV (.slice none 0 0) (.slice none 0 0) (.slice none 0 0), .bool false]) (by simp [results, Try.results6, go_sem, *]) rfl ?_
    exact ret_fit_no Ho.out (((HT.out.setCell (by simp) _).setCell (by simp) _).setCell (by simp) _)
  have HIN := Lib.hid hs
  obtain ⟨hr0', hr64⟩ := inB_true hs
  clear hs
  obtain ⟨R, rfl⟩ : ∃ R : Nat, r = (R : Int) := ⟨r.toNat, by omega⟩
  have h1p : 0 < x1.length := by rw [HL1.out]; omega
  have h2p : 0 < x2.length := by rw [HL2.out]; omega
  have h1q : x1.length ≤ 8 := by rw [HL1.out]; exact hk8
  have h2q : x2.length ≤ 8 := by rw [HL2.out]; exact hk8
  have c0 := B0.cell 0 _ rfl
  have c1 := B0.cell 1 _ rfl
  have c2 := B0.cell 2 _ rfl
  have hlt0 := B0.lt
  go_upto_region 3 with fail
  go_cut [8] (fun sp wx => Made x0 x1 x2 w2 wx sp)
  case first =>
    have hC3 : C3 ⟨w.heap.size, 0, none⟩ ⟨w.heap.size, 1, none⟩ ⟨w.heap.size, 2, none⟩ (.slice A0 x0.length cap0) (.slice A1 x1.length cap1) (.slice A2 x2.length cap2) w2 := ⟨c0, c1, c2⟩
    have HC3 := Lib.hid hC3
    clear c0 c1 c2 hC3
    obtain ⟨V, hV⟩ : ∃ V : Nat → Value, V = fun j => if j = 0 then (.slice A0 x0.length cap0) else if j = 1 then (.slice A1 x1.length cap1) else (.slice A2 x2.length cap2) := ⟨_, rfl⟩
    obtain ⟨X, hX⟩ : ∃ X : Nat → List Nat, X = fun j => if j = 0 then x0 else if j = 1 then x1 else x2 := ⟨_, rfl⟩
    have HV := Lib.hid hV
    have HX := Lib.hid hX
    clear hV hX
    refine wp_region_slots [38, 39, 40, 41, 42, 43, 44, 45, 46, 47, 48, 49, 50, 8] (I3 w.heap.size V X w2) (by kernel_rfl) [undef, undef, undef, undef, undef, undef, undef, undef, undef, undef, undef, undef, undef, undef] (by kernel_rfl) ?_ ?_ ?_
    · exact ⟨by kernel_rfl, fun _ => undef, 0, rfl, by rw [if_neg (by rw [up_start]; decide)]; exact J3.start w2⟩
    · rintro listed vs w5 i hdn ⟨hsz, z, S, rfl, hI⟩ hi
      have h14 : up listed 14 = false := by
        cases hu : up listed 14 with
        | false => rfl
        | true =>
          rw [if_pos hu] at hI
          have h1 := up_no hi hsz
          by_cases e : i = 14
          · rw [e] at h1; rw [h1] at hu; cases hu
          · have hl := ready_lt hi
            simp only [List.size_toArray, List.length_cons, List.length_nil, Nat.reduceAdd] at hl
            rw [hI.1 i (by omega)] at h1; cases h1
      rw [if_neg (by rw [h14]; decide)] at hI
      have HCX : C3 ⟨w.heap.size, 0, none⟩ ⟨w.heap.size, 1, none⟩ ⟨w.heap.size, 2, none⟩ (.slice A0 x0.length cap0) (.slice A1 x1.length cap1) (.slice A2 x2.length cap2) w5 := HC3.out.below' hI.low (by dsimp only; omega) (by dsimp only; omega) (by dsimp only; omega)
      have HLw := Lib.hid hI.low
      have hl := ready_lt hi
      simp only [List.size_toArray, List.length_cons, List.length_nil, Nat.reduceAdd] at hl
      have hno := up_no hi hsz
      have hsz2 : ∀ i, (listed.setIfInBounds i true).size = 15 := fun i => by rw [Array.size_setIfInBounds]; exact hsz
      have hiff : ∀ (i : Nat) (A : Prop) (z : Nat → Value) (S : Nat) (w' : World), i < 14 → J3 w.heap.size V X w2 (upd (up listed) i) z S w' → (if up (listed.setIfInBounds i true) 14 = true then A else J3 w.heap.size V X w2 (up (listed.setIfInBounds i true)) z S w') := fun i A z S w' h hB => by rw [up_set (by omega), if_neg (by rw [upd_ne (by omega), h14]; decide)]; exact hB
      have HF := Lib.hid hiff
      have HS := Lib.hid hsz2
      clear hiff hsz2
      simp only [putAll]
      repeat (first | simp only [List.getElem_toArray] | simp only [List.getElem_cons_succ] | simp only [List.getElem_cons_zero] | simp only [Act.put] | simp only [List.setIfInBounds_toArray] | simp only [List.set_cons_succ] | simp only [List.set_cons_zero])
      obtain rfl | rfl | rfl | rfl | rfl | rfl | rfl | rfl | rfl | rfl | rfl | rfl | rfl | rfl | rfl : i = 0 ∨ i = 1 ∨ i = 2 ∨ i = 3 ∨ i = 4 ∨ i = 5 ∨ i = 6 ∨ i = 7 ∨ i = 8 ∨ i = 9 ∨ i = 10 ∨ i = 11 ∨ i = 12 ∨ i = 13 ∨ i = 14 := by omega
      · refine wpOp_step (o := _) rfl (fun K hK => ?_)
        have HK := Lib.hid hK
        clear hK
        have HI := Lib.hid (hI.make (j := 0) (by decide) hno)
        clear HCX hI
        go_simp
        exact HK.out _ _ ⟨_, by kernel_rfl, HS.out _, _, _, rfl, HF.out 0 _ _ _ _ (by decide) HI.out⟩
      · refine wpOp_step (o := _) rfl (fun K hK => ?_)
        have HK := Lib.hid hK
        clear hK
        have HI := Lib.hid (hI.addr (j := 0) (by decide))
        clear HCX hI
        go_simp
        exact HK.out _ _ ⟨_, by kernel_rfl, HS.out _, _, _, rfl, HF.out 1 _ _ _ _ (by decide) HI.out⟩
      · have hz := hI.a1 0 (by decide) (up_need hi (by kernel_rfl))
        simp only [Nat.reduceMul, Nat.reduceAdd] at hz
        have q0 := HCX.c0
        refine wpOp_step (o := _) rfl (fun K hK => ?_)
        have HK := Lib.hid hK
        clear hK
        have hI2 := hI.load (j := 0) (by decide)
        have hVj : V 0 = .slice A0 x0.length cap0 := by rw [HV.out]; rfl
        rw [hVj] at hI2
        rw [← updz_same (z := z) hz] at hI2
        have HI := Lib.hid hI2
        clear HCX hI hI2 hVj
        go_simp
        exact HK.out _ _ ⟨_, by kernel_rfl, HS.out _, _, _, rfl, HF.out 2 _ _ _ _ (by decide) HI.out⟩
      · have hz0 : up listed 0 = true := up_need hi (by kernel_rfl)
        have hz2 := hI.a2 0 (by decide) (up_need hi (by kernel_rfl))
        simp only [Nat.reduceMul, Nat.reduceAdd] at hz2
        rw [HV.out] at hz2
        refine wpOp_step (o := _) rfl (fun K hK => ?_)
        have HK := Lib.hid hK
        clear hK
        refine elF_.app_step (f := fV) (fun _ => rfl) _ (by rfl) _ _ (by rfl) (w2.heap.size) (z 0) [] (by rfl) (hI.made (j := 0) (by decide) hno hz0) _ x0 (by rfl) (by rw [hz2]; exact HR0.out.below (hT.trans (hI.low.mono hT.size))) (by omega) (by first | omega | (simp; omega)) hI.low.size ?_
        intro v d ho hg hbb hp
        simp only [List.nil_append] at ho
        have HI := Lib.hid (hI.app (j := 0) (by decide) hno hz0 (by rw [HX.out]; exact ho) hg hbb hp)
        clear HCX hI ho hg hbb hp
        exact HK.out _ _ ⟨_, by kernel_rfl, HS.out _, _, _, rfl, HF.out 3 _ _ _ _ (by decide) HI.out⟩
      · refine wpOp_step (o := _) rfl (fun K hK => ?_)
        have HK := Lib.hid hK
        clear hK
        have HI := Lib.hid (hI.make (j := 1) (by decide) hno)
        clear HCX hI
        go_simp
        exact HK.out _ _ ⟨_, by kernel_rfl, HS.out _, _, _, rfl, HF.out 4 _ _ _ _ (by decide) HI.out⟩
      · refine wpOp_step (o := _) rfl (fun K hK => ?_)
        have HK := Lib.hid hK
        clear hK
        have HI := Lib.hid (hI.addr (j := 1) (by decide))
        clear HCX hI
        go_simp
        exact HK.out _ _ ⟨_, by kernel_rfl, HS.out _, _, _, rfl, HF.out 5 _ _ _ _ (by decide) HI.out⟩
      · have hz := hI.a1 1 (by decide) (up_need hi (by kernel_rfl))
        simp only [Nat.reduceMul, Nat.reduceAdd] at hz
        have q0 := HCX.c1
        refine wpOp_step (o := _) rfl (fun K hK => ?_)
        have HK := Lib.hid hK
        clear hK
        have hI2 := hI.load (j := 1) (by decide)
        have hVj : V 1 = .slice A1 x1.length cap1 := by rw [HV.out]; rfl
        rw [hVj] at hI2
        rw [← updz_same (z := z) hz] at hI2
        have HI := Lib.hid hI2
        clear HCX hI hI2 hVj
        go_simp
        exact HK.out _ _ ⟨_, by kernel_rfl, HS.out _, _, _, rfl, HF.out 6 _ _ _ _ (by decide) HI.out⟩
      · have hz0 : up listed 4 = true := up_need hi (by kernel_rfl)
        have hz2 := hI.a2 1 (by decide) (up_need hi (by kernel_rfl))
        simp only [Nat.reduceMul, Nat.reduceAdd] at hz2
        rw [HV.out] at hz2
        refine wpOp_step (o := _) rfl (fun K hK => ?_)
        have HK := Lib.hid hK
        clear hK
        refine elF_.app_step (f := fV) (fun _ => rfl) _ (by rfl) _ _ (by rfl) (w2.heap.size) (z 4) [] (by rfl) (hI.made (j := 1) (by decide) hno hz0) _ x1 (by rfl) (by rw [hz2]; exact HR1.out.below (hT.trans (hI.low.mono hT.size))) (by omega) (by first | omega | (simp; omega)) hI.low.size ?_
        intro v d ho hg hbb hp
        simp only [List.nil_append] at ho
        have HI := Lib.hid (hI.app (j := 1) (by decide) hno hz0 (by rw [HX.out]; exact ho) hg hbb hp)
        clear HCX hI ho hg hbb hp
        exact HK.out _ _ ⟨_, by kernel_rfl, HS.out _, _, _, rfl, HF.out 7 _ _ _ _ (by decide) HI.out⟩
      · refine wpOp_step (o := _) rfl (fun K hK => ?_)
        have HK := Lib.hid hK
        clear hK
        have HI := Lib.hid (hI.make (j := 2) (by decide) hno)
        clear HCX hI
        go_simp
        exact HK.out _ _ ⟨_, by kernel_rfl, HS.out _, _, _, rfl, HF.out 8 _ _ _ _ (by decide) HI.out⟩
      · refine wpOp_step (o := _) rfl (fun K hK => ?_)
        have HK := Lib.hid hK
        clear hK
        have HI := Lib.hid (hI.addr (j := 2) (by decide))
        clear HCX hI
        go_simp
        exact HK.out _ _ ⟨_, by kernel_rfl, HS.out _, _, _, rfl, HF.out 9 _ _ _ _ (by decide) HI.out⟩
      · have hz := hI.a1 2 (by decide) (up_need hi (by kernel_rfl))
        simp only [Nat.reduceMul, Nat.reduceAdd] at hz
        have q0 := HCX.c2
        refine wpOp_step (o := _) rfl (fun K hK => ?_)
        have HK := Lib.hid hK
        clear hK
        have hI2 := hI.load (j := 2) (by decide)
        have hVj : V 2 = .slice A2 x2.length cap2 := by rw [HV.out]; rfl
        rw [hVj] at hI2
        rw [← updz_same (z := z) hz] at hI2
        have HI := Lib.hid hI2
        clear HCX hI hI2 hVj
        go_simp
        exact HK.out _ _ ⟨_, by kernel_rfl, HS.out _, _, _, rfl, HF.out 10 _ _ _ _ (by decide) HI.out⟩
      · have hz0 : up listed 8 = true := up_need hi (by kernel_rfl)
        have hz2 := hI.a2 2 (by decide) (up_need hi (by kernel_rfl))
        simp only [Nat.reduceMul, Nat.reduceAdd] at hz2
        rw [HV.out] at hz2
        refine wpOp_step (o := _) rfl (fun K hK => ?_)
        have HK := Lib.hid hK
        clear hK
        refine elF_.app_step (f := fV) (fun _ => rfl) _ (by rfl) _ _ (by rfl) (w2.heap.size) (z 8) [] (by rfl) (hI.made (j := 2) (by decide) hno hz0) _ x2 (by rfl) (by rw [hz2]; exact HR2.out.below (hT.trans (hI.low.mono hT.size))) (by omega) (by first | omega | (simp; omega)) hI.low.size ?_
        intro v d ho hg hbb hp
        simp only [List.nil_append] at ho
        have HI := Lib.hid (hI.app (j := 2) (by decide) hno hz0 (by rw [HX.out]; exact ho) hg hbb hp)
        clear HCX hI ho hg hbb hp
        exact HK.out _ _ ⟨_, by kernel_rfl, HS.out _, _, _, rfl, HF.out 11 _ _ _ _ (by decide) HI.out⟩
      · have e3 : up listed 3 = true := up_need hi (by kernel_rfl)
        have e7 : up listed 7 = true := up_need hi (by kernel_rfl)
        have e11 : up listed 11 = true := up_need hi (by kernel_rfl)
        refine wpOp_step (o := _) rfl (fun K hK => ?_)
        have HK := Lib.hid hK
        clear hK
        obtain ⟨E0, p0, ez3, -, -⟩ := (hI.done (j := 0) (by decide) e3).rd
        obtain ⟨E1, p1, ez7, -, -⟩ := (hI.done (j := 1) (by decide) e7).rd
        obtain ⟨E2, p2, ez11, -, -⟩ := (hI.done (j := 2) (by decide) e11).rd
        simp only [Nat.reduceMul, Nat.reduceAdd] at ez3 ez7 ez11
        have hI2 := hI.build e3 e7 e11
        have hzz : updz (updz (updz z 3 (.slice E0 (X 0).length p0)) 7 (.slice E1 (X 1).length p1)) 11 (.slice E2 (X 2).length p2) = z := by rw [updz_same ez3, updz_same ez7, updz_same ez11]
        rw [ez3, ez7, ez11, ← hzz] at hI2
        have HI := Lib.hid hI2
        clear HCX hI hI2
        go_simp
        exact HK.out _ _ ⟨_, by kernel_rfl, HS.out _, _, _, rfl, HF.out 12 _ _ _ _ (by decide) HI.out⟩
      · refine wpOp_step (o := _) rfl (fun K hK => ?_)
        have HK := Lib.hid hK
        clear hK
        have HI := Lib.hid (hI.room hno 26)
        clear HCX hI
        go_simp
        exact HK.out _ _ ⟨_, by kernel_rfl, HS.out _, _, _, rfl, HF.out 13 _ _ _ _ (by decide) HI.out⟩
      · obtain ⟨hz12, e3, e7, e11⟩ := hI.a12 (up_need hi (by kernel_rfl))
        have e13 : up listed 13 = true := up_need hi (by kernel_rfl)
        have hz13 := hI.a13 e13
        refine wpOp_step (o := _) rfl (fun K hK => ?_)
        have HK := Lib.hid hK
        clear hK
        have hQ := hI.whole e3 e7 e11 e13
        obtain ⟨KB, -, hS⟩ := hQ.box _ rfl
        have k0 := KB.cell 0 _ rfl
        have k1 := KB.cell 1 _ rfl
        have k2 := KB.cell 2 _ rfl
        have k3 := KB.free 0
        have k4 := KB.free 1
        have k5 := KB.free 2
        have hSl := KB.lt
        have hM := hQ.held hI.low
        have hall : ∀ j, j < 14 → up listed j = true := up_waits hdn hi 14 (by kernel_rfl)
        obtain ⟨E0, p0, ez3, -, -⟩ := (hI.done (j := 0) (by decide) e3).rd
        obtain ⟨E1, p1, ez7, -, -⟩ := (hI.done (j := 1) (by decide) e7).rd
        obtain ⟨E2, p2, ez11, -, -⟩ := (hI.done (j := 2) (by decide) e11).rd
        simp only [Nat.reduceMul, Nat.reduceAdd] at ez3 ez7 ez11
        have hM13 := hz13
        rw [ez3, ez7, ez11] at hM hz12
        have HM := Lib.hid hM
        have HA := Lib.hid hall
        clear hQ KB HCX hI hM hall ez3 ez7 ez11
        go_simp
        refine HK.out _ _ ⟨_, ?_, HS.out _, updz (updz z 12 (mxV (.slice E0 (X 0).length p0) (.slice E1 (X 1).length p1) (.slice E2 (X 2).length p2))) 13 (.pointer (some ⟨S, 0, none⟩)), S, rfl, ?_⟩
        · kernel_rfl
        · rw [if_pos (up_eq (by omega))]
          exact ⟨fun j hj => by rw [up_ne (by omega)]; exact HA.out j hj, HM.out⟩
    · rintro listed vs w5 ⟨hsz, z, S, rfl, hI⟩ hr
      have h14 : up listed 14 = true := up_all hsz hr (by kernel_rfl) 15 14 (by decide) (by decide)
      rw [if_pos h14] at hI
      have HM := hI.2
      rw [HX.out] at HM
      obtain ⟨z13, h13⟩ : ∃ u, u = z 13 := ⟨_, rfl⟩
      rw [← h13] at HM ⊢
      have HM2 := Lib.hid HM
      clear hI h14 hr HM h13
      simp only [putAll]
      repeat (first | simp only [List.getElem_toArray] | simp only [List.getElem_cons_succ] | simp only [List.getElem_cons_zero] | simp only [Act.put] | simp only [List.setIfInBounds_toArray] | simp only [List.set_cons_succ] | simp only [List.set_cons_zero])
      go_wp2_with fail
      go_meet
      exact HM2.out
  obtain ⟨w3, hwc⟩ : ∃ W, W = wc := ⟨_, rfl⟩
  subst hwc
  obtain ⟨S, ra, rb, rc, rfl, hM, hb, hS⟩ := hcut
  clear c0 c1 c2 hlt0
  have hB1l := B1.lt
  replace B1 := B1.below hb
  have hT' := below_to hT hb hT.size
  have hDz := hb.size
  have HM := Lib.hid (hM.base_ (b := w.heap.size + 2) hB1l)
  have hS1 : w.heap.size + 1 < S := by omega
  clear hb B0 hM hT hB1l hDz hS
  go_wp2
  go_loopw [2] (fun sr wq => ∃ (k : Nat) (v0 v1 v2 : Value) (y0 y1 y2 : List Nat), k ≤ R ∧ sr = .int .i64 k ∧ Hid (Cols wq (w.heap.size + 2) S [v0, v1, v2] [y0, y1, y2]) ∧ Hid (mixB y0 y1 y2 = true) ∧ Hid (fitN xs k y0 y1 y2 = fitN xs R x0 x1 x2) ∧ BoxAt wq (w.heap.size + 1) [.slice none 0 0, .slice none 0 0, .slice none 0 0] ∧ Below w.heap.size w wq) (fun sr _ => (intOf sr).toNat)
  case atStart => exact ⟨R, ra, rb, rc, x0, x1, x2, by omega, rfl, HM.out, HMX.out, rfl, B1, hT'⟩
  case round =>
    clear B1 hT' HM
    obtain ⟨k, v0, v1, v2, y0, y1, y2, hi, rfl, hC, hmx, hft, B1, hT⟩ := hrel
    obtain ⟨E0, q0, rfl, -, -⟩ := (hC.out.own 0 _ _ rfl rfl).rd
    obtain ⟨E1, q1, rfl, -, -⟩ := (hC.out.own 1 _ _ rfl rfl).rd
    obtain ⟨E2, q2, rfl, -, -⟩ := (hC.out.own 2 _ _ rfl rfl).rd
    have c0 := hC.out.box.cell 0 _ rfl
    have c1 := hC.out.box.cell 1 _ rfl
    have c2 := hC.out.box.cell 2 _ rfl
    have hSz := hC.out.box.lt
    have hBz := B1.lt
    obtain ⟨⟨hm1, hm8⟩, hlm1, hlm2⟩ := mixB_len hmx.out
    have HLM1 := Lib.hid hlm1
    have HLM2 := Lib.hid hlm2
    clear hlm1 hlm2
    by_cases hlt : 0 < k
    · obtain ⟨k1, hk1e⟩ : ∃ m, k = m + 1 := ⟨k - 1, by omega⟩
      have HK1 := Lib.hid hk1e
      replace hft : Hid (fitN xs (k1 + 1) y0 y1 y2 = fitN xs R x0 x1 x2) := by unfold Hid; rw [← hk1e]; exact hft.out
      clear hk1e
      obtain ⟨W9, rfl⟩ : ∃ W9, W9 = wr := ⟨_, rfl⟩
      go_upto_region 8 with fail
      have hb0 := below_alloc W9 (.cells #[] 39)
      have HZ0 : Hid (Own fV 39 (W9.alloc (.cells #[] 39)) W9.heap.size (.slice (some ⟨W9.heap.size, 0, none⟩) 0 0) []) := own_nil_new fV W9 _
      obtain ⟨zv, hzv⟩ : ∃ zv, zv = Value.slice (some ⟨W9.heap.size, 0, none⟩) 0 0 := ⟨_, rfl⟩
      rw [← hzv] at HZ0 ⊢
      have HT0 := Lib.hid hT
      have HB1 := Lib.hid B1
      clear hzv c0 c1 c2 hT B1
      generalize W9.alloc (.cells #[] 39) = w5 at *
      go_wp2
      go_loopw [10, 61] (fun so si wq => ∃ (i : Nat) (zs : List Nat), i ≤ xs.length ∧ si = .int .i64 i ∧ Hid (Own fV 39 wq W9.heap.size so zs) ∧ Hid (absL zs = fFl y0 y1 y2 xs i) ∧ Hid (fUp y0 y1 y2 xs i = true) ∧ Below W9.heap.size W9 wq) (fun _ si _ => xs.length - (intOf si).toNat)
      case atStart => exact ⟨0, [], by omega, rfl, HZ0, rfl, rfl, hb0⟩
      case round =>
        clear hb0 HZ0
        obtain ⟨i, zs, hi, rfl, HZ, hz, hup, hb⟩ := hrel
        by_cases hlt : i < xs.length
        · obtain ⟨y, hy⟩ := get_of_lt hlt
          obtain ⟨ad, rfl, hbl, hcell⟩ := HA3.out i y hy
          have hT1 := below_to HT0.out hb HT0.out.size
          have e0 : wr.cell? (ad.add i) = some (fV y) := by rw [hT1.cell (by rw [add_block]; exact hbl)]; exact hcell
          have HY := Lib.hid hy
          have HD := Lib.hid (denseOk_of hmx.out (samp_fin HSX.out hy))
          clear hy hcell hT1
          have hC1 := hC.out.below hb
          go_wp2_with fail
          refine (l05At_any _ _ _ _ y0 y1 y2 y HD.out (by omega) _ hC1.box (hC1.own 0 _ _ rfl rfl).rd (hC1.own 1 _ _ rfl rfl).rd (hC1.own 2 _ _ rfl rfl).rd).mono ?_
          rintro e w6 ⟨d, rfl, hd, hb6⟩
          have HDD : Hid (absF .f32 d = mixS y0 y1 y2 y) := hd
          replace HZ := Lib.hid (HZ.out.below hb6)
          replace hb := below_to hb hb6 hb.size
          clear hb6 hd hC1 e0
          go_wp2_with fail
          refine (l02Above_any _ _).mono ?_
          rintro e w7 ⟨rfl, m7, rfl⟩
          have hb7 : Below w6.heap.size w6 (w6.drewN m7) := below_drewN_ (Below.refl _ _)
          replace HZ := Lib.hid (HZ.out.below hb7)
          replace hb := below_to hb hb7 hb.size
          clear hb7
          generalize w6.drewN m7 = w7 at *
          cases hab : aboveB d
          · have Ho : Hid (fitOk x0 x1 x2 xs (R : Int) = false) := Lib.hid (fit_f4 (by rw [Int.toNat_natCast, ← hft.out, fitN_no (fUp_no HY.out (by rw [← HDD.out, ← above_abs]; exact hab))]))
            clear hab
            have B1 := HB1.out.below hb
            have d0 := B1.cell 0 _ rfl
            have d1 := B1.cell 1 _ rfl
            have d2 := B1.cell 2 _ rfl
            have f0 := B1.free 0
            have f1 := B1.free 1
            have f2 := B1.free 2
            have HT := Lib.hid (below_to HT0.out hb HT0.out.size)
            clear B1 hb
            go_wp2
            refine bodyPost_ret (v := .tuple #[mxV (.slice none 0 0) (.slice none 0 0) (.slice none 0 0), .bool false]) (by simp [results, Try.results6, go_sem, *]) rfl ?_
            exact ret_fit_no Ho.out (((HT.out.setCell (by simp) _).setCell (by simp) _).setCell (by simp) _)
          have HAB : Hid (aboveA (mixS y0 y1 y2 y) = true) := Lib.hid (by rw [← HDD.out, ← above_abs]; exact hab)
          clear hab
          go_wp2
          go_loopw [10, 13] (fun so sj wq => ∃ (j : Nat) (zs : List Nat), j ≤ y0.length ∧ sj = .int .i64 j ∧ Hid (Own fV 39 wq W9.heap.size so zs) ∧ Hid (absL zs = fFl y0 y1 y2 xs i ++ fL (fun j => fShr y0 y1 y2 j y) j) ∧ Below W9.heap.size W9 wq) (fun _ sj _ => y0.length - (intOf sj).toNat)
          case atStart => exact ⟨0, zs, by omega, rfl, HZ, by unfold Hid; rw [hz.out]; simp [fL], hb⟩
          case round =>
            clear hb HZ hz
            obtain ⟨j, zs, hj, rfl, HZ, hz, hb⟩ := hrel
            by_cases hlj : j < y0.length
            · have hT1 := below_to HT0.out hb HT0.out.size
              obtain ⟨ad', e9, _, hcell⟩ := HA3.out i y HY.out
              cases e9
              have e0 : wr.cell? (ad.add i) = some (fV y) := by rw [hT1.cell (by rw [add_block]; exact hbl)]; exact hcell
              have hC1 := hC.out.below hb
              have hzl : zs.length ≤ 65536 := by
                have h1 := congrArg List.length hz.out
                rw [List.length_append, fFl_len _ _ _ _ _ (by omega), fL_len] at h1
                have h2 : zs.length = i * y0.length + j := by simpa [absL] using h1
                have h3 : i * y0.length ≤ 256 * 8 := Nat.mul_le_mul (by have := (samp_len HSX.out).2; omega) hm8
                omega
              clear hT1 hcell
              go_wp2_with fail
              refine (l05Dense_any _ _ _ _ y0 y1 y2 y HD.out j hlj (by omega) _ hC1.box (hC1.own 0 _ _ rfl rfl).rd (hC1.own 1 _ _ rfl rfl).rd (hC1.own 2 _ _ rfl rfl).rd).mono ?_
              rintro e w8 ⟨q, rfl, hq, m8, rfl⟩
              have HQ := Lib.hid hq
              have hbz := hb.size
              clear hq hC1 e0
              go_wp2_with (at_builtin; go_loud (refine elF_.app (fun _ => rfl) _ rfl _ _ rfl W9.heap.size _ zs rfl (Own.alloc (Own.drewN HZ.out _) _) _ _ rfl (rd_one fV _ _ _) (by omega) (by simp; omega) (by simp; omega) ?_))
              intro v' w' ho hg hbb hp
              go_wp2
              go_roundw
              case rel =>
                refine ⟨j + 1, zs ++ [_], by omega, by go_num, Lib.hid ho, ?_, ((below_drewN_ hb).alloc hbz _).trans hbb⟩
                unfold Hid
                rw [absL_append', hz.out, fL_succ, ← List.append_assoc]
                refine congrArg (fFl y0 y1 y2 xs i ++ fL (fun j => fShr y0 y1 y2 j y) j ++ ·) ?_
                show [absF .f32 (flR _ _ _ _ _)] = _
                rw [abs_flR .quo rfl, HQ.out, HDD.out]
                rfl
              case measure => simp [intOf]; omega
            · have hje : j = y0.length := by omega
              have HZE : Hid (absL zs = fFl y0 y1 y2 xs (i + 1)) := Lib.hid (by rw [fFl_succ HY.out, ← hje]; exact hz.out)
              clear hje
              have HU := Lib.hid (show fUp y0 y1 y2 xs (i + 1) = true by rw [fUp_succ HY.out, hup.out, HAB.out]; rfl)
              go_wp2
              go_roundw
              case rel => exact ⟨i + 1, zs, by omega, by go_num, HZ, HZE, HU, hb⟩
              case measure => simp [intOf]; omega
        · have hie : i = xs.length := by omega
          have HE := Lib.hid hie
          have HZE : Hid (absL zs = fFl y0 y1 y2 xs xs.length) := Lib.hid (by rw [← hie]; exact hz.out)
          have HUP : Hid (fUp y0 y1 y2 xs xs.length = true) := Lib.hid (by rw [← hie]; exact hup.out)
          have hzl : zs.length = xs.length * y0.length := by
            have h1 := congrArg List.length HZE.out
            rw [fFl_len _ _ _ _ _ (Nat.le_refl _)] at h1
            simpa [absL] using h1
          have HZL := Lib.hid hzl
          clear hie hz hup hzl hi
          go_upto_region 20 with fail
          have hzp : 0 < zs.length := by rw [HZL.out]; exact Nat.mul_pos (by have := (samp_len HSX.out).1; omega) (by omega)
          obtain ⟨gz, cz, rfl, -, -, hgz⟩ := HZ.out.form hzp
          clear hzp
          obtain ⟨g0, k0, e0', -, -, -⟩ := (hC.out.own 0 _ _ rfl rfl).form (by omega)
          injection e0' with e1' _ e2'
          subst e1' e2'
          obtain ⟨g1, k1', e0', -, -, -⟩ := (hC.out.own 1 _ _ rfl rfl).form (by rw [HLM1.out]; omega)
          injection e0' with e1' _ e2'
          subst e1' e2'
          obtain ⟨g2, k2, e0', -, -, -⟩ := (hC.out.own 2 _ _ rfl rfl).form (by rw [HLM2.out]; omega)
          injection e0' with e1' _ e2'
          subst e1' e2'
          obtain ⟨T, hTe⟩ : ∃ T, T = wr.heap.size := ⟨_, rfl⟩
          have HC0 : Hid (Cols (wr.alloc (.cells #[.slice none 0 0, .slice none 0 0, .slice none 0 0] 26)) T T [.slice none 0 0, .slice none 0 0, .slice none 0 0] [[], [], []]) := by
            rw [hTe]; exact (Cols.new wr 3 26).base_ (by omega)
          have HS0 : Hid (Side [.slice none 0 0, .slice none 0 0, .slice none 0 0] T (.slice (some ⟨gz, 0, none⟩) zs.length cz)) :=
            ⟨fun e => (by injection e with e; dsimp only at e; omega), fun j u hu => .inr (by rcases j with _ | _ | _ | j <;> simp at hu <;> subst hu <;> intro e <;> cases e)⟩
          have HZ1 := Lib.hid (Own.alloc HZ.out (.cells #[.slice none 0 0, .slice none 0 0, .slice none 0 0] 26))
          have hb1 := hb.alloc hb.size (.cells #[.slice none 0 0, .slice none 0 0, .slice none 0 0] 26)
          have hTb : W9.heap.size ≤ T := by rw [hTe]; exact hb.size
          rw [← hTe]
          generalize wr.alloc _ = wT at *
          clear HZ hb hTe hgz
          go_wp2
          go_loopw [15] (fun sj wq => ∃ (j : Nat) (v0 v1 v2 : Value) (a0 a1 a2 : List Nat), j ≤ y0.length ∧ sj = .int .i64 j ∧ Hid (Cols wq T T [v0, v1, v2] [a0, a1, a2]) ∧ Hid (absL a0 = fL (fW y0 y1 y2 xs) j ∧ absL a1 = fL (fM y0 y1 y2 xs) j ∧ absL a2 = fL (fS y0 y1 y2 xs) j) ∧ Hid (Own fV 39 wq W9.heap.size (.slice (some ⟨gz, 0, none⟩) zs.length cz) zs) ∧ Hid (Side [v0, v1, v2] T (.slice (some ⟨gz, 0, none⟩) zs.length cz)) ∧ Below W9.heap.size W9 wq) (fun sj _ => y0.length - (intOf sj).toNat)
          case atStart => exact ⟨0, _, _, _, [], [], [], by omega, rfl, HC0.out, ⟨rfl, rfl, rfl⟩, HZ1.out, HS0.out, hb1⟩
          case round =>
            clear HC0 HZ1 HS0 hb1
            obtain ⟨j, v0, v1, v2, a0, a1, a2, hj, rfl, hN, habs, HZ, HSd, hb⟩ := hrel
            by_cases hlj : j < y0.length
            · obtain ⟨W5, rfl⟩ : ∃ W5, W5 = wr := ⟨_, rfl⟩
              go_wp2
              go_loopw [16, 17, 98] (fun sn ss si wq => ∃ (i n s : Nat), i ≤ xs.length ∧ si = .int .i64 i ∧ sn = fV n ∧ ss = fV s ∧ Hid (absF .f32 n = fN y0 y1 y2 xs j i) ∧ Hid (absF .f32 s = fDot y0 y1 y2 xs j i) ∧ Below W5.heap.size W5 wq) (fun _ _ si _ => xs.length - (intOf si).toNat)
              case atStart => exact ⟨0, 0, 0, by omega, rfl, rfl, rfl, abs_zero, abs_zero, Below.refl _ _⟩
              case round =>
                obtain ⟨i, n, s, hi, rfl, rfl, rfl, hn, hs, hbi⟩ := hrel
                by_cases hlt : i < xs.length
                · obtain ⟨y, hy⟩ := get_of_lt hlt
                  obtain ⟨ad, rfl, hbl, hcell⟩ := HA3.out i y hy
                  have hTT := below_to (below_to HT0.out hb HT0.out.size) hbi (below_to HT0.out hb HT0.out.size).size
                  have e0 : wr.cell? (ad.add i) = some (fV y) := by rw [hTT.cell (by rw [add_block]; exact hbl)]; exact hcell
                  obtain ⟨q, hq, hqa⟩ : ∃ q, zs[i * y0.length + j]? = some q ∧ absF .f32 q = fShr y0 y1 y2 j y := fit_at HZE.out hy hlj hlt
                  have hql := lt_of_get hq
                  have e1 := own_at (HZ.out.below hbi) hq
                  have HDn := Lib.hid (fN_succ (x0 := y0) (x1 := y1) (x2 := y2) (k := j) hy)
                  have HDs := Lib.hid (fDot_succ (x0 := y0) (x1 := y1) (x2 := y2) (k := j) hy)
                  have HQA := Lib.hid hqa
                  have hpl : i * y0.length ≤ 256 * 8 := Nat.mul_le_mul (by have := (samp_len HSX.out).2; omega) hm8
                  obtain ⟨p, hp⟩ : ∃ p, p = i * y0.length := ⟨_, rfl⟩
                  have hpi : (i : Int) * (y0.length : Int) = (p : Int) := by rw [hp]; exact (Int.natCast_mul _ _).symm
                  rw [← hp] at hql e1 hpl
                  clear hp hq hqa hcell hTT hy
                  go_wp2_with fail
                  refine wp_region_fq 15 (fun _ _ _ => True) (by kernel_rfl) (by kernel_rfl) ?_
                  simp only [List.take, List.drop]
                  repeat (first | (refine wpFq_one (by rfl) ?_; go_big_quiet_step (fail); refine wpQuiet_nil ?_) | (refine wpFq_nilc (by rfl) _ rfl _ (by rfl) ?_; simp only [Act.put, List.setIfInBounds_toArray, List.set_cons_zero, List.set_cons_succ]) | (refine wpFq_fl (by rfl) _ _ _ _ _ rfl (by rfl) _ _ _ (by rfl) (by rfl) ?_; intro fb hfb; simp only [Act.put, List.setIfInBounds_toArray, List.set_cons_zero, List.set_cons_succ]) | (refine wpFq_up (by rfl) _ _ _ rfl (by kernel_rfl) (by kernel_rfl) _ (by rfl) ?_; intro fb hfb; simp only [Act.put, List.setIfInBounds_toArray, List.set_cons_zero, List.set_cons_succ]))
                  refine wpFq_nil ?_
                  intro nq
                  go_wp2
                  go_roundw
                  case rel => exact ⟨i + 1, _, _, by omega, by go_num, rfl, rfl, by unfold Hid; rw [HDn.out, ← hn.out, ← HQA.out, abs_flR .add rfl], by unfold Hid; rw [HDs.out, ← hs.out, ← HQA.out]; simp only [*], below_drewN_ hbi⟩
                  case measure => simp [intOf]; omega
                · have hie : i = xs.length := by omega
                  have HNX : Hid (absF .f32 n = fN y0 y1 y2 xs j xs.length) := Lib.hid (by rw [← hie]; exact hn.out)
                  have HSX' : Hid (absF .f32 s = fDot y0 y1 y2 xs j xs.length) := Lib.hid (by rw [← hie]; exact hs.out)
                  obtain ⟨b0, hb0⟩ := get_of_lt (xs := y0) hlj
                  obtain ⟨b1, hb1⟩ := get_of_lt (xs := y1) (k := j) (by rw [HLM1.out]; exact hlj)
                  obtain ⟨b2, hb2⟩ := get_of_lt (xs := y2) (k := j) (by rw [HLM2.out]; exact hlj)
                  have hbT := below_to hb hbi hb.size
                  have hCT := hC.out.below hbT
                  have k0 := own_at (hCT.own 0 _ _ rfl rfl) hb0
                  have k1 := own_at (hCT.own 1 _ _ rfl rfl) hb1
                  have k2 := own_at (hCT.own 2 _ _ rfl rfl) hb2
                  have k3 := hCT.box.cell 0 _ rfl
                  have k4 := hCT.box.cell 1 _ rfl
                  have k5 := hCT.box.cell 2 _ rfl
                  have HB0 := Lib.hid hb0
                  have HB1' := Lib.hid hb1
                  have HB2 := Lib.hid hb2
                  have hj1 : (j : Int) < (y1.length : Int) := by rw [HLM1.out]; omega
                  have hj2 : (j : Int) < (y2.length : Int) := by rw [HLM2.out]; omega
                  clear hie hn hs hb0 hb1 hb2 hbT hCT
                  obtain ⟨W6, rfl⟩ : ∃ W6, W6 = wr := ⟨_, rfl⟩
                  go_upto_if 143 with fail
                  go_cut [19, 20, 21] (fun s19 s20 s21 wx => ∃ p q r : Nat, s19 = fV p ∧ s20 = fV q ∧ s21 = fV r ∧ Hid (absF .f32 p = fW y0 y1 y2 xs j) ∧ Hid (absF .f32 q = fM y0 y1 y2 xs j) ∧ Hid (absF .f32 r = fS y0 y1 y2 xs j) ∧ Below W6.heap.size W6 wx)
                  case first =>
                    cases hg : (FloatKind.f32.format.order n 981668463 == some .gt)
                    · have HBG := Lib.hid (part_big HNX.out hg)
                      go_wp2
                      go_meet
                      case rel =>
                        refine ⟨b0, b1, b2, rfl, rfl, rfl, ?_, ?_, ?_, Below.refl _ _⟩
                        · unfold Hid fW; rw [HBG.out, getD_of HB0.out]; rfl
                        · unfold Hid fM; rw [HBG.out, getD_of HB1'.out]; rfl
                        · unfold Hid fS; rw [HBG.out, getD_of HB2.out]; rfl
                    · have HBG := Lib.hid (part_big HNX.out hg)
                      clear k0 k1 k2 k3 k4 k5
                      go_upto_region 37 with fail
                      generalize hpw : flR .quo .f32 n _ _ = pW at *
                      have HPW : Hid (absF .f32 pW = fW y0 y1 y2 xs j) := Lib.hid (part_W HNX.out HBG.out (by rw [← hpw, abs_flR .quo rfl]; rfl))
                      generalize hpm : flR .quo .f32 s n _ = pM at *
                      have HPM : Hid (absF .f32 pM = fMean y0 y1 y2 xs j) := Lib.hid (by rw [← hpm, abs_flR .quo rfl, HNX.out, HSX'.out]; rfl)
                      clear hpw hpm
                      have hb7 : Below W6.heap.size W6 (W6.drewN (flN .quo .f32 n (floatOfInt .f32 (xs.length : Int)) + flN .quo .f32 s n)) := below_drewN_ (Below.refl _ _)
                      generalize W6.drewN _ = W7 at *
                      go_wp2
                      go_loopw [22, 154] (fun sw si wq => ∃ (i wd : Nat), i ≤ xs.length ∧ si = .int .i64 i ∧ sw = fV wd ∧ Hid (absF .f32 wd = fWide y0 y1 y2 xs j i) ∧ Below W6.heap.size W6 wq) (fun _ si _ => xs.length - (intOf si).toNat)
                      case atStart => exact ⟨0, 0, by omega, rfl, rfl, abs_zero, hb7⟩
                      case round =>
                        clear hb7
                        obtain ⟨i, wd, hi, rfl, rfl, hwd, hb8⟩ := hrel
                        by_cases hlt : i < xs.length
                        · obtain ⟨y, hy⟩ := get_of_lt hlt
                          obtain ⟨ad, rfl, hbl, hcell⟩ := HA3.out i y hy
                          have hb9 := below_to hbi hb8 hbi.size
                          have hTT := below_to (below_to HT0.out hb HT0.out.size) hb9 (below_to HT0.out hb HT0.out.size).size
                          have e0 : wr.cell? (ad.add i) = some (fV y) := by rw [hTT.cell (by rw [add_block]; exact hbl)]; exact hcell
                          obtain ⟨q, hq, hqa⟩ : ∃ q, zs[i * y0.length + j]? = some q ∧ absF .f32 q = fShr y0 y1 y2 j y := fit_at HZE.out hy hlj hlt
                          have hql := lt_of_get hq
                          have e1 := own_at (HZ.out.below hb9) hq
                          have HDw := Lib.hid (fWide_succ (x0 := y0) (x1 := y1) (x2 := y2) (k := j) hy)
                          have HQA := Lib.hid hqa
                          have hpl : i * y0.length ≤ 256 * 8 := Nat.mul_le_mul (by have := (samp_len HSX.out).2; omega) hm8
                          obtain ⟨p, hp⟩ : ∃ p, p = i * y0.length := ⟨_, rfl⟩
                          have hpi : (i : Int) * (y0.length : Int) = (p : Int) := by rw [hp]; exact (Int.natCast_mul _ _).symm
                          rw [← hp] at hql e1 hpl
                          clear hp hq hqa hcell hTT hy hb9
                          go_wp2
                          go_roundw
                          case rel => exact ⟨i + 1, _, by omega, by go_num, rfl, by unfold Hid; rw [HDw.out, ← hwd.out, ← HQA.out, ← HPM.out, abs_flR .add rfl, abs_flR .mul rfl, abs_flR .mul rfl, abs_flR .sub rfl], below_drewN_ hb8⟩
                          case measure => simp [intOf]; omega
                        · have hie : i = xs.length := by omega
                          have HWX : Hid (absF .f32 wd = fWide y0 y1 y2 xs j xs.length) := Lib.hid (by rw [← hie]; exact hwd.out)
                          clear hie hwd
                          go_wp2_with fail
                          refine (l01Sqrt_any _ _).mono ?_
                          rintro e w8 ⟨r, rfl, hr, m8, rfl⟩
                          have HR : Hid (absF .f32 r = fS y0 y1 y2 xs j) := Lib.hid (by rw [hr, abs_flR .add rfl, abs_flR .quo rfl, HWX.out, HNX.out]; unfold fS; rw [HBG.out]; rfl)
                          clear hr
                          go_wp2
                          go_meet
                          case rel => exact ⟨pW, pM, r, rfl, rfl, rfl, HPW.out, (by unfold Hid fM; rw [HBG.out]; exact HPM.out), HR.out, below_drewN_ hb8⟩
                  obtain ⟨w7, hwc⟩ : ∃ W, W = wc := ⟨_, rfl⟩
                  subst hwc
                  obtain ⟨pw, pm, ps, rfl, rfl, rfl, hpw, hpm, hps, hb7⟩ := hcut
                  have hb67 := below_to hbi hb7 hbi.size
                  have hN0 := Lib.hid (hN.out.below hb67)
                  have hZ0 := Lib.hid (HZ.out.below hb67)
                  have hD0 := HSd
                  have hB0 := below_to hb hb67 hb.size
                  have hTz0 := hN0.out.box.lt
                  have hal0 : a0.length = j := by
                    have h1 := congrArg List.length habs.out.1
                    rw [fL_len] at h1
                    simpa [absL] using h1
                  have hal1 : a1.length = j := by
                    have h1 := congrArg List.length habs.out.2.1
                    rw [fL_len] at h1
                    simpa [absL] using h1
                  have hal2 : a2.length = j := by
                    have h1 := congrArg List.length habs.out.2.2
                    rw [fL_len] at h1
                    simpa [absL] using h1
                  clear k0 k1 k2 k3 k4 k5 hb7 hb67 hbi
                  have t0 := hN0.out.box.cell 0 _ rfl
                  have HL0 := Lib.hid hal0
                  clear hal0
                  go_wp2_with (at_builtin; go_loud (refine elF_.app (fun _ => rfl) _ rfl _ _ rfl T _ a0 rfl (Own.alloc (hN0.out.own 0 _ _ rfl rfl) _) _ _ rfl (rd_one fV _ _ _) (by omega) (by have := HL0.out; simp; omega) (by simp; omega) ?_))
                  intro v' w' ho hg hbb hp
                  obtain ⟨E', cE, rfl, -, -⟩ := ho.rd
                  have kk := hN0.out.below (below_alloc w7 (.cells #[fV pw] 39))
                  rw [← size_alloc w7 (.cells #[fV pw] 39)] at hp
                  have hN1 := Lib.hid (kk.app (j := 0) rfl rfl ho hg hp)
                  have hZ1 := Lib.hid (hD0.out.kept (j := 0) (v' := .slice E' (a0 ++ [pw]).length cE) (Own.alloc hZ0.out (.cells #[fV pw] 39)) rfl hg)
                  have hD1 := Lib.hid (hD0.out.app (j := 0) (w := w7.alloc (.cells #[fV pw] 39)) (Own.alloc hZ0.out (.cells #[fV pw] 39)) rfl hp)
                  have kb := kk.box.kept hg (kk.nb 0 _ rfl)
                  have e2 := kb.cell 0 _ rfl
                  have f2 := kb.free 0
                  have hB1 : Below W9.heap.size W9 (w'.setCell ⟨T, 0, none⟩ (.slice E' (a0 ++ [pw]).length cE)) := ((hB0.alloc hB0.size _).trans (hbb.mono hTb)).setCell (p := ⟨T, 0, none⟩) hTb _
                  have hTz1 := hN1.out.box.lt
                  have hNb := Lib.hid hB1
                  simp only [List.set_cons_zero] at hN1 hD1
                  clear hg hp ho kk kb hbb t0 hB0 hN0 hZ0 hD0 hTz0

                  go_upto_region 46 with fail
                  clear e2 f2 hNb
                  simp only [List.length_append, List.length_cons, List.length_nil, Nat.zero_add] at hN1 hZ1 hD1 hB1 hTz1
                  generalize World.setCell w' _ _ = wa1 at *
                  generalize Value.slice E' (a0.length + 1) cE = vv0 at *
                  have t1 := hN1.out.box.cell 1 _ rfl
                  have HL1 := Lib.hid hal1
                  clear hal1
                  go_wp2_with (at_builtin; go_loud (refine elF_.app (fun _ => rfl) _ rfl _ _ rfl T _ a1 rfl (Own.alloc (hN1.out.own 1 _ _ rfl rfl) _) _ _ rfl (rd_one fV _ _ _) (by omega) (by have := HL1.out; simp; omega) (by simp; omega) ?_))
                  intro v' w' ho hg hbb hp
                  obtain ⟨E', cE, rfl, -, -⟩ := ho.rd
                  have kk := hN1.out.below (below_alloc wa1 (.cells #[fV pm] 39))
                  rw [← size_alloc wa1 (.cells #[fV pm] 39)] at hp
                  have hN2 := Lib.hid (kk.app (j := 1) rfl rfl ho hg hp)
                  have hZ2 := Lib.hid (hD1.out.kept (j := 1) (v' := .slice E' (a1 ++ [pm]).length cE) (Own.alloc hZ1.out (.cells #[fV pm] 39)) rfl hg)
                  have hD2 := Lib.hid (hD1.out.app (j := 1) (w := wa1.alloc (.cells #[fV pm] 39)) (Own.alloc hZ1.out (.cells #[fV pm] 39)) rfl hp)
                  have kb := kk.box.kept hg (kk.nb 1 _ rfl)
                  have e2 := kb.cell 1 _ rfl
                  have f2 := kb.free 1
                  have hB2 : Below W9.heap.size W9 (w'.setCell ⟨T, 1, none⟩ (.slice E' (a1 ++ [pm]).length cE)) := ((hB1.alloc hB1.size _).trans (hbb.mono hTb)).setCell (p := ⟨T, 1, none⟩) hTb _
                  have hTz2 := hN2.out.box.lt
                  have hNb := Lib.hid hB2
                  simp only [List.set_cons_zero, List.set_cons_succ] at hN2 hD2
                  clear hg hp ho kk kb hbb t1 hB1 hN1 hZ1 hD1 hTz1

                  go_upto_region 47 with fail
                  clear e2 f2 hNb
                  simp only [List.length_append, List.length_cons, List.length_nil, Nat.zero_add] at hN2 hZ2 hD2 hB2 hTz2
                  generalize World.setCell w' _ _ = wa2 at *
                  generalize Value.slice E' (a1.length + 1) cE = vv1 at *
                  have t2 := hN2.out.box.cell 2 _ rfl
                  have HL2 := Lib.hid hal2
                  clear hal2
                  go_wp2_with (at_builtin; go_loud (refine elF_.app (fun _ => rfl) _ rfl _ _ rfl T _ a2 rfl (Own.alloc (hN2.out.own 2 _ _ rfl rfl) _) _ _ rfl (rd_one fV _ _ _) (by omega) (by have := HL2.out; simp; omega) (by simp; omega) ?_))
                  intro v' w' ho hg hbb hp
                  obtain ⟨E', cE, rfl, -, -⟩ := ho.rd
                  have kk := hN2.out.below (below_alloc wa2 (.cells #[fV ps] 39))
                  rw [← size_alloc wa2 (.cells #[fV ps] 39)] at hp
                  have hN3 := Lib.hid (kk.app (j := 2) rfl rfl ho hg hp)
                  have hZ3 := Lib.hid (hD2.out.kept (j := 2) (v' := .slice E' (a2 ++ [ps]).length cE) (Own.alloc hZ2.out (.cells #[fV ps] 39)) rfl hg)
                  have hD3 := Lib.hid (hD2.out.app (j := 2) (w := wa2.alloc (.cells #[fV ps] 39)) (Own.alloc hZ2.out (.cells #[fV ps] 39)) rfl hp)
                  have kb := kk.box.kept hg (kk.nb 2 _ rfl)
                  have e2 := kb.cell 2 _ rfl
                  have f2 := kb.free 2
                  have hB3 : Below W9.heap.size W9 (w'.setCell ⟨T, 2, none⟩ (.slice E' (a2 ++ [ps]).length cE)) := ((hB2.alloc hB2.size _).trans (hbb.mono hTb)).setCell (p := ⟨T, 2, none⟩) hTb _
                  have hTz3 := hN3.out.box.lt
                  have hNb := Lib.hid hB3
                  simp only [List.set_cons_zero, List.set_cons_succ] at hN3 hD3
                  clear hg hp ho kk kb hbb t2 hB2 hN2 hZ2 hD2 hTz2

                  simp only [List.length_append, List.length_cons, List.length_nil, Nat.zero_add] at *
                  go_wp2
                  go_roundw
                  case rel =>
                    refine ⟨j + 1, _, _, _, _, _, _, by omega, by go_num, hN3.out, ⟨?_, ?_, ?_⟩, hZ3.out, hD3.out, hNb.out⟩
                    · rw [absL_append', habs.out.1, fL_succ, ← hpw.out]; rfl
                    · rw [absL_append', habs.out.2.1, fL_succ, ← hpm.out]; rfl
                    · rw [absL_append', habs.out.2.2, fL_succ, ← hps.out]; rfl
                  case measure => simp [intOf]; omega
            · have hje : j = y0.length := by omega
              subst hje
              have h0' : absL a0 = fVs y0 y1 y2 xs := habs.out.1
              have h1' : absL a1 = fMs y0 y1 y2 xs := habs.out.2.1
              have h2' : absL a2 = fSs y0 y1 y2 xs := habs.out.2.2
              have HA := Lib.hid (And.intro h0' (And.intro h1' h2'))
              have hmm : mixAB (fVs y0 y1 y2 xs) (fMs y0 y1 y2 xs) (fSs y0 y1 y2 xs) = mixB a0 a1 a2 := by rw [mixB_abs, h0', h1', h2']
              have hok : fOk y0 y1 y2 xs = mixB a0 a1 a2 := by unfold fOk; rw [HUP.out, hmm]; rfl
              have HOK := Lib.hid hok
              have HMM := Lib.hid hmm
              have hal0 : a0.length ≤ 8 := by have := congrArg List.length h0'; unfold fVs at this; rw [fL_len] at this; simp [absL] at this; omega
              have hal1 : a1.length ≤ 8 := by have := congrArg List.length h1'; unfold fMs at this; rw [fL_len] at this; simp [absL] at this; omega
              have hal2 : a2.length ≤ 8 := by have := congrArg List.length h2'; unfold fSs at this; rw [fL_len] at this; simp [absL] at this; omega
              have hal := Lib.hid (And.intro hal0 (And.intro hal1 hal2))
              clear h0' h1' h2' hmm hok habs hj hlj HZ HSd hal0 hal1 hal2
              obtain ⟨F0, p0, rfl, -, -⟩ := (hN.out.own 0 _ _ rfl rfl).rd
              obtain ⟨F1, p1, rfl, -, -⟩ := (hN.out.own 1 _ _ rfl rfl).rd
              obtain ⟨F2, p2, rfl, -, -⟩ := (hN.out.own 2 _ _ rfl rfl).rd
              have hTz := hN.out.box.lt
              have hC9 := hC.out.below hb
              have t0 := hN.out.box.cell 0 _ rfl
              have t1 := hN.out.box.cell 1 _ rfl
              have t2 := hN.out.box.cell 2 _ rfl
              have s0 := hC9.box.cell 0 _ rfl
              have s1 := hC9.box.cell 1 _ rfl
              have s2 := hC9.box.cell 2 _ rfl
              have s3 := hC9.box.free 0
              have s4 := hC9.box.free 1
              have s5 := hC9.box.free 2
              have hCn : Cols (((wr.setCell ⟨S, 0, none⟩ (.slice F0 a0.length p0)).setCell ⟨S, 1, none⟩ (.slice F1 a1.length p1)).setCell ⟨S, 2, none⟩ (.slice F2 a2.length p2)) T S [.slice F0 a0.length p0, .slice F1 a1.length p1, .slice F2 a2.length p2] [a0, a1, a2] :=
                cols3_set hC9.box (hN.out.own 0 _ _ rfl rfl) (hN.out.own 1 _ _ rfl rfl) (hN.out.own 2 _ _ rfl rfl)
                  (fun e => by have := ((hN.out.own 0 _ _ rfl rfl).lt _ e).1; omega) (fun e => by have := ((hN.out.own 1 _ _ rfl rfl).lt _ e).1; omega) (fun e => by have := ((hN.out.own 2 _ _ rfl rfl).lt _ e).1; omega)
                  (hN.out.ap 0 1 _ _ (by decide) rfl rfl) (hN.out.ap 0 2 _ _ (by decide) rfl rfl) (hN.out.ap 1 2 _ _ (by decide) rfl rfl)
              have HCN := Lib.hid hCn
              have hB1n : BoxAt (((wr.setCell ⟨S, 0, none⟩ (.slice F0 a0.length p0)).setCell ⟨S, 1, none⟩ (.slice F1 a1.length p1)).setCell ⟨S, 2, none⟩ (.slice F2 a2.length p2)) (w.heap.size + 1) [.slice none 0 0, .slice none 0 0, .slice none 0 0] :=
                (((HB1.out.below hb).other (p := ⟨S, 0, none⟩) (by show S ≠ _; omega) _).other (p := ⟨S, 1, none⟩) (by show S ≠ _; omega) _).other (p := ⟨S, 2, none⟩) (by show S ≠ _; omega) _
              have hTw := below_to HT0.out hb HT0.out.size
              have hTn : Below w.heap.size w (((wr.setCell ⟨S, 0, none⟩ (.slice F0 a0.length p0)).setCell ⟨S, 1, none⟩ (.slice F1 a1.length p1)).setCell ⟨S, 2, none⟩ (.slice F2 a2.length p2)) := ((hTw.setCell (p := ⟨S, 0, none⟩) (by show _ ≤ S; omega) _).setCell (p := ⟨S, 1, none⟩) (by show _ ≤ S; omega) _).setCell (p := ⟨S, 2, none⟩) (by show _ ≤ S; omega) _
              have HB1n := Lib.hid hB1n
              have HTn := Lib.hid hTn
              clear hC9 hCn hB1n hTw hTn hb hN
              go_upto_region 49 with fail
              clear t0 t1 t2 s0 s1 s2 s3 s4 s5
              generalize World.setCell (World.setCell (World.setCell wr _ _) _ _) _ _ = w6 at *
              go_wp2_with fail
              refine (l05Mixture_any _ _ _ _ a0 a1 a2 (by have := hal.out.1; omega) (by have := hal.out.2.1; omega) (by have := hal.out.2.2; omega) _ HCN.out.box (HCN.out.own 0 _ _ rfl rfl).rd (HCN.out.own 1 _ _ rfl rfl).rd (HCN.out.own 2 _ _ rfl rfl).rd).mono ?_
              rintro e w7 ⟨rfl, hb7⟩
              have HC7 := Lib.hid (HCN.out.below hb7)
              have B17 := HB1n.out.below hb7
              have hT7 := below_to HTn.out hb7 HTn.out.size
              clear hb7
              cases hok : mixB a0 a1 a2
              · have Ho : Hid (fitOk x0 x1 x2 xs (R : Int) = false) := Lib.hid (fit_f4 (by rw [Int.toNat_natCast, ← hft.out, fitN_no (by rw [HOK.out]; exact hok)]))
                clear hok
                have d0 := B17.cell 0 _ rfl
                have d1 := B17.cell 1 _ rfl
                have d2 := B17.cell 2 _ rfl
                have f0 := B17.free 0
                have f1 := B17.free 1
                have f2 := B17.free 2
                have HT := Lib.hid hT7
                clear hT7 B17
                go_wp2
                refine bodyPost_ret (v := .tuple #[mxV (.slice none 0 0) (.slice none 0 0) (.slice none 0 0), .bool false]) (by simp [results, Try.results6, go_sem, *]) rfl ?_
                exact ret_fit_no Ho.out (((HT.out.setCell (by simp) _).setCell (by simp) _).setCell (by simp) _)
              · have HOK2 := Lib.hid hok
                have HK2 : Hid (Value.int .i64 ((k : Int) - 1) = .int .i64 ((k1 : Nat) : Int)) := by unfold Hid; rw [HK1.out]; congr 1; omega
                have HKL : Hid (k1 ≤ R ∧ k1 < k) := by unfold Hid; have := HK1.out; omega
                clear hok
                go_wp2
                go_roundw
                case rel =>
                  obtain ⟨h0', h1', h2'⟩ := HA.out
                  obtain ⟨e0, e1, e2, hm⟩ := fOk_words (by rw [HMM.out]; exact HOK2.out) h0' h1' h2'
                  refine ⟨k1, _, _, _, a0, a1, a2, HKL.out.1, HK2.out, (HC7.out.base_ (by omega)), hm, ?_, B17, hT7⟩
                  unfold Hid
                  rw [← hft.out, fitN_yes (by rw [HOK.out]; exact hm), ← e0, ← e1, ← e2]
                case measure => simp [intOf]; omega
    · have hie : k = 0 := by omega
      subst hie
      have HOK := Lib.hid (fit_t HMX.out HSX.out HIN.out (show fitN xs ((R : Nat) : Int).toNat x0 x1 x2 = some (y0, y1, y2) by rw [Int.toNat_natCast, ← hft.out]; rfl))
      have d0 := B1.cell 0 _ rfl
      have d1 := B1.cell 1 _ rfl
      have d2 := B1.cell 2 _ rfl
      have f0 := B1.free 0
      have f1 := B1.free 1
      have f2 := B1.free 2
      have HT := Lib.hid hT
      have HL := Lib.hid (mixB_len hmx.out)
      clear hT B1
      go_wp2
      refine bodyPost_ret (v := .tuple #[mxV (.slice E0 y0.length q0) (.slice E1 y1.length q1) (.slice E2 y2.length q2), .bool true]) (by simp [results, Try.results6, go_sem, *]) rfl ?_
      unfold RetFitMixture
      rw [HOK.out.1, HOK.out.2]
      have o0 := hC.out.own 0 _ _ rfl rfl
      have o1 := hC.out.own 1 _ _ rfl rfl
      have o2 := hC.out.own 2 _ _ rfl rfl
      have n0 : (Value.slice E0 y0.length q0).ownBlock ≠ some (w.heap.size + 1) := fun e => by have := (o0.lt _ e).1; omega
      have n1 : (Value.slice E1 y1.length q1).ownBlock ≠ some (w.heap.size + 1) := fun e => by have := (o1.lt _ e).1; omega
      have n2 : (Value.slice E2 y2.length q2).ownBlock ≠ some (w.heap.size + 1) := fun e => by have := (o2.lt _ e).1; omega
      obtain ⟨⟨_, l0⟩, l1, l2⟩ := HL.out
      exact ⟨_, y0, _, y1, _, y2, rfl, (Own.other (Own.other (Own.other o0 (p := ⟨w.heap.size + 1, 0, none⟩) n0 _) (p := ⟨w.heap.size + 1, 1, none⟩) n0 _) (p := ⟨w.heap.size + 1, 2, none⟩) n0 _).base_ (by omega), (Own.other (Own.other (Own.other o1 (p := ⟨w.heap.size + 1, 0, none⟩) n1 _) (p := ⟨w.heap.size + 1, 1, none⟩) n1 _) (p := ⟨w.heap.size + 1, 2, none⟩) n1 _).base_ (by omega), (Own.other (Own.other (Own.other o2 (p := ⟨w.heap.size + 1, 0, none⟩) n2 _) (p := ⟨w.heap.size + 1, 1, none⟩) n2 _) (p := ⟨w.heap.size + 1, 2, none⟩) n2 _).base_ (by omega),
        hC.out.ap 0 1 _ _ (by decide) rfl rfl, hC.out.ap 0 2 _ _ (by decide) rfl rfl, hC.out.ap 1 2 _ _ (by decide) rfl rfl, by omega, by omega, by omega, rfl, rfl, rfl, ((HT.out.setCell (by simp) _).setCell (by simp) _).setCell (by simp) _⟩
end Go.Proofs.Ytimpabceellihaa
