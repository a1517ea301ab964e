/-
  GivenAbove, walked in the program and in the reference.
-/
import Derived.Test.YtchcgapgpflknaaClone
import Derived.Deep.RegionHeld3
import Derived.Deep.RegionLaw
namespace Go.Proofs.Ytchcgapgpflknaa
open Go.RowKit
attribute [local go_sem] run_fl_add run_fl_sub run_fl_mul run_fl_quo run_up_ run_store_float

section
variable (x0 x1 : List Nat) (x : Nat)
def givS : Option Nat := sumF (absL (x1.drop (cutK x x0)))
def givQ : List (Option Nat) := qTo (givS x0 x1 x) (absL (x1.drop (cutK x x0))) (x1.length - cutK x x0)
def givOk : Bool := (shareB x0 x1 && finB x) && ((ordF .f32 (givS x0 x1 x) (some 0) == some .gt) && shareAB (x0.drop (cutK x x0)) (givQ x0 x1 x))
def RetGivenAbove (w : World) (e : Ending) (w' : World) : Prop := RetSh (givOk x0 x1 x) (absL (x0.drop (cutK x x0))) (givQ x0 x1 x) w e w'
end
variable {x0 x1 : List Nat} {x : Nat}
theorem giv_f1 (h : shareB x0 x1 = false) : givOk x0 x1 x = false := by unfold givOk; rw [h]; rfl
theorem giv_f2 (h : finB x = false) : givOk x0 x1 x = false := by unfold givOk; rw [h]; simp
theorem giv_f3 {b : Nat} (hb : absF .f32 b = givS x0 x1 x) (h : (FloatKind.f32.format.order b 0 == some .gt) = false) : givOk x0 x1 x = false := by
  have h0 : absF .f32 0 = some 0 := abs_zero
  rw [ord_abs .f32, hb, h0] at h
  unfold givOk
  rw [h]; simp
theorem giv_t {b : Nat} {zs : List Nat} (h1 : shareB x0 x1 = true) (h2 : finB x = true) (hb : absF .f32 b = givS x0 x1 x) (h : (FloatKind.f32.format.order b 0 == some .gt) = true) (hz : absL zs = givQ x0 x1 x) : shareB (x0.drop (cutK x x0)) zs = givOk x0 x1 x := by
  have h0 : absF .f32 0 = some 0 := abs_zero
  rw [ord_abs .f32, hb, h0] at h
  unfold givOk
  rw [h1, h2, h, shareB_abs, hz]; rfl
theorem shareB_rise {v c : List Nat} (h : shareB v c = true) : v.all finB = true ∧ riseTo v v.length = true := by
  unfold shareB at h
  simp only [Bool.and_eq_true] at h
  exact ⟨h.1.1.2, h.1.2⟩

theorem Rd.drew1 {α : Type} {f : α → Value} {w : World} {v : Value} {xs : List α} (h : Rd f w v xs) : Rd f w.drew v xs := h
theorem Own.drew1 {α : Type} {f : α → Value} {E : TypeId} {w : World} {b : Nat} {v : Value} {xs : List α} (h : Own f E w b v xs) : Own f E w.drew b v xs := h

theorem grow_step0 {wr w' : World} {S v : Nat} {v0 v1 v' : Value} {xs ys : List Nat} {o : Obj} (hG : Grow wr (S + 1) S v0 v1 xs ys) (ho : Own fV 23 w' (S + 1) v' (xs ++ [v])) (hg : (wr.alloc o).drew.grownBy w' v0.ownBlock)
    (hbb : Below (S + 1) (wr.alloc o).drew w') (hp : v'.ownBlock = v0.ownBlock ∨ v'.ownBlock = some (wr.alloc o).drew.heap.size) :
    Grow (w'.setCell ⟨S, 0, none⟩ v') (S + 1) S v' v1 (xs ++ [v]) ys ∧ Below S wr (w'.setCell ⟨S, 0, none⟩ v') := by
  have hS := hG.box.lt
  refine ⟨((hG.alloc o).below (Below.refl _ _).drew).app0 ho hg hp, ?_⟩
  exact ((((Below.refl S wr).alloc (by omega) o).drew).trans (hbb.mono (by omega))).setCell (p := ⟨S, 0, none⟩) (Nat.le_refl _) _
theorem grow_step1 {wr w' : World} {S v : Nat} {v0 v1 v' : Value} {xs ys : List Nat} {o : Obj} (hG : Grow wr (S + 1) S v0 v1 xs ys) (ho : Own fV 23 w' (S + 1) v' (ys ++ [v])) (hg : (wr.alloc o).drew.grownBy w' v1.ownBlock)
    (hbb : Below (S + 1) (wr.alloc o).drew w') (hp : v'.ownBlock = v1.ownBlock ∨ v'.ownBlock = some (wr.alloc o).drew.heap.size) :
    Grow (w'.setCell ⟨S, 1, none⟩ v') (S + 1) S v0 v' xs (ys ++ [v]) ∧ Below S wr (w'.setCell ⟨S, 1, none⟩ v') := by
  have hS := hG.box.lt
  refine ⟨((hG.alloc o).below (Below.refl _ _).drew).app1 ho hg hp, ?_⟩
  exact ((((Below.refl S wr).alloc (by omega) o).drew).trans (hbb.mono (by omega))).setCell (p := ⟨S, 1, none⟩) (Nat.le_refl _) _

set_option maxHeartbeats 3200000 in
theorem specGivenAbove_any (s0 : Value) (x0 : List Nat) (s1 : Value) (x1 : List Nat) (hn0 : x0.length ≤ 1099511627776) (hn1 : x1.length ≤ 1099511627776) (x : Nat) (w : World) (hr0 : Rd fV w s0 x0) (hr1 : Rd fV w s1 x1) :
    Calls Try.prog 48 #[shV s0 s1, fV x] w (RetGivenAbove x0 x1 x w) := by
  have HR0 := Lib.hid hr0
  obtain ⟨A0, cap0, rfl, hcap0, hA0⟩ := hr0
  have HA0 := Lib.hid hA0
  clear hA0
  have HR1 := Lib.hid hr1
  obtain ⟨A1, cap1, rfl, hcap1, hA1⟩ := hr1
  have HA1 := Lib.hid hA1
  clear hA1
  go_enter Try.func48, Try.ntmps48
  go_wp2_with fail
  have B0 : BoxAt ((w.alloc (.cells ([.slice A0 x0.length cap0, .slice A1 x1.length cap1] : List Value).toArray 57)).alloc (.cells ([.slice none 0 0, .slice none 0 0] : List Value).toArray 57)) w.heap.size [.slice A0 x0.length cap0, .slice A1 x1.length cap1] := (BoxAt.new w _ _).alloc _
  have B1 : BoxAt ((w.alloc (.cells ([.slice A0 x0.length cap0, .slice A1 x1.length cap1] : List Value).toArray 57)).alloc (.cells ([.slice none 0 0, .slice none 0 0] : List Value).toArray 57)) (w.heap.size + 1) [.slice none 0 0, .slice none 0 0] := by
    have := BoxAt.new (w.alloc (.cells ([.slice A0 x0.length cap0, .slice A1 x1.length cap1] : List Value).toArray 57)) [.slice none 0 0, .slice none 0 0] 57
    rwa [size_alloc] at this
  have hT : Below w.heap.size w ((w.alloc (.cells ([.slice A0 x0.length cap0, .slice A1 x1.length cap1] : List Value).toArray 57)).alloc (.cells ([.slice none 0 0, .slice none 0 0] : List Value).toArray 57)) := ((Below.refl _ _).alloc (Nat.le_refl _) _).alloc (by simp) _
  generalize hg : (w.alloc _).alloc _ = W0 at *
  clear hg
  refine (l05Is_any _ _ _ x0 x1 hn0 hn1 _ B0 (HR0.out.below hT) (HR1.out.below hT)).mono ?_
  rintro e w1 ⟨rfl, hb⟩
  replace B0 := B0.below hb
  replace B1 := B1.below hb
  replace hT := below_to hT hb hT.size
  clear hb
  cases hs : shareB x0 x1
  · have Ho := Lib.hid (giv_f1 (x := x) hs)
    have Hs := Lib.hid hs
    clear hs
    have d0 := B1.cell 0 _ rfl
    have d1 := B1.cell 1 _ rfl
    have f0 := B1.free 0
    have f1 := B1.free 1
    have HT := Lib.hid hT
    clear hT
    go_wp2
    refine bodyPost_ret (v := .tuple #[shV (.slice none 0 0) (.slice none 0 0), .bool false]) (by simp [results, Try.results48, go_sem, *]) rfl ?_
    unfold RetGivenAbove
    rw [Ho.out]
    exact RetSh.none ((HT.out.setCell (by simp) _).setCell (by simp) _)
  have hl := shareB_len hs
  have hrise := shareB_rise hs
  have Hs := Lib.hid hs
  clear hs
  go_wp2_with fail
  refine (l01Finite_any _ _).mono ?_
  rintro e w2 ⟨rfl, hd⟩
  have hb := below_of_drew hd
  clear hd
  replace B0 := B0.below hb
  replace B1 := B1.below hb
  replace hT := below_to hT hb hT.size
  clear hb
  cases hf : finB x
  · have Ho := Lib.hid (giv_f2 (x0 := x0) (x1 := x1) hf)
    have Hf := Lib.hid hf
    clear hf
    have d0 := B1.cell 0 _ rfl
    have d1 := B1.cell 1 _ rfl
    have f0 := B1.free 0
    have f1 := B1.free 1
    have HT := Lib.hid hT
    clear hT
    go_wp2
    refine bodyPost_ret (v := .tuple #[shV (.slice none 0 0) (.slice none 0 0), .bool false]) (by simp [results, Try.results48, go_sem, *]) rfl ?_
    unfold RetGivenAbove
    rw [Ho.out]
    exact RetSh.none ((HT.out.setCell (by simp) _).setCell (by simp) _)
  have HGT : Hid (∀ (k v : Nat), x0[k]? = some v → gtX x v = decide (cutK x x0 ≤ k)) := fun k v hv => gt_cut hrise.2 hrise.1 hf hv
  have hlen : x1.length = x0.length := hl.2
  have h64 : x0.length ≤ 64 := hl.1.2
  have HLEN := Lib.hid hlen
  have Hf := Lib.hid hf
  clear hf
  clear hl hrise hlen
  have G0 : Grow (w2.alloc (.cells #[.slice none 0 0, .slice none 0 0] 57)) (w2.heap.size + 1) w2.heap.size (.slice none 0 0) (.slice none 0 0) [] [] :=
    ⟨BoxAt.new w2 [.slice none 0 0, .slice none 0 0] 57, Own.nil, Own.nil, by simp [Value.ownBlock], by simp [Value.ownBlock], .inl rfl⟩
  have hz := B1.lt
  have hT3 := hT.alloc hT.size (.cells #[.slice none 0 0, .slice none 0 0] 57)
  replace B0 := B0.alloc (.cells #[.slice none 0 0, .slice none 0 0] 57)
  replace B1 := B1.alloc (.cells #[.slice none 0 0, .slice none 0 0] 57)
  have hz3 := size_alloc w2 (.cells #[.slice none 0 0, .slice none 0 0] 57)
  have c0 := B0.cell 0 _ rfl
  have c1 := B0.cell 1 _ rfl
  go_wp2
  obtain ⟨S, hS⟩ : ∃ S, S = w2.heap.size := ⟨_, rfl⟩
  obtain ⟨W3, hW3⟩ : ∃ W3, W3 = w2.alloc (.cells #[.slice none 0 0, .slice none 0 0] 57) := ⟨_, rfl⟩
  rw [← hW3] at G0 B0 B1 hT3 hz3 ⊢
  rw [← hS] at G0 hz hz3 ⊢
  clear hS hW3 hT c0 c1
  go_loopw [7, 22] (fun ss si wr => ∃ (k b : Nat) (v0 v1 : Value), k ≤ x0.length ∧ si = .int .i64 k ∧ ss = fV b ∧ Grow wr (S + 1) S v0 v1 ((x0.take k).drop (cutK x x0)) ((x1.take k).drop (cutK x x0)) ∧ Hid (absF .f32 b = sumF (absL ((x1.take k).drop (cutK x x0)))) ∧ Below S W3 wr) (fun _ si _ => x0.length - (intOf si).toNat)
  case atStart => exact ⟨0, 0, _, _, by omega, rfl, rfl, by simpa using G0, by unfold Hid; simpa [sumF, absL] using abs_zero, Below.refl _ _⟩
  case round =>
    obtain ⟨k, b, v0, v1, hk, rfl, rfl, hG, hs, hb⟩ := hrel
    have hB0 := B0.below' hb (by omega) (by omega)
    have hB1 := B1.below' hb (by omega) (by omega)
    have hT : Below w.heap.size w wr := hT3.trans (hb.mono (by omega))
    have hsz := hb.size
    by_cases hlt : k < x0.length
    · obtain ⟨v, hv⟩ := get_of_lt hlt
      obtain ⟨c, hc⟩ := get_of_lt (xs := x1) (k := k) (by rw [HLEN.out]; exact hlt)
      obtain ⟨ad0, rfl, hbl0, hcell0⟩ := HA0.out k v hv
      obtain ⟨ad1, rfl, hbl1, hcell1⟩ := HA1.out k c hc
      have e0 : wr.cell? (ad0.add k) = some (fV v) := by rw [hT.cell (by rw [add_block]; exact hbl0)]; exact hcell0
      have e1 : wr.cell? (ad1.add k) = some (fV c) := by rw [hT.cell (by rw [add_block]; exact hbl1)]; exact hcell1
      have HK0 := Lib.hid (cut_keep (c := cutK x x0) hv)
      have HK1 := Lib.hid (cut_keep (c := cutK x x0) hc)
      have hgt := HGT.out k v hv
      have hk0 : (0 : Int) ≤ (k : Int) := by omega
      have hk1 : (k : Int) < (x0.length : Int) := by omega
      have hk2 : (k : Int) < (x1.length : Int) := by rw [HLEN.out]; omega
      have HC1 := Lib.hid hcell1
      have hkl : k ≤ x1.length := by rw [HLEN.out]; omega
      have hL0 : ((x0.take k).drop (cutK x x0)).length = k - cutK x x0 := by simp; omega
      have hL1 : ((x1.take k).drop (cutK x x0)).length = k - cutK x x0 := by have := HLEN.out; simp; omega
      have HL0 := Lib.hid hL0
      have HL1 := Lib.hid hL1
      clear hv hc hcell0 hcell1 hL0 hL1
      by_cases hcut : cutK x x0 ≤ k
      · rw [decide_eq_true hcut] at hgt
        have hgt' : (FloatKind.f32.format.order v x == some .gt) = true := hgt
        rw [if_pos hcut] at HK0 HK1
        clear hgt
        have c0 := hB0.cell 0 _ rfl
        have c1 := hB0.cell 1 _ rfl
        have d0 := hG.box.cell 0 _ rfl
        have d1 := hG.box.cell 1 _ rfl
        have hl0 : ((x0.take k).drop (cutK x x0)).length ≤ 64 := by simp; omega
        have hl1 : ((x1.take k).drop (cutK x x0)).length ≤ 64 := by simp; omega
        have f0 := hG.box.free 0
        have f1 := (hG.box.alloc (.cells #[fV v] 23)).free 0
        have g0 := (hG.box.alloc (.cells #[fV v] 23)).cell 0 _ rfl
        have hGH := Lib.hid hG
        clear hG
        go_wp2
        go_region_law ((go_loud (refine elF_.app_step (fun _ => rfl) _ (by rfl) _ _ (by rfl) (S + 1) _ ((x0.take k).drop (cutK x x0)) (by rfl) (Own.drew1 (hGH.out.alloc _).o0) _ [v] (by rfl) (Rd.drew1 (rd_one fV _ _ _)) (by omega) (by simp; omega) (by simp; omega) ?_); intro v' w' ho hg hbb hp; have f2 := (World.frozen?_of_block (hbb.block S (by omega))).trans f1; have e2 := ((hbb.cell (p := ⟨S, 0, none⟩) (by dsimp only; omega)).trans (hGH.out.box.alloc _ |>.cell 0 _ rfl)); obtain ⟨g0', c0', rfl, -, -, -⟩ := ho.form (by simp)))
        all_goals
          obtain ⟨hG2, hb2⟩ := grow_step0 hGH.out ho hg hbb hp
          rw [List.length_append, HL0.out] at hG2 hb2
          have hb2' : Below S wr (w'.setCell ⟨S, 0, none⟩ (.slice (some ⟨g0', 0, none⟩) (k - cutK x x0 + 1) c0')) := hb2
          have hG2' : Grow (w'.setCell ⟨S, 0, none⟩ (.slice (some ⟨g0', 0, none⟩) (k - cutK x x0 + 1) c0')) (S + 1) S (.slice (some ⟨g0', 0, none⟩) (k - cutK x x0 + 1) c0') v1 _ _ := hG2
          generalize w'.setCell ⟨S, 0, none⟩ (.slice (some ⟨g0', 0, none⟩) (k - cutK x x0 + 1) c0') = W1 at hb2' hG2' ⊢
          clear hG2 hb2 ho hg hbb hp f2 e2 f0 f1 g0 hGH d0 d1 c0 c1 e0
          have hB0' := hB0.below' hb2' (by omega) (by omega)
          have e1' : W1.cell? (ad1.add k) = some (fV c) := by rw [hb2'.cell (by rw [add_block]; omega)]; exact e1
          have c0 := hB0'.cell 0 _ rfl
          have c1 := hB0'.cell 1 _ rfl
          have d1 := hG2'.box.cell 1 _ rfl
          have f1 := (hG2'.box.alloc (.cells #[fV c] 23)).free 1
          have g1 := (hG2'.box.alloc (.cells #[fV c] 23)).cell 1 _ rfl
          have hGH := Lib.hid hG2'
          have hz1 := hb2'.size
          clear hG2' e1
          go_wp2
          go_region_law ((go_loud (refine elF_.app_step (fun _ => rfl) _ (by rfl) _ _ (by rfl) (S + 1) _ ((x1.take k).drop (cutK x x0)) (by rfl) (Own.drew1 (hGH.out.alloc _).o1) _ [c] (by rfl) (Rd.drew1 (rd_one fV _ _ _)) (by omega) (by simp; omega) (by simp; omega) ?_); intro v' w' ho hg hbb hp; have f2 := (World.frozen?_of_block (hbb.block S (by omega))).trans f1; have e2 := ((hbb.cell (p := ⟨S, 1, none⟩) (by dsimp only; omega)).trans (hGH.out.box.alloc _ |>.cell 1 _ rfl)); obtain ⟨g1', c1', rfl, -, -, -⟩ := ho.form (by simp)))
          all_goals
            obtain ⟨hG3, hb3⟩ := grow_step1 hGH.out ho hg hbb hp
            rw [List.length_append, HL1.out] at hG3 hb3
            have hb3' : Below S W1 (w'.setCell ⟨S, 1, none⟩ (.slice (some ⟨g1', 0, none⟩) (k - cutK x x0 + 1) c1')) := hb3
            have hG3' : Grow (w'.setCell ⟨S, 1, none⟩ (.slice (some ⟨g1', 0, none⟩) (k - cutK x x0 + 1) c1')) (S + 1) S _ (.slice (some ⟨g1', 0, none⟩) (k - cutK x x0 + 1) c1') _ _ := hG3
            generalize w'.setCell ⟨S, 1, none⟩ (.slice (some ⟨g1', 0, none⟩) (k - cutK x x0 + 1) c1') = W2 at hb3' hG3' ⊢
            clear hG3 hb3 ho hg hbb hp f2 e2 f1 g1 hGH d1 c0 c1
            have hB0'' := hB0'.below' hb3' (by omega) (by omega)
            have e1'' : W2.cell? (ad1.add k) = some (fV c) := by rw [hb3'.cell (by rw [add_block]; omega)]; exact e1'
            have c0 := hB0''.cell 0 _ rfl
            have c1 := hB0''.cell 1 _ rfl
            have HGG := Lib.hid hG3'
            have HBB := Lib.hid (hb.trans (hb2'.trans hb3'))
            clear hG3' e1' hb2' hb3'
            go_wp2
            go_roundw
            case rel => exact ⟨k + 1, _, _, _, by omega, by go_num, rfl, by rw [HK0.out, HK1.out]; exact HGG.out.below (below_drewN_ (Below.refl _ _)), by unfold Hid; rw [HK1.out, abs_flR .add rfl, hs.out, ← sumF_snoc]; simp [absL], below_drewN_ HBB.out⟩
            case measure => simp [intOf]; omega
      · rw [decide_eq_false hcut] at hgt
        have hgt' : (FloatKind.f32.format.order v x == some .gt) = false := hgt
        rw [if_neg hcut] at HK0 HK1
        clear hgt
        have c0 := hB0.cell 0 _ rfl
        have c1 := hB0.cell 1 _ rfl
        go_wp2
        go_roundw
        case rel => exact ⟨k + 1, b, v0, v1, by omega, by go_num, rfl, by rw [HK0.out, HK1.out]; exact hG, by unfold Hid; rw [HK1.out]; exact hs.out, hb⟩
        case measure => simp [intOf]; omega
    · have hke : k = x0.length := by omega
      subst hke
      rw [List.take_length] at hG
      rw [show (x1.take x0.length).drop (cutK x x0) = x1.drop (cutK x x0) by rw [← HLEN.out, List.take_length]] at hG hs
      have hsS : absF .f32 b = givS x0 x1 x := hs.out
      cases hg : (FloatKind.f32.format.order b 0 == some .gt)
      · have Ho := Lib.hid (giv_f3 hsS hg)
        have d0 := hB1.cell 0 _ rfl
        have d1 := hB1.cell 1 _ rfl
        have f0 := hB1.free 0
        have f1 := hB1.free 1
        have HT := Lib.hid hT
        clear hT hG
        go_wp2
        refine bodyPost_ret (v := .tuple #[shV (.slice none 0 0) (.slice none 0 0), .bool false]) (by simp [results, Try.results48, go_sem, *]) rfl ?_
        unfold RetGivenAbove
        rw [Ho.out]
        exact RetSh.none ((HT.out.setCell (by simp) _).setCell (by simp) _)
      have hn1' : cutK x x0 < x1.length := by
        refine Nat.lt_of_not_le fun hle => ?_
        have h0 : absF .f32 b = some 0 := by rw [hs.out, List.drop_eq_nil_of_le hle]; rfl
        obtain ⟨rfl, -⟩ := absF_some h0
        revert hg
        decide
      have HSS := Lib.hid hsS
      have HGB := Lib.hid hg
      obtain ⟨n, hn⟩ : ∃ n, n = x1.length - cutK x x0 := ⟨_, rfl⟩
      have hnL : n ≤ 64 := by have := HLEN.out; omega
      have hl0 : (x0.drop (cutK x x0)).length = n := by have := HLEN.out; simp; omega
      have hl1 : (x1.drop (cutK x x0)).length = n := by simp; omega
      obtain ⟨g0, c0, rfl, _, _, _⟩ := hG.o0.form (by omega)
      obtain ⟨g1, c1, rfl, _, _, _⟩ := hG.o1.form (by omega)
      rw [hl0, hl1] at hG
      have HL0 := Lib.hid hl0
      have HL1 := Lib.hid hl1
      have HN := Lib.hid hn
      have d1 := hG.box.cell 1 _ rfl
      have hGH := Lib.hid hG
      have hn0' : 1 ≤ n := by omega
      clear hG hl0 hl1 hn hsS
      go_wp2
      go_loopw [67] (fun si wr' => ∃ (j : Nat) (zs : List Nat), j ≤ n ∧ si = .int .i64 j ∧ Hid (zs.length = n) ∧ Grow wr' (S + 1) S (.slice (some ⟨g0, 0, none⟩) n c0) (.slice (some ⟨g1, 0, none⟩) n c1) (x0.drop (cutK x x0)) zs ∧ Hid (absL zs = qTo (givS x0 x1 x) (absL (x1.drop (cutK x x0))) j) ∧ BoxAt wr' (w.heap.size + 1) [.slice none 0 0, .slice none 0 0] ∧ Below w.heap.size w wr') (fun si _ => n - (intOf si).toNat)
      case atStart => exact ⟨0, _, by omega, rfl, HL1, hGH.out, by unfold Hid; rw [qTo_zero], hB1, hT⟩
      case round =>
        obtain ⟨j, zs, hj, rfl, hzl, hG, hz, hB, hb'⟩ := hrel
        clear d1
        have hg1 := hG.o1.lt g1 rfl
        by_cases hlt : j < n
        · obtain ⟨a0, ha0⟩ := get_of_lt (xs := absL (x1.drop (cutK x x0))) (k := j) (by have := HL1.out; simp [absL] at this ⊢; omega)
          obtain ⟨a, ha, haa⟩ := absl_get (xs := zs) (i := j) (a := a0) (by rw [hz.out, qTo_at _ (lt_of_get ha0)]; exact ha0)
          have e1 := hG.at1 ha
          have f1 := hG.free1 j
          have d1 := hG.box.cell 1 _ rfl
          have HSt := Lib.hid (fun x => hG.put1 j x)
          have HA := Lib.hid haa
          have HA0' := Lib.hid ha0
          have hp0 : (0 : Int) ≤ (j : Int) := by omega
          have hp1 : (j : Int) < (n : Int) := by omega
          clear ha haa ha0 hG
          go_wp2
          refine wp_region_fq 11 (fun _ _ _ => True) (by kernel_rfl) (by kernel_rfl) ?_
          simp only [List.take, List.drop]
          repeat (first | (refine wpFq_one (by rfl) ?_; go_big_quiet_step (fail); refine wpQuiet_nil ?_) | (refine wpFq_nilc (by rfl) _ rfl _ (by rfl) ?_; simp only [Act.put, List.setIfInBounds_toArray, List.set_cons_zero, List.set_cons_succ]) | (refine wpFq_fl (by rfl) _ _ _ _ _ rfl (by rfl) _ _ _ (by rfl) (by rfl) ?_; intro fb hfb; simp only [Act.put, List.setIfInBounds_toArray, List.set_cons_zero, List.set_cons_succ]) | (refine wpFq_up (by rfl) _ _ _ rfl (by kernel_rfl) (by kernel_rfl) _ (by rfl) ?_; intro fb hfb; simp only [Act.put, List.setIfInBounds_toArray, List.set_cons_zero, List.set_cons_succ]))
          refine wpFq_nil ?_
          intro nq
          have HF : Hid (absF .f32 fb = opF .quo .f32 a0 (givS x0 x1 x)) := by
            unfold Hid
            rw [hfb, HA.out, HSS.out]
          clear hfb
          go_wp2
          go_roundw
          case rel =>
            refine ⟨j + 1, zs.set j fb, by omega, by go_num, by unfold Hid; rw [List.length_set]; exact hzl.out, (HSt.out fb).below (below_drewN_ (Below.refl _ _)), ?_, (hB.other (p := ⟨g1, j, none⟩) (by show g1 ≠ _; omega) _).below (below_drewN_ (Below.refl _ _)), below_drewN_ (hb'.setCell (p := ⟨g1, j, none⟩) (by show _ ≤ g1; omega) _)⟩
            unfold Hid
            rw [absl_set, hz.out, HF.out]
            exact qTo_set _ HA0'.out
          case measure => simp [intOf]; omega
        · have hke : j = n := by omega
          subst hke
          have hgz := hG.o0.lt g0 rfl
          have hgz1 := hG.o1.lt g1 rfl
          have hzq : absL zs = givQ x0 x1 x := by rw [hz.out, HN.out]; rfl
          go_wp2_with (go_at_call 78; refine (l05Is_any _ _ _ (x0.drop (cutK x x0)) zs (by rw [HL0.out]; omega) (by rw [hzl.out]; omega) _ hG.box hG.o0.rd hG.o1.rd).mono ?_)
          rintro e w3 ⟨rfl, hb3⟩
          replace hG := hG.below hb3
          replace hB := hB.below hb3
          have HT := Lib.hid (hb'.trans (hb3.mono hb'.size))
          have hsok := giv_t Hs.out Hf.out HSS.out HGB.out hzq
          have HZQ := Lib.hid hzq
          clear hb' hb3 hzq hT
          have d0 := hB.cell 0 _ rfl
          have d1 := hB.cell 1 _ rfl
          have f0 := hB.free 0
          have f1 := hB.free 1
          have r0 := hG.box.cell 0 _ rfl
          have r1 := hG.box.cell 1 _ rfl
          have hGH := Lib.hid hG
          clear hG
          cases hs' : shareB (x0.drop (cutK x x0)) zs
          all_goals
            rw [hs'] at hsok
            have HS := Lib.hid hsok
            have HS' := Lib.hid hs'
            clear hsok hs'
            go_wp2
          · refine bodyPost_ret (v := .tuple #[shV (.slice none 0 0) (.slice none 0 0), .bool false]) (by simp [results, Try.results48, go_sem, *]) rfl ?_
            unfold RetGivenAbove
            rw [← HS.out]
            exact RetSh.none ((HT.out.setCell (by simp) _).setCell (by simp) _)
          · refine bodyPost_ret (v := .tuple #[shV (.slice (some ⟨g0, 0, none⟩) j c0) (.slice (some ⟨g1, 0, none⟩) j c1), .bool true]) (by simp [results, Try.results48, go_sem, *]) rfl ?_
            unfold RetGivenAbove
            rw [← HS.out]
            have o0 := Own.other (Own.other hGH.out.o0 (p := ⟨w.heap.size + 1, 0, none⟩) (fun e => by have := (hGH.out.o0.lt _ e).1; simp at this; omega) (.slice (some ⟨g0, 0, none⟩) j c0)) (p := ⟨w.heap.size + 1, 1, none⟩) (fun e => by have := (hGH.out.o0.lt _ e).1; simp at this; omega) (.slice (some ⟨g1, 0, none⟩) j c1)
            have o1 := Own.other (Own.other hGH.out.o1 (p := ⟨w.heap.size + 1, 0, none⟩) (fun e => by have := (hGH.out.o1.lt _ e).1; simp at this; omega) (.slice (some ⟨g0, 0, none⟩) j c0)) (p := ⟨w.heap.size + 1, 1, none⟩) (fun e => by have := (hGH.out.o1.lt _ e).1; simp at this; omega) (.slice (some ⟨g1, 0, none⟩) j c1)
            exact ⟨_, x0.drop (cutK x x0), _, zs, rfl, o0.base_ (by omega), o1.base_ (by omega), hGH.out.ap, by rw [HL0.out]; omega, by rw [hzl.out]; omega, rfl, by rw [HZQ.out]; rfl, (HT.out.setCell (by simp) _).setCell (by simp) _⟩
end Go.Proofs.Ytchcgapgpflknaa
