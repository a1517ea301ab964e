/-
  PlainShare, walked in the program and in the reference.
-/
import Derived.Test.YtkohhhmllekokaaShBack
import Derived.Test.YtkohhhmllekokaaRepeat
import Derived.Test.YtkohhhmllekokaaWithin
import Derived.Test.YtkohhhmllekokaaGathI
import Derived.Test.YtkohhhmllekokaaGathS
namespace Go.Proofs.Ytkohhhmllekokaa
open Go.RowKit
attribute [local go_sem] run_fl_add run_fl_sub run_fl_mul run_fl_quo run_up_

def plQ (n : Nat) : Option Nat := opF .quo .f32 (absF .f32 1065353216) (absF .f32 (floatOfInt .f32 n))
def plC (n k : Nat) : List (Option Nat) := List.replicate k (plQ n)
theorem plC_snoc (n k : Nat) : plC n (k + 1) = plC n k ++ [plQ n] := by simp [plC, List.replicate_succ']
def plOk (xs : List Nat) : Bool := decide (1 ≤ xs.length ∧ xs.length ≤ 64) && gatOk xs (plC xs.length xs.length)
def RetPlainShare (xs : List Nat) (w : World) (e : Ending) (w' : World) : Prop :=
  RetSh (plOk xs) (absL ((gatS xs (plC xs.length xs.length)).map Prod.fst)) ((gatS xs (plC xs.length xs.length)).map Prod.snd) w e w'
section
variable {xs : List Nat}
theorem plOk_1 (h : ¬ (1 ≤ xs.length ∧ xs.length ≤ 64)) : plOk xs = false := by unfold plOk; rw [decide_eq_false h]; rfl
theorem plOk_t (h1 : 1 ≤ xs.length ∧ xs.length ≤ 64) : plOk xs = gatOk xs (plC xs.length xs.length) := by unfold plOk; rw [decide_eq_true h1]; rfl
end
theorem absL_app' (a b : List Nat) : absL (a ++ b) = absL a ++ absL b := by simp [absL]
theorem absL_rep (n k c : Nat) (h : absF .f32 c = plQ n) : absL (List.replicate k c) = plC n k := by simp [absL, plC, h]

theorem isValues_any (n : Nat) (w : World) : Calls Try.prog 53 #[.int .i64 n] w fun e w' => e = .returned (.bool (decide (1 ≤ n ∧ n ≤ 64))) ∧ w = w' := by
  go_enter Try.func53, Try.ntmps53
  go_wp2
  all_goals go_ret
  all_goals exact ⟨ret_bool (by rw [Bool.eq_iff_iff]; simp; omega), rfl⟩

set_option maxHeartbeats 3200000 in
set_option maxRecDepth 100000 in
theorem implPlainShare_any (v : Value) (xs : List Nat) (hn : xs.length ≤ 1099511627776) (w : World) (hr0 : Rd fV w v xs) :
    Calls Try.prog 23 #[v] w (RetPlainShare xs w) := by
  have HR0 := Lib.hid hr0
  obtain ⟨A0, cap0, rfl, hcap0, hA0⟩ := hr0
  have HA0 := Lib.hid hA0
  clear hA0
  go_enter Try.func23, Try.ntmps23
  go_wp2_with fail
  have B1 : BoxAt (w.alloc (.cells ([.slice none 0 0, .slice none 0 0] : List Value).toArray 27)) w.heap.size [.slice none 0 0, .slice none 0 0] := BoxAt.new w _ _
  have hT : Below w.heap.size w (w.alloc (.cells ([.slice none 0 0, .slice none 0 0] : List Value).toArray 27)) := below_alloc _ _
  generalize hg : w.alloc _ = w2 at *
  clear hg
  refine (isValues_any _ _).mono ?_
  rintro e w1 ⟨rfl, rfl⟩
  by_cases hl : 1 ≤ xs.length ∧ xs.length ≤ 64
  case neg =>
    rw [decide_eq_false hl]
    have Ho := Lib.hid (plOk_1 hl)
    clear hl
    have d0 := B1.cell 0 _ rfl
    have d1 := B1.cell 1 _ rfl
    have f0 := B1.free 0
    have f1 := B1.free 1
    have HT := Lib.hid hT
    clear hT
    go_wp2
    refine bodyPost_ret (v := .tuple #[shV (.slice none 0 0) (.slice none 0 0), .bool false]) (by simp [results, Try.results23, go_sem, *]) rfl ?_
    unfold RetPlainShare
    rw [Ho.out]
    exact RetSh.none ((HT.out.setCell (by first | (simp; done) | (simp; omega)) _).setCell (by first | (simp; done) | (simp; omega)) _)
  rw [decide_eq_true hl]
  have Hok := Lib.hid (plOk_t hl)
  have h64 : xs.length ≤ 64 := hl.2
  have h1 : 1 ≤ xs.length := hl.1
  clear hl
  go_wp2_with fail
  refine (repeat_any _ _ xs.length h1 (by omega) _ (rd_one fV _ _ _)).mono ?_
  rintro e w3 ⟨v3, rfl, o3, hb3⟩
  have hb : Below w2.heap.size w2 w3 := below_to ((below_drewN' _ (Below.refl _ _)).alloc (by simp) _) hb3 (by simp)
  clear hb3
  replace B1 := B1.below hb
  replace hT := below_to hT hb hT.size
  clear hb
  have HZ : Hid (absL (List.replicate xs.length (flR .quo .f32 1065353216 (floatOfInt .f32 xs.length) w2)) = plC xs.length xs.length) := absL_rep xs.length xs.length _ (by unfold plQ; exact abs_flR .quo rfl _ _ _ _)
  have hln := List.length_replicate (n := xs.length) (a := flR .quo .f32 1065353216 (floatOfInt .f32 xs.length) w2)
  obtain ⟨EZ, cz, rfl, -, -⟩ := o3.rd
  have HRZ : Hid (Rd fV w3 (.slice EZ xs.length cz) (List.replicate xs.length (flR .quo .f32 1065353216 (floatOfInt .f32 xs.length) w2))) := by have h := o3.rd; rw [List.length_replicate] at h; exact h
  clear o3
  simp only [List.length_replicate]
  generalize List.replicate xs.length (flR .quo .f32 1065353216 (floatOfInt .f32 xs.length) w2) = zs at *
  go_wp2_with fail
  refine (implGather_any _ _ xs zs h1 (by omega) hln _ (HR0.out.below hT) HRZ.out).mono ?_
  rw [HZ.out]
  rintro e w6 ⟨u0, z0, u1, z1, rfl, o0, o1, ap, l0, l1, a0, a1, hb6⟩
  have hB := B1.below hb6
  have hT6 := below_to hT hb6 hT.size
  have hlt6 := B1.lt
  obtain ⟨E0, c0, rfl, -, -⟩ := o0.rd
  obtain ⟨E1, c1, rfl, -, -⟩ := o1.rd
  have HF := Lib.hid (fun u v => retSh_stored (w := w) (b := w.heap.size) o0 o1 ap l0 l1 a0 a1 hT6 (by omega) hlt6 hT.size u v)
  clear o0 o1 ap a0 a1 l0 l1 hb6 hT6 B1 hT hlt6
  have r0 := hB.cell 0 _ rfl
  have r1 := hB.cell 1 _ rfl
  have f0 := hB.free 0
  have f1 := hB.free 1
  have HB := Lib.hid hB
  clear hB
  go_wp2
  refine bodyPost_ret (v := .tuple #[shV (.slice E0 z0.length c0) (.slice E1 z1.length c1), .bool (gatOk xs (plC xs.length xs.length))]) (by simp [results, Try.results23, go_sem, *]) rfl ?_
  unfold RetPlainShare
  rw [Hok.out]
  exact HF.out _ _

set_option maxHeartbeats 3200000 in
set_option maxRecDepth 100000 in
theorem specPlainShare_any (v : Value) (xs : List Nat) (hn : xs.length ≤ 1099511627776) (w : World) (hr0 : Rd fV w v xs) :
    Calls Try.prog 21 #[v] w (RetPlainShare xs w) := by
  have HR0 := Lib.hid hr0
  obtain ⟨A0, cap0, rfl, hcap0, hA0⟩ := hr0
  have HA0 := Lib.hid hA0
  clear hA0
  go_enter Try.func21, Try.ntmps21
  by_cases hl : 1 ≤ xs.length ∧ xs.length ≤ 64
  case neg =>
    have Ho := Lib.hid (plOk_1 hl)
    go_upto_region 2 with fail
    have B1 : BoxAt (w.alloc (.cells ([.slice none 0 0, .slice none 0 0] : List Value).toArray 27)) w.heap.size [.slice none 0 0, .slice none 0 0] := BoxAt.new w _ _
    have hT : Below w.heap.size w (w.alloc (.cells ([.slice none 0 0, .slice none 0 0] : List Value).toArray 27)) := below_alloc _ _
    generalize hg : w.alloc _ = w2 at *
    clear hg
    by_cases h1 : xs.length < 1
    · clear hl
      have d0 := B1.cell 0 _ rfl
      have d1 := B1.cell 1 _ rfl
      have f0 := B1.free 0
      have f1 := B1.free 1
      have HT := Lib.hid hT
      clear hT
      go_wp2
      refine bodyPost_ret (v := .tuple #[shV (.slice none 0 0) (.slice none 0 0), .bool false]) (by simp [results, Try.results21, go_sem, *]) rfl ?_
      unfold RetPlainShare
      rw [Ho.out]
      exact RetSh.none ((HT.out.setCell (by first | (simp; done) | (simp; omega)) _).setCell (by first | (simp; done) | (simp; omega)) _)
    have h1' : 1 ≤ xs.length := by omega
    have h64 : 64 < xs.length := by omega
    clear hl h1
    have d0 := B1.cell 0 _ rfl
    have d1 := B1.cell 1 _ rfl
    have f0 := B1.free 0
    have f1 := B1.free 1
    have HT := Lib.hid hT
    clear hT
    go_wp2
    refine bodyPost_ret (v := .tuple #[shV (.slice none 0 0) (.slice none 0 0), .bool false]) (by simp [results, Try.results21, go_sem, *]) rfl ?_
    unfold RetPlainShare
    rw [Ho.out]
    exact RetSh.none ((HT.out.setCell (by first | (simp; done) | (simp; omega)) _).setCell (by first | (simp; done) | (simp; omega)) _)
  have Hok := Lib.hid (plOk_t hl)
  have h64 : xs.length ≤ 64 := hl.2
  have h1 : 1 ≤ xs.length := hl.1
  clear hl
  go_upto_region 2 with fail
  have B1 : BoxAt (w.alloc (.cells ([.slice none 0 0, .slice none 0 0] : List Value).toArray 27)) w.heap.size [.slice none 0 0, .slice none 0 0] := BoxAt.new w _ _
  have hT : Below w.heap.size w (w.alloc (.cells ([.slice none 0 0, .slice none 0 0] : List Value).toArray 27)) := below_alloc _ _
  generalize hg : w.alloc _ = w2 at *
  clear hg
  go_wp2
  go_loopw [5, 18] (fun so si wr => ∃ (k : Nat) (zs : List Nat), k ≤ xs.length ∧ si = .int .i64 k ∧ Own fV 25 wr w2.heap.size so zs ∧ zs.length = k ∧ Hid (absL zs = plC xs.length k) ∧ Below w2.heap.size w2 wr) (fun _ si _ => xs.length - (intOf si).toNat)
  case atStart => exact ⟨0, [], by omega, rfl, own_nil_new fV _ _, rfl, rfl, (Below.refl _ _).alloc (Nat.le_refl _) _⟩
  case round =>
    obtain ⟨k, zs, hk, rfl, hown, hzl, hz, hb⟩ := hrel
    have HZL := Lib.hid hzl
    clear hzl
    by_cases hlt : k < xs.length
    · have hz' := hb.size
      have hzl' : zs.length ≤ 64 := by rw [HZL.out]; omega
      go_wp2_with (at_builtin; go_loud (refine elF_.app (fun _ => rfl) _ rfl _ _ rfl w2.heap.size _ zs rfl (Own.alloc (Own.drewN hown _) _) _ _ rfl (rd_one fV _ _ _) (by omega) (by simp; omega) (by simp; omega) ?_))
      intro v' w' ho hg hbb hp
      go_wp2
      go_roundw
      case rel => exact ⟨k + 1, _, by omega, by go_num, ho, by rw [List.length_append, HZL.out]; rfl, by unfold Hid; rw [plC_snoc, absL_app', hz.out]; simp [absL, plQ, abs_flR .quo rfl], ((below_drewN' _ hb).alloc (by simpa using hz') _).trans hbb⟩
      case measure => simp [intOf]; omega
    · have hke : k = xs.length := by omega
      replace B1 := B1.below hb
      replace hT := below_to hT hb hT.size
      have HZ : Hid (absL zs = plC xs.length xs.length) := by have h := hz.out; rw [hke] at h; exact h
      have hzl' : zs.length = xs.length := by rw [HZL.out]; exact hke
      have HZP := Lib.hid hzl'
      clear hke hzl' hz hb
      obtain ⟨EZ, cz, rfl, -, -⟩ := hown.rd
      have HRZ := Lib.hid hown.rd
      clear hown
      go_wp2_with fail
      refine (l05Gather_any _ _ xs zs (by omega) HZP.out _ (HR0.out.below hT) HRZ.out).mono ?_
      rw [HZ.out]
      rintro e w6 ⟨u0, z0, u1, z1, rfl, o0, o1, ap, l0, l1, a0, a1, hb6⟩
      have hB := B1.below hb6
      have hT6 := below_to hT hb6 hT.size
      have hlt6 := B1.lt
      obtain ⟨E0, c0, rfl, -, -⟩ := o0.rd
      obtain ⟨E1, c1, rfl, -, -⟩ := o1.rd
      have HF := Lib.hid (fun u v => retSh_stored (w := w) (b := w.heap.size) o0 o1 ap l0 l1 a0 a1 hT6 (by omega) hlt6 hT.size u v)
      clear o0 o1 ap a0 a1 l0 l1 hb6 hT6 B1 hT hlt6
      have r0 := hB.cell 0 _ rfl
      have r1 := hB.cell 1 _ rfl
      have f0 := hB.free 0
      have f1 := hB.free 1
      have HB := Lib.hid hB
      clear hB
      go_wp2
      refine bodyPost_ret (v := .tuple #[shV (.slice E0 z0.length c0) (.slice E1 z1.length c1), .bool (gatOk xs (plC xs.length xs.length))]) (by simp [results, Try.results21, go_sem, *]) rfl ?_
      unfold RetPlainShare
      rw [Hok.out]
      exact HF.out _ _
end Go.Proofs.Ytkohhhmllekokaa
