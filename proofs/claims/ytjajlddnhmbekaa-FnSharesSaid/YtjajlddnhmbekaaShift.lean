/-
  ShiftShare, walked in the program and in the reference.
-/
import Derived.Test.YtjajlddnhmbekaaShBack
namespace Go.Proofs.Ytjajlddnhmbekaa
open Go.RowKit
attribute [local go_sem] run_fl_add run_fl_sub run_fl_mul run_fl_quo run_up_

def shiftA (b p : Nat) (v : Nat) : Option Nat := opF .add .f32 (opF .mul .f32 (absF .f32 v) (absF .f32 b)) (absF .f32 p)
def shiftTo (x0 : List Nat) (b p k : Nat) : List (Option Nat) := (x0.take k).map (shiftA b p)
theorem shiftTo_snoc {x0 : List Nat} {b p k v : Nat} (h : x0[k]? = some v) : shiftTo x0 b p (k + 1) = shiftTo x0 b p k ++ [shiftA b p v] := by simp [shiftTo, take_snoc h]
def shiftG (x0 x1 : List Nat) (b p : Nat) : Bool := shareB x0 x1 && (finB b && finB p)
def shiftOk (x0 x1 : List Nat) (b p : Nat) : Bool := shiftG x0 x1 b p && gatOk (gatW (shiftTo x0 b p x0.length)) (absL x1)
def RetShiftShare (x0 x1 : List Nat) (b p : Nat) (w : World) (e : Ending) (w' : World) : Prop :=
  RetSh (shiftOk x0 x1 b p) (absL ((gatS (gatW (shiftTo x0 b p x0.length)) (absL x1)).map Prod.fst)) ((gatS (gatW (shiftTo x0 b p x0.length)) (absL x1)).map Prod.snd) w e w'
theorem shiftOk_f {x0 x1 : List Nat} {b p : Nat} (h : shiftG x0 x1 b p = false) : shiftOk x0 x1 b p = false := by unfold shiftOk; rw [h]; rfl
theorem shiftOk_t {x0 x1 : List Nat} {b p : Nat} (h : shiftG x0 x1 b p = true) : shiftOk x0 x1 b p = gatOk (gatW (shiftTo x0 b p x0.length)) (absL x1) := by unfold shiftOk; rw [h]; rfl
theorem absL_append' (a b : List Nat) : absL (a ++ b) = absL a ++ absL b := by simp [absL]

set_option maxHeartbeats 3200000 in
set_option maxRecDepth 100000 in
theorem implShiftShare_any (s0 : Value) (x0 : List Nat) (s1 : Value) (x1 : List Nat) (hn0 : x0.length ≤ 1099511627776) (hn1 : x1.length ≤ 1099511627776) (b p : Nat) (w : World) (hr0 : Rd fV w s0 x0) (hr1 : Rd fV w s1 x1) :
    Calls Try.prog 15 #[shV s0 s1, fV b, fV p] w (RetShiftShare x0 x1 b p w) := by
  have HR0 := Lib.hid hr0
  obtain ⟨A0, cap0, rfl, hcap0, hA0⟩ := hr0
  have HA0 := Lib.hid hA0
  clear hA0
  have HR1 := Lib.hid hr1
  obtain ⟨A1, cap1, rfl, hcap1, hA1⟩ := hr1
  have HA1 := Lib.hid hA1
  clear hA1
  go_enter Try.func15, Try.ntmps15
  go_wp2_with fail
  have B0 : BoxAt ((w.alloc (.cells ([.slice A0 x0.length cap0, .slice A1 x1.length cap1] : List Value).toArray 26)).alloc (.cells ([.slice none 0 0, .slice none 0 0] : List Value).toArray 26)) w.heap.size [.slice A0 x0.length cap0, .slice A1 x1.length cap1] := (BoxAt.new w _ _).alloc _
  have B1 : BoxAt ((w.alloc (.cells ([.slice A0 x0.length cap0, .slice A1 x1.length cap1] : List Value).toArray 26)).alloc (.cells ([.slice none 0 0, .slice none 0 0] : List Value).toArray 26)) (w.heap.size + 1) [.slice none 0 0, .slice none 0 0] := by
    have := BoxAt.new (w.alloc (.cells ([.slice A0 x0.length cap0, .slice A1 x1.length cap1] : List Value).toArray 26)) [.slice none 0 0, .slice none 0 0] 26
    rwa [size_alloc] at this
  have hT : Below w.heap.size w ((w.alloc (.cells ([.slice A0 x0.length cap0, .slice A1 x1.length cap1] : List Value).toArray 26)).alloc (.cells ([.slice none 0 0, .slice none 0 0] : List Value).toArray 26)) := ((Below.refl _ _).alloc (Nat.le_refl _) _).alloc (by simp) _
  generalize hg : (w.alloc _).alloc _ = W0 at *
  clear hg
  refine (implValidShare_any _ x0 _ x1 hn0 hn1 _ (HR0.out.below hT) (HR1.out.below hT)).mono ?_
  rintro e w1 ⟨rfl, hb⟩
  replace B0 := B0.below hb
  replace B1 := B1.below hb
  replace hT := below_to hT hb hT.size
  clear hb
  cases hs : shareB x0 x1
  · have Ho := Lib.hid (shiftOk_f (b := b) (p := p) (show shiftG x0 x1 b p = false by unfold shiftG; rw [hs]; rfl))
    clear hs
    have d0 := B1.cell 0 _ rfl
    have d1 := B1.cell 1 _ rfl
    have f0 := B1.free 0
    have f1 := B1.free 1
    have HT := Lib.hid hT
    clear hT
    go_wp2
    refine bodyPost_ret (v := .tuple #[shV (.slice none 0 0) (.slice none 0 0), .bool false]) (by simp [results, Try.results15, go_sem, *]) rfl ?_
    unfold RetShiftShare
    rw [Ho.out]
    exact RetSh.none ((HT.out.setCell (by simp) _).setCell (by simp) _)
  have hl := shareB_len hs
  have Hs := Lib.hid hs
  have HLEN := Lib.hid hl.2
  have h64 : x0.length ≤ 64 := hl.1.2
  have h1 : 1 ≤ x0.length := hl.1.1
  clear hs hl
  go_wp2_with fail
  refine (areFinite_any _ [b, p] (by simp) _ (rd_two w1 b p)).mono ?_
  rintro e w2 ⟨rfl, hd⟩
  have hb := below_to (below_alloc w1 (.cells #[fV b, fV p] 28)) (below_of_drew hd) (by simp)
  clear hd
  replace B0 := B0.below hb
  replace B1 := B1.below hb
  replace hT := below_to hT hb hT.size
  clear hb
  have hall : [b, p].all finB = (finB b && finB p) := by simp
  rw [hall]
  cases hf : (finB b && finB p)
  · have Ho := Lib.hid (shiftOk_f (show shiftG x0 x1 b p = false by unfold shiftG; rw [hf]; simp))
    clear hf hall
    have d0 := B1.cell 0 _ rfl
    have d1 := B1.cell 1 _ rfl
    have f0 := B1.free 0
    have f1 := B1.free 1
    have HT := Lib.hid hT
    clear hT
    go_wp2
    refine bodyPost_ret (v := .tuple #[shV (.slice none 0 0) (.slice none 0 0), .bool false]) (by simp [results, Try.results15, go_sem, *]) rfl ?_
    unfold RetShiftShare
    rw [Ho.out]
    exact RetSh.none ((HT.out.setCell (by simp) _).setCell (by simp) _)
  have Hok := Lib.hid (shiftOk_t (show shiftG x0 x1 b p = true by unfold shiftG; rw [Hs.out, hf]; rfl))
  clear hf hall
  have d0 := B0.cell 0 _ rfl
  have d1 := B0.cell 1 _ rfl
  have hlt0 := B0.lt
  go_wp2
  go_loopw [8, 26] (fun so si wr => ∃ (k : Nat) (zs : List Nat), k ≤ x0.length ∧ si = .int .i64 k ∧ Own fV 28 wr w2.heap.size so zs ∧ zs.length = k ∧ Hid (absL zs = shiftTo x0 b p k) ∧ Below w2.heap.size w2 wr) (fun _ si _ => x0.length - (intOf si).toNat)
  case atStart => exact ⟨0, [], by omega, rfl, own_nil_new fV _ _, rfl, rfl, (Below.refl _ _).alloc (Nat.le_refl _) _⟩
  case round =>
    obtain ⟨k, zs, hk, rfl, hown, hzl, hz, hb⟩ := hrel
    clear d0 d1 hlt0
    have HZL := Lib.hid hzl
    clear hzl
    by_cases hlt : k < x0.length
    · obtain ⟨v, hv⟩ := get_of_lt hlt
      obtain ⟨ad, rfl, hbl, hc0⟩ := HA0.out k v hv
      have hTr : Below w.heap.size w wr := hT.trans (hb.mono hT.size)
      have hc : wr.cell? (ad.add k) = some (fV v) := by rw [hTr.cell (by rw [add_block]; exact hbl)]; exact hc0
      have HV := Lib.hid (shiftTo_snoc (b := b) (p := p) hv)
      have hz' := hb.size
      have hzl' : zs.length ≤ 64 := by rw [HZL.out]; omega
      clear hv hc0
      go_wp2_with (at_builtin; go_loud (refine elF_.app (fun _ => rfl) _ rfl _ _ rfl w2.heap.size _ zs rfl (Own.alloc (Own.drewN hown _) _) _ _ rfl (rd_one fV _ _ _) (by omega) (by simp; omega) (by simp; omega) ?_))
      intro v' w' ho hg hbb hp
      go_wp2
      go_roundw
      case rel => exact ⟨k + 1, _, by omega, by go_num, ho, by rw [List.length_append, HZL.out]; rfl, by unfold Hid; rw [HV.out, absL_append', hz.out]; simp [absL, shiftA, abs_flR .add rfl, abs_flR .mul rfl], ((below_drewN' _ hb).alloc (by simpa using hz') _).trans hbb⟩
      case measure => simp [intOf]; omega
    · have hke : k = x0.length := by omega
      have HKE := Lib.hid hke
      replace B0 := B0.below hb
      replace B1 := B1.below hb
      replace hT := below_to hT hb hT.size
      have HZ : Hid (absL zs = shiftTo x0 b p x0.length) := by unfold Hid; rw [← hke]; exact hz.out
      have hzl' : zs.length = x0.length := by rw [HZL.out]; exact hke
      have HZP := Lib.hid hzl'
      clear hke hzl' hz hb
      have d0 := B0.cell 0 _ rfl
      have d1 := B0.cell 1 _ rfl
      obtain ⟨EZ, cz, rfl, -, -⟩ := hown.rd
      have HRZ := Lib.hid hown.rd
      clear hown
      go_wp2_with fail
      refine (implGather_any _ _ zs x1 (by rw [HZP.out]; omega) (by rw [HZP.out]; omega) (by rw [HLEN.out, HZP.out]) _ HRZ.out (HR1.out.below hT)).mono ?_
      rw [gat_words HZ.out]
      rintro e w6 ⟨u0, z0, u1, z1, rfl, o0, o1, ap, l0, l1, a0, a1, hb6⟩
      have hB := B1.below hb6
      have hT6 := below_to hT hb6 hT.size
      have hlt6 := B1.lt
      obtain ⟨E0, c0, rfl, -, -⟩ := o0.rd
      obtain ⟨E1, c1, rfl, -, -⟩ := o1.rd
      have HF := Lib.hid (fun u v => retSh_stored (w := w) (b := w.heap.size + 1) o0 o1 ap l0 l1 a0 a1 hT6 (by omega) hlt6 hT.size u v)
      clear o0 o1 ap a0 a1 l0 l1 hb6 hT6 B1 hT hlt6
      have r0 := hB.cell 0 _ rfl
      have r1 := hB.cell 1 _ rfl
      have f0 := hB.free 0
      have f1 := hB.free 1
      have HB := Lib.hid hB
      clear hB
      go_wp2
      refine bodyPost_ret (v := .tuple #[shV (.slice E0 z0.length c0) (.slice E1 z1.length c1), .bool (gatOk (gatW (shiftTo x0 b p x0.length)) (absL x1))]) (by simp [results, Try.results15, go_sem, *]) rfl ?_
      unfold RetShiftShare
      rw [Hok.out]
      exact HF.out _ _

end Go.Proofs.Ytjajlddnhmbekaa
