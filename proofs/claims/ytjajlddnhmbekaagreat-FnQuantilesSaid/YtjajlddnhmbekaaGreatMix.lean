/-
  MixShares, walked in the program and in the reference.
-/
import Derived.Test.YtjajlddnhmbekaaGreatTwoR2
import Derived.Test.YtjajlddnhmbekaaGreatJoinF
import Derived.Test.YtjajlddnhmbekaaGreatGathI
import Derived.Test.YtjajlddnhmbekaaGreatGathS
import Derived.Test.YtjajlddnhmbekaaGreatOrdT
namespace Go.Proofs.YtjajlddnhmbekaaGreat
open Go.RowKit
attribute [local go_sem] run_fl_add run_fl_sub run_fl_mul run_fl_quo run_up_

def mixL (p c : Nat) : Option Nat := opF .mul .f32 (opF .sub .f32 (absF .f32 1065353216) (absF .f32 p)) (absF .f32 c)
def mixR (p c : Nat) : Option Nat := opF .mul .f32 (absF .f32 p) (absF .f32 c)
def mixA (p : Nat) (x1 : List Nat) (k : Nat) : List (Option Nat) := (x1.take k).map (mixL p)
def mixBo (p : Nat) (x1 x3 : List Nat) (k : Nat) : List (Option Nat) := mixA p x1 x1.length ++ (x3.take k).map (mixR p)
theorem mixA_snoc {p : Nat} {x1 : List Nat} {k c : Nat} (h : x1[k]? = some c) : mixA p x1 (k + 1) = mixA p x1 k ++ [mixL p c] := by simp [mixA, take_snoc h]
theorem mixBo_snoc {p : Nat} {x1 x3 : List Nat} {k c : Nat} (h : x3[k]? = some c) : mixBo p x1 x3 (k + 1) = mixBo p x1 x3 k ++ [mixR p c] := by simp [mixBo, take_snoc h]
theorem mixBo_zero (p : Nat) (x1 x3 : List Nat) : mixBo p x1 x3 0 = mixA p x1 x1.length := by simp [mixBo]
def mixC (p : Nat) (x1 x3 : List Nat) : List (Option Nat) := mixBo p x1 x3 x3.length
def mixG (x0 x1 x2 x3 : List Nat) (p : Nat) : Bool := (shareB x0 x1 && shareB x2 x3) && partB p
def mixOk (x0 x1 x2 x3 : List Nat) (p : Nat) : Bool := mixG x0 x1 x2 x3 p && gatOk (x0 ++ x2) (mixC p x1 x3)
def RetMixShares (x0 x1 x2 x3 : List Nat) (p : Nat) (w : World) (e : Ending) (w' : World) : Prop :=
  RetSh (mixOk x0 x1 x2 x3 p) (absL ((gatS (x0 ++ x2) (mixC p x1 x3)).map Prod.fst)) ((gatS (x0 ++ x2) (mixC p x1 x3)).map Prod.snd) w e w'
section
variable {x0 x1 x2 x3 : List Nat} {p : Nat}
theorem mixOk_1 (h : shareB x0 x1 = false) : mixOk x0 x1 x2 x3 p = false := by unfold mixOk mixG; rw [h]; rfl
theorem mixOk_2 (h : shareB x2 x3 = false) : mixOk x0 x1 x2 x3 p = false := by unfold mixOk mixG; rw [h]; simp
theorem mixOk_3 (h : partB p = false) : mixOk x0 x1 x2 x3 p = false := by unfold mixOk mixG; rw [h]; simp
theorem mixOk_t (h1 : shareB x0 x1 = true) (h2 : shareB x2 x3 = true) (h3 : partB p = true) : mixOk x0 x1 x2 x3 p = gatOk (x0 ++ x2) (mixC p x1 x3) := by
  unfold mixOk mixG
  rw [h1, h2, h3]; rfl
end
theorem absL_appM (a b : List Nat) : absL (a ++ b) = absL a ++ absL b := by simp [absL]
theorem rd_one_ (w : World) (p : Nat) : Rd fV (w.alloc (.cells #[fV p] 28)) (.slice (some ⟨w.heap.size, 0, none⟩) 1 1) [p] := rd_one fV _ _ _

set_option maxHeartbeats 3200000 in
set_option maxRecDepth 100000 in
theorem implMixShares_any (s0 : Value) (x0 : List Nat) (s1 : Value) (x1 : List Nat) (hn0 : x0.length ≤ 1099511627776) (hn1 : x1.length ≤ 1099511627776) (s2 : Value) (x2 : List Nat) (s3 : Value) (x3 : List Nat) (hn2 : x2.length ≤ 1099511627776) (hn3 : x3.length ≤ 1099511627776) (p : Nat) (w : World) (hr0 : Rd fV w s0 x0) (hr1 : Rd fV w s1 x1) (hr2 : Rd fV w s2 x2) (hr3 : Rd fV w s3 x3) :
    Calls Tryz.prog 10 #[shV s0 s1, shV s2 s3, fV p] w (RetMixShares x0 x1 x2 x3 p w) := by
  have HR0 := Lib.hid hr0
  obtain ⟨A0, cap0, rfl, hcap0, hA0⟩ := hr0
  have HA0 := Lib.hid hA0
  clear hA0
  have HR1 := Lib.hid hr1
  obtain ⟨A1, cap1, rfl, hcap1, hA1⟩ := hr1
  have HA1 := Lib.hid hA1
  clear hA1
  have HR2 := Lib.hid hr2
  obtain ⟨A2, cap2, rfl, hcap2, hA2⟩ := hr2
  have HA2 := Lib.hid hA2
  clear hA2
  have HR3 := Lib.hid hr3
  obtain ⟨A3, cap3, rfl, hcap3, hA3⟩ := hr3
  have HA3 := Lib.hid hA3
  clear hA3
  go_enter Tryz.func10, Tryz.ntmps10
  go_wp2_with fail
  have B0 : BoxAt (((w.alloc (.cells ([.slice A0 x0.length cap0, .slice A1 x1.length cap1] : List Value).toArray 26)).alloc (.cells ([.slice A2 x2.length cap2, .slice A3 x3.length cap3] : List Value).toArray 26)).alloc (.cells ([.slice none 0 0, .slice none 0 0] : List Value).toArray 26)) w.heap.size [.slice A0 x0.length cap0, .slice A1 x1.length cap1] := ((BoxAt.new w _ _).alloc _).alloc _
  have B2 : BoxAt (((w.alloc (.cells ([.slice A0 x0.length cap0, .slice A1 x1.length cap1] : List Value).toArray 26)).alloc (.cells ([.slice A2 x2.length cap2, .slice A3 x3.length cap3] : List Value).toArray 26)).alloc (.cells ([.slice none 0 0, .slice none 0 0] : List Value).toArray 26)) (w.heap.size + 1) [.slice A2 x2.length cap2, .slice A3 x3.length cap3] := by
    have := (BoxAt.new (w.alloc (.cells ([.slice A0 x0.length cap0, .slice A1 x1.length cap1] : List Value).toArray 26)) [.slice A2 x2.length cap2, .slice A3 x3.length cap3] 26).alloc (.cells ([.slice none 0 0, .slice none 0 0] : List Value).toArray 26)
    rwa [size_alloc] at this
  have B1 : BoxAt (((w.alloc (.cells ([.slice A0 x0.length cap0, .slice A1 x1.length cap1] : List Value).toArray 26)).alloc (.cells ([.slice A2 x2.length cap2, .slice A3 x3.length cap3] : List Value).toArray 26)).alloc (.cells ([.slice none 0 0, .slice none 0 0] : List Value).toArray 26)) (w.heap.size + 2) [.slice none 0 0, .slice none 0 0] := by
    have := BoxAt.new ((w.alloc (.cells ([.slice A0 x0.length cap0, .slice A1 x1.length cap1] : List Value).toArray 26)).alloc (.cells ([.slice A2 x2.length cap2, .slice A3 x3.length cap3] : List Value).toArray 26)) [.slice none 0 0, .slice none 0 0] 26
    rwa [size_alloc, size_alloc] at this
  have hT : Below w.heap.size w (((w.alloc (.cells ([.slice A0 x0.length cap0, .slice A1 x1.length cap1] : List Value).toArray 26)).alloc (.cells ([.slice A2 x2.length cap2, .slice A3 x3.length cap3] : List Value).toArray 26)).alloc (.cells ([.slice none 0 0, .slice none 0 0] : List Value).toArray 26)) := (((Below.refl _ _).alloc (Nat.le_refl _) _).alloc (by simp) _).alloc (by simp; omega) _
  generalize hg : ((w.alloc _).alloc _).alloc _ = W0 at *
  clear hg
  refine (implValidShare_any _ x0 _ x1 hn0 hn1 _ (HR0.out.below hT) (HR1.out.below hT)).mono ?_
  rintro e w1 ⟨rfl, hb⟩
  replace B0 := B0.below hb
  replace B2 := B2.below hb
  replace B1 := B1.below hb
  replace hT := below_to hT hb hT.size
  clear hb
  cases hs0 : shareB x0 x1
  · have Ho := Lib.hid (mixOk_1 (x2 := x2) (x3 := x3) (p := p) hs0)
    clear hs0
    have d0 := B1.cell 0 _ rfl
    have d1 := B1.cell 1 _ rfl
    have f0 := B1.free 0
    have f1 := B1.free 1
    have HT := Lib.hid hT
    clear hT
    go_wp2
    refine bodyPost_ret (v := .tuple #[shV (.slice none 0 0) (.slice none 0 0), .bool false]) (by simp [results, Tryz.results10, go_sem, *]) rfl ?_
    unfold RetMixShares
    rw [Ho.out]
    exact RetSh.none ((HT.out.setCell (by first | (simp; done) | (simp; omega)) _).setCell (by first | (simp; done) | (simp; omega)) _)
  have hl0 := shareB_len hs0
  have Hs0 := Lib.hid hs0
  have HLEN0 := Lib.hid hl0.2
  have h640 : x0.length ≤ 64 := hl0.1.2
  have h10 : 1 ≤ x0.length := hl0.1.1
  have h640' : x1.length ≤ 64 := by have := hl0.2; omega
  clear hs0 hl0
  have m0 := B2.cell 0 _ rfl
  have m1 := B2.cell 1 _ rfl
  have hlt2 := B2.lt
  go_wp2_with fail
  clear m0 m1 hlt2
  refine (implValidShare_any _ x2 _ x3 hn2 hn3 _ (HR2.out.below hT) (HR3.out.below hT)).mono ?_
  rintro e w2 ⟨rfl, hb⟩
  replace B0 := B0.below hb
  replace B2 := B2.below hb
  replace B1 := B1.below hb
  replace hT := below_to hT hb hT.size
  clear hb
  cases hs2 : shareB x2 x3
  · have Ho := Lib.hid (mixOk_2 (x0 := x0) (x1 := x1) (p := p) hs2)
    clear hs2
    have d0 := B1.cell 0 _ rfl
    have d1 := B1.cell 1 _ rfl
    have f0 := B1.free 0
    have f1 := B1.free 1
    have HT := Lib.hid hT
    clear hT
    go_wp2
    refine bodyPost_ret (v := .tuple #[shV (.slice none 0 0) (.slice none 0 0), .bool false]) (by simp [results, Tryz.results10, go_sem, *]) rfl ?_
    unfold RetMixShares
    rw [Ho.out]
    exact RetSh.none ((HT.out.setCell (by first | (simp; done) | (simp; omega)) _).setCell (by first | (simp; done) | (simp; omega)) _)
  have hl2 := shareB_len hs2
  have Hs2 := Lib.hid hs2
  have HLEN2 := Lib.hid hl2.2
  have h642 : x2.length ≤ 64 := hl2.1.2
  have h12 : 1 ≤ x2.length := hl2.1.1
  have h642' : x3.length ≤ 64 := by have := hl2.2; omega
  clear hs2 hl2
  go_wp2_with fail
  refine (areParts_any _ [p] (by simp) _ (rd_one_ w2 p)).mono ?_
  rintro e w3 ⟨rfl, hd⟩
  have hb := below_to (below_alloc w2 (.cells #[fV p] 28)) (below_of_drew hd) (by simp)
  clear hd
  replace B0 := B0.below hb
  replace B2 := B2.below hb
  replace B1 := B1.below hb
  replace hT := below_to hT hb hT.size
  clear hb
  have hall : [p].all partB = partB p := by simp
  rw [hall]
  clear hall
  cases hp : partB p
  · have Ho := Lib.hid (mixOk_3 (x0 := x0) (x1 := x1) (x2 := x2) (x3 := x3) hp)
    clear hp
    have d0 := B1.cell 0 _ rfl
    have d1 := B1.cell 1 _ rfl
    have f0 := B1.free 0
    have f1 := B1.free 1
    have HT := Lib.hid hT
    clear hT
    go_wp2
    refine bodyPost_ret (v := .tuple #[shV (.slice none 0 0) (.slice none 0 0), .bool false]) (by simp [results, Tryz.results10, go_sem, *]) rfl ?_
    unfold RetMixShares
    rw [Ho.out]
    exact RetSh.none ((HT.out.setCell (by first | (simp; done) | (simp; omega)) _).setCell (by first | (simp; done) | (simp; omega)) _)
  have Hok := Lib.hid (mixOk_t Hs0.out Hs2.out hp)
  clear hp
  have d0 := B0.cell 0 _ rfl
  have d1 := B0.cell 1 _ rfl
  have hlt0 := B0.lt
  go_wp2
  go_loopw [8, 32] (fun so si wr => ∃ (k : Nat) (zs : List Nat), k ≤ x1.length ∧ si = .int .i64 k ∧ Own fV 28 wr w3.heap.size so zs ∧ zs.length = k ∧ Hid (absL zs = mixA p x1 k) ∧ Below w3.heap.size w3 wr) (fun _ si _ => x1.length - (intOf si).toNat)
  case atStart => exact ⟨0, [], by omega, rfl, own_nil_new fV _ _, rfl, rfl, (Below.refl _ _).alloc (Nat.le_refl _) _⟩
  case round =>
    obtain ⟨k, zs, hk, rfl, hown, hzl, hz, hb⟩ := hrel
    have HZL := Lib.hid hzl
    clear hzl
    by_cases hlt : k < x1.length
    · obtain ⟨v, hv⟩ := get_of_lt hlt
      obtain ⟨ad, rfl, hbl, hc0⟩ := HA1.out k v hv
      have hTr : Below w.heap.size w wr := hT.trans (hb.mono hT.size)
      have hc : wr.cell? (ad.add k) = some (fV v) := by rw [hTr.cell (by rw [add_block]; exact hbl)]; exact hc0
      have HV := Lib.hid (mixA_snoc (p := p) hv)
      have hz' := hb.size
      have hzl' : zs.length ≤ 128 := by rw [HZL.out]; omega
      clear hv hc0
      go_wp2_with (at_builtin; go_loud (refine elF_.app (fun _ => rfl) _ rfl _ _ rfl w3.heap.size _ zs rfl (Own.alloc (Own.drewN hown _) _) _ _ rfl (rd_one fV _ _ _) (by omega) (by simp; omega) (by simp; omega) ?_))
      intro v' w' ho hg hbb hp
      go_wp2
      go_roundw
      case rel => exact ⟨k + 1, _, by omega, by go_num, ho, by rw [List.length_append, HZL.out]; simp; try omega, by unfold Hid; rw [HV.out, absL_appM, hz.out]; simp [absL, mixL, abs_flR .mul rfl, abs_flR .sub rfl], ((below_drewN' _ hb).alloc (by simpa using hz') _).trans hbb⟩
      case measure => simp [intOf]; omega
    · have hke : k = x1.length := by omega
      have HZ : Hid (absL zs = mixA p x1 x1.length) := by have h := hz.out; rw [hke] at h; exact h
      have hzl' : zs.length = x1.length := by rw [HZL.out]; exact hke
      clear HZL hz hke
      have HZL := Lib.hid hzl'
      clear hzl'
      obtain ⟨zs0, hz0⟩ : ∃ z, z = zs := ⟨_, rfl⟩
      have B2r := B2.below hb
      have m0 := B2r.cell 0 _ rfl
      have m1 := B2r.cell 1 _ rfl
      have hlt2 := B2.lt
      have hbz := hb.size
      have hlt2' : w.heap.size + 1 < wr.heap.size := by omega
      obtain ⟨EZ, cz, rfl, -, -⟩ := hown.rd
      clear B2r
      obtain ⟨w4, rfl⟩ : ∃ w4, w4 = wr := ⟨_, rfl⟩
      go_wp2
      clear m0 m1 hlt2'
      go_loopw [8, 47] (fun so si wr => ∃ (k : Nat) (zs : List Nat), k ≤ x3.length ∧ si = .int .i64 k ∧ Own fV 28 wr w3.heap.size so zs ∧ zs.length = x1.length + k ∧ Hid (absL zs = mixBo p x1 x3 k) ∧ Below w3.heap.size w3 wr) (fun _ si _ => x3.length - (intOf si).toNat)
      case atStart => exact ⟨0, zs, by omega, rfl, hown, by rw [HZL.out]; rfl, by unfold Hid; rw [mixBo_zero]; exact HZ.out, hb⟩
      case round =>
        clear hown hb HZ HZL hz0 hbz
        obtain ⟨k, zs, hk, rfl, hown, hzl, hz, hb⟩ := hrel
        have HZL := Lib.hid hzl
        clear hzl
        by_cases hlt : k < x3.length
        · obtain ⟨v, hv⟩ := get_of_lt hlt
          obtain ⟨ad, rfl, hbl, hc0⟩ := HA3.out k v hv
          have hTr : Below w.heap.size w wr := hT.trans (hb.mono hT.size)
          have hc : wr.cell? (ad.add k) = some (fV v) := by rw [hTr.cell (by rw [add_block]; exact hbl)]; exact hc0
          have HV := Lib.hid (mixBo_snoc (p := p) (x1 := x1) hv)
          have hz' := hb.size
          have hzl' : zs.length ≤ 128 := by rw [HZL.out]; omega
          clear hv hc0
          go_wp2_with (at_builtin; go_loud (refine elF_.app (fun _ => rfl) _ rfl _ _ rfl w3.heap.size _ zs rfl (Own.alloc (Own.drewN hown _) _) _ _ rfl (rd_one fV _ _ _) (by omega) (by simp; omega) (by simp; omega) ?_))
          intro v' w' ho hg hbb hp
          go_wp2
          go_roundw
          case rel => exact ⟨k + 1, _, by omega, by go_num, ho, by rw [List.length_append, HZL.out]; simp; try omega, by unfold Hid; rw [HV.out, absL_appM, hz.out]; simp [absL, mixR, abs_flR .mul rfl], ((below_drewN' _ hb).alloc (by simpa using hz') _).trans hbb⟩
          case measure => simp [intOf]; omega
        · have hke : k = x3.length := by omega
          replace B0 := B0.below hb
          replace B2 := B2.below hb
          replace B1 := B1.below hb
          replace hT := below_to hT hb hT.size
          have HZ : Hid (absL zs = mixC p x1 x3) := by have h := hz.out; rw [hke] at h; exact h
          have hzl' : zs.length = (x0 ++ x2).length := by rw [HZL.out, hke, List.length_append, HLEN0.out, HLEN2.out]
          have HZP := Lib.hid hzl'
          clear hke hzl' hz hb
          have d0 := B0.cell 0 _ rfl
          have d1 := B0.cell 1 _ rfl
          have m0 := B2.cell 0 _ rfl
          have m1 := B2.cell 1 _ rfl
          have hlt0 := B0.lt
          have hlt2 := B2.lt
          obtain ⟨EZ2, cz2, rfl, -, -⟩ := hown.rd
          have HO := Lib.hid hown
          clear hown
          go_wp2_with fail
          refine (concat2_any _ _ x0 x2 (by omega) (by omega) _ (HR0.out.below hT) (HR2.out.below hT)).mono ?_
          rintro e w5 ⟨v5, rfl, o5, hb⟩
          have HRZ := Lib.hid (HO.out.below hb).rd
          clear HO
          replace B0 := B0.below hb
          replace B2 := B2.below hb
          replace B1 := B1.below hb
          replace hT := below_to hT hb hT.size
          clear hb
          clear B0 B2 d0 d1 m0 m1 hlt0 hlt2
          obtain ⟨EV, cv, rfl, -, -⟩ := o5.rd
          have HRV := Lib.hid o5.rd
          clear o5
          have hlv : (x0 ++ x2).length ≤ 128 := by rw [List.length_append]; omega
          have hlv1 : 1 ≤ (x0 ++ x2).length := by rw [List.length_append]; omega
          generalize hxx : x0 ++ x2 = XX at *
          go_wp2_with fail
          refine (implGather_any _ _ XX zs hlv1 (by omega) HZP.out _ HRV.out HRZ.out).mono ?_
          rw [HZ.out]
          rintro e w6 ⟨u0, z0, u1, z1, rfl, o0, o1, ap, l0, l1, a0, a1, hb6⟩
          have hB := B1.below hb6
          have hT6 := below_to hT hb6 hT.size
          have hlt6 := B1.lt
          obtain ⟨E0, c0, rfl, -, -⟩ := o0.rd
          obtain ⟨E1, c1, rfl, -, -⟩ := o1.rd
          have HF := Lib.hid (fun u v => retSh_stored (w := w) (b := w.heap.size + 2) o0 o1 ap l0 l1 a0 a1 hT6 (by omega) hlt6 hT.size u v)
          clear o0 o1 ap a0 a1 l0 l1 hb6 hT6 B1 hT hlt6
          have r0 := hB.cell 0 _ rfl
          have r1 := hB.cell 1 _ rfl
          have f0 := hB.free 0
          have f1 := hB.free 1
          have HB := Lib.hid hB
          clear hB
          go_wp2
          refine bodyPost_ret (v := .tuple #[shV (.slice E0 z0.length c0) (.slice E1 z1.length c1), .bool (gatOk XX (mixC p x1 x3))]) (by simp [results, Tryz.results10, go_sem, *]) rfl ?_
          unfold RetMixShares
          rw [hxx]
          rw [Hok.out]
          exact HF.out _ _

end Go.Proofs.YtjajlddnhmbekaaGreat
