/-
  CountShare, walked in the program and in the reference.
-/
import Derived.Test.YtjajlddnhmbekaaGreatTwoR2
import Derived.Test.YtjajlddnhmbekaaGreatInts2
import Derived.Test.YtjajlddnhmbekaaGreatMoment2
import Derived.Test.YtjajlddnhmbekaaGreatGathI
import Derived.Test.YtjajlddnhmbekaaGreatGathS
namespace Go.Proofs.YtjajlddnhmbekaaGreat
open Go.RowKit
attribute [local go_sem] run_fl_add run_fl_sub run_fl_mul run_fl_quo run_up_

def countB (cs : List Int) : Bool := cs.all fun x => inB x 0 1000000
def cntQ (S c : Int) : Option Nat := opF .quo .f32 (absF .f32 (floatOfInt .f32 c)) (absF .f32 (floatOfInt .f32 S))
def cntTo (cs : List Int) (S : Int) (k : Nat) : List (Option Nat) := (cs.take k).map (cntQ S)
theorem cntTo_snoc {cs : List Int} {S : Int} {k : Nat} {c : Int} (h : cs[k]? = some c) : cntTo cs S (k + 1) = cntTo cs S k ++ [cntQ S c] := by simp [cntTo, take_snoc h]
def cntG (xs : List Nat) (cs : List Int) : Bool := decide (1 ≤ xs.length ∧ xs.length ≤ 64) && decide (cs.length = xs.length) && countB cs && !decide (cs.sum = 0)
def cntOk (xs : List Nat) (cs : List Int) : Bool := cntG xs cs && gatOk xs (cntTo cs cs.sum cs.length)
def RetCountShare (xs : List Nat) (cs : List Int) (w : World) (e : Ending) (w' : World) : Prop :=
  RetSh (cntOk xs cs) (absL ((gatS xs (cntTo cs cs.sum cs.length)).map Prod.fst)) ((gatS xs (cntTo cs cs.sum cs.length)).map Prod.snd) w e w'
section
variable {xs : List Nat} {cs : List Int}
theorem cntOk_1 (h : ¬ (1 ≤ xs.length ∧ xs.length ≤ 64)) : cntOk xs cs = false := by unfold cntOk cntG; rw [decide_eq_false h]; rfl
theorem cntOk_2 (h : ¬ cs.length = xs.length) : cntOk xs cs = false := by unfold cntOk cntG; rw [decide_eq_false h]; simp
theorem cntOk_3 (h : countB cs = false) : cntOk xs cs = false := by unfold cntOk cntG; rw [h]; simp
theorem cntOk_4 (h : cs.sum = 0) : cntOk xs cs = false := by unfold cntOk cntG; rw [h]; simp
theorem cntOk_t (h1 : 1 ≤ xs.length ∧ xs.length ≤ 64) (h2 : cs.length = xs.length) (h3 : countB cs = true) (h4 : ¬ cs.sum = 0) : cntOk xs cs = gatOk xs (cntTo cs cs.sum cs.length) := by
  unfold cntOk cntG
  rw [decide_eq_true h1, decide_eq_true h2, h3, decide_eq_false h4]; rfl
theorem cnt_sum {k : Nat} {c : Int} (h : cs[k]? = some c) : (cs.take (k + 1)).sum = (cs.take k).sum + c := by rw [take_snoc h, List.sum_append]; simp
theorem cnt_in (h : countB cs = true) {k : Nat} {c : Int} (hc : cs[k]? = some c) : 0 ≤ c ∧ c ≤ 1000000 := inB_true (List.all_eq_true.1 h c (List.mem_of_getElem? hc))
theorem cnt_not (cs : List Int) : (cs.any fun x => !inB x 0 1000000) = !countB cs := by simp [countB, List.all_eq_not_any_not]
theorem cnt_bad {k : Nat} {c : Int} (hc : cs[k]? = some c) (h : inB c 0 1000000 = false) : countB cs = false := by
  cases e : countB cs with
  | false => rfl
  | true =>
    have := List.all_eq_true.1 e c (List.mem_of_getElem? hc)
    rw [h] at this
    cases this
theorem cnt_all {k : Nat} {c : Int} (hc : cs[k]? = some c) (h : inB c 0 1000000 = true) (ha : countB (cs.take k) = true) : countB (cs.take (k + 1)) = true := by
  unfold countB at ha ⊢
  rw [take_snoc hc, List.all_append, ha]
  simp [h]
end

theorem absL_app' (a b : List Nat) : absL (a ++ b) = absL a ++ absL b := by simp [absL]

set_option maxHeartbeats 3200000 in
set_option maxRecDepth 100000 in
theorem specCountShare_any (v : Value) (xs : List Nat) (hn : xs.length ≤ 1099511627776) (c : Value) (cs : List Int) (hm : cs.length ≤ 1099511627776) (w : World) (hr0 : Rd fV w v xs) (hr1 : Rd iV w c cs) :
    Calls Tryz.prog 51 #[v, c] w (RetCountShare xs cs w) := by
  have HR0 := Lib.hid hr0
  obtain ⟨A0, cap0, rfl, hcap0, hA0⟩ := hr0
  have HA0 := Lib.hid hA0
  clear hA0
  have HR1 := Lib.hid hr1
  obtain ⟨A1, cap1, rfl, hcap1, hA1⟩ := hr1
  have HA1 := Lib.hid hA1
  clear hA1
  go_enter Tryz.func51, Tryz.ntmps51
  have hz1 : (xs.length : Int) ≤ 1099511627776 := by omega
  by_cases hl : 1 ≤ xs.length ∧ xs.length ≤ 64
  case neg =>
    have Ho := Lib.hid (cntOk_1 (cs := cs) hl)
    go_upto_region 2 with fail
    have B1 : BoxAt (w.alloc (.cells ([.slice none 0 0, .slice none 0 0] : List Value).toArray 26)) w.heap.size [.slice none 0 0, .slice none 0 0] := BoxAt.new w _ _
    have hT : Below w.heap.size w (w.alloc (.cells ([.slice none 0 0, .slice none 0 0] : List Value).toArray 26)) := below_alloc _ _
    generalize hg : w.alloc _ = w2 at *
    clear hg
    by_cases h1 : xs.length < 1
    · clear hl
      have d0 := B1.cell 0 _ rfl
      have d1 := B1.cell 1 _ rfl
      have f0 := B1.free 0
      have f1 := B1.free 1
      have HT := Lib.hid hT
      clear hT
      go_wp2
      refine bodyPost_ret (v := .tuple #[shV (.slice none 0 0) (.slice none 0 0), .bool false]) (by simp [results, Tryz.results51, go_sem, *]) rfl ?_
      unfold RetCountShare
      rw [Ho.out]
      exact RetSh.none ((HT.out.setCell (by first | (simp; done) | (simp; omega)) _).setCell (by first | (simp; done) | (simp; omega)) _)
    have h1' : 1 ≤ xs.length := by omega
    have h64 : 64 < xs.length := by omega
    clear hl h1
    have d0 := B1.cell 0 _ rfl
    have d1 := B1.cell 1 _ rfl
    have f0 := B1.free 0
    have f1 := B1.free 1
    have HT := Lib.hid hT
    clear hT
    go_wp2
    refine bodyPost_ret (v := .tuple #[shV (.slice none 0 0) (.slice none 0 0), .bool false]) (by simp [results, Tryz.results51, go_sem, *]) rfl ?_
    unfold RetCountShare
    rw [Ho.out]
    exact RetSh.none ((HT.out.setCell (by first | (simp; done) | (simp; omega)) _).setCell (by first | (simp; done) | (simp; omega)) _)
  have HL := Lib.hid hl
  have h64 : xs.length ≤ 64 := hl.2
  have h1 : 1 ≤ xs.length := hl.1
  clear hl
  by_cases hlen : cs.length = xs.length
  case neg =>
    have Ho := Lib.hid (cntOk_2 hlen)
    have hne : ((cs.length : Int) != (xs.length : Int)) = true := bne_iff_ne.2 (by omega)
    clear hlen
    go_upto_region 2 with fail
    have B1 : BoxAt (w.alloc (.cells ([.slice none 0 0, .slice none 0 0] : List Value).toArray 26)) w.heap.size [.slice none 0 0, .slice none 0 0] := BoxAt.new w _ _
    have hT : Below w.heap.size w (w.alloc (.cells ([.slice none 0 0, .slice none 0 0] : List Value).toArray 26)) := below_alloc _ _
    generalize hg : w.alloc _ = w2 at *
    clear hg
    have d0 := B1.cell 0 _ rfl
    have d1 := B1.cell 1 _ rfl
    have f0 := B1.free 0
    have f1 := B1.free 1
    have HT := Lib.hid hT
    clear hT
    go_wp2
    refine bodyPost_ret (v := .tuple #[shV (.slice none 0 0) (.slice none 0 0), .bool false]) (by simp [results, Tryz.results51, go_sem, *]) rfl ?_
    unfold RetCountShare
    rw [Ho.out]
    exact RetSh.none ((HT.out.setCell (by first | (simp; done) | (simp; omega)) _).setCell (by first | (simp; done) | (simp; omega)) _)
  have HLEN := Lib.hid hlen
  have h64' : cs.length ≤ 64 := by omega
  have hne : ((cs.length : Int) != (xs.length : Int)) = false := by rw [hlen]; simp
  clear hlen
  go_upto_region 2 with fail
  have B1 : BoxAt (w.alloc (.cells ([.slice none 0 0, .slice none 0 0] : List Value).toArray 26)) w.heap.size [.slice none 0 0, .slice none 0 0] := BoxAt.new w _ _
  have hT : Below w.heap.size w (w.alloc (.cells ([.slice none 0 0, .slice none 0 0] : List Value).toArray 26)) := below_alloc _ _
  generalize hg : w.alloc _ = w2 at *
  clear hg
  go_wp2
  go_loopw [7, 28] (fun so si wr => ∃ (k : Nat) (S : Int), k ≤ cs.length ∧ si = .int .i64 k ∧ so = .int .i64 S ∧ 0 ≤ S ∧ S ≤ 1000000 * k ∧ Hid (S = (cs.take k).sum) ∧ w2 = wr ∧ Hid (countB (cs.take k) = true)) (fun _ si _ => cs.length - (intOf si).toNat)
  case atStart => exact ⟨0, 0, by omega, rfl, rfl, by omega, by omega, rfl, rfl, rfl⟩
  case round =>
    obtain ⟨k, S, hk, rfl, rfl, hs0, hs1, hS, rfl, hall⟩ := hrel
    by_cases hlt : k < cs.length
    · obtain ⟨x, hx⟩ := get_of_lt hlt
      obtain ⟨ad, rfl, hbl, hc0⟩ := HA1.out k x hx
      have hc : w2.cell? (ad.add k) = some (iV x) := by rw [hT.cell (by rw [add_block]; exact hbl)]; exact hc0
      have HV := Lib.hid (cnt_sum hx)
      have HX := Lib.hid hx
      clear hx hc0
      go_wp2_with fail
      refine (l00In_any _ _ _ _).mono ?_
      rintro e w4 ⟨rfl, rfl⟩
      cases hin : inB x 0 1000000
      · have Ho := Lib.hid (cntOk_3 (xs := xs) (cnt_bad HX.out hin))
        clear hin
        have d0 := B1.cell 0 _ rfl
        have d1 := B1.cell 1 _ rfl
        have f0 := B1.free 0
        have f1 := B1.free 1
        have HT := Lib.hid hT
        clear hT
        go_wp2
        refine bodyPost_ret (v := .tuple #[shV (.slice none 0 0) (.slice none 0 0), .bool false]) (by simp [results, Tryz.results51, go_sem, *]) rfl ?_
        unfold RetCountShare
        rw [Ho.out]
        exact RetSh.none ((HT.out.setCell (by first | (simp; done) | (simp; omega)) _).setCell (by first | (simp; done) | (simp; omega)) _)
      have HALL := Lib.hid (cnt_all HX.out hin hall.out)
      obtain ⟨hx0, hx1⟩ := inB_true hin
      clear hin
      go_wp2
      go_roundw
      case rel => exact ⟨k + 1, S + x, by omega, by go_num, by go_num, by omega, by omega, by unfold Hid; rw [HV.out, hS.out], by first | rfl | trivial, HALL⟩
      case measure => simp [intOf]; omega
    · have hke : k = cs.length := by omega
      have HSS : Hid (S = cs.sum) := by unfold Hid; rw [hS.out, hke, List.take_length]
      have H3 : Hid (countB cs = true) := by have h := hall.out; rw [hke, List.take_length] at h; exact h
      clear hall
      clear hke hS
      by_cases hz : S = 0
      case pos =>
        have Ho := Lib.hid (cntOk_4 (xs := xs) (HSS.out.symm.trans hz))
        subst hz
        have d0 := B1.cell 0 _ rfl
        have d1 := B1.cell 1 _ rfl
        have f0 := B1.free 0
        have f1 := B1.free 1
        have HT := Lib.hid hT
        clear hT
        go_wp2
        refine bodyPost_ret (v := .tuple #[shV (.slice none 0 0) (.slice none 0 0), .bool false]) (by simp [results, Tryz.results51, go_sem, *]) rfl ?_
        unfold RetCountShare
        rw [Ho.out]
        exact RetSh.none ((HT.out.setCell (by first | (simp; done) | (simp; omega)) _).setCell (by first | (simp; done) | (simp; omega)) _)
      have Hok := Lib.hid (cntOk_t HL.out HLEN.out H3.out (fun e => hz (HSS.out.trans e)))
      have hzb : (S == 0) = false := beq_eq_false_iff_ne.2 hz
      clear hz
      go_wp2
      go_loopw [9, 51] (fun so si wr => ∃ (k : Nat) (zs : List Nat), k ≤ cs.length ∧ si = .int .i64 k ∧ Own fV 28 wr w2.heap.size so zs ∧ zs.length = k ∧ Hid (absL zs = cntTo cs S k) ∧ Below w2.heap.size w2 wr) (fun _ si _ => cs.length - (intOf si).toNat)
      case atStart => exact ⟨0, [], by omega, rfl, own_nil_new fV _ _, rfl, rfl, (Below.refl _ _).alloc (Nat.le_refl _) _⟩
      case round =>
        obtain ⟨k, zs, hk, rfl, hown, hzl, hz, hb⟩ := hrel
        have HZL := Lib.hid hzl
        clear hzl
        by_cases hlt : k < cs.length
        · obtain ⟨x, hx⟩ := get_of_lt hlt
          obtain ⟨ad, rfl, hbl, hc0⟩ := HA1.out k x hx
          have hTr : Below w.heap.size w wr := hT.trans (hb.mono hT.size)
          have hc : wr.cell? (ad.add k) = some (iV x) := by rw [hTr.cell (by rw [add_block]; exact hbl)]; exact hc0
          have HV := Lib.hid (cntTo_snoc (S := S) hx)
          have hz' := hb.size
          have hzl' : zs.length ≤ 64 := by rw [HZL.out]; omega
          clear hx hc0
          go_wp2_with (at_builtin; go_loud (refine elF_.app (fun _ => rfl) _ rfl _ _ rfl w2.heap.size _ zs rfl (Own.alloc (Own.drewN hown _) _) _ _ rfl (rd_one fV _ _ _) (by omega) (by simp; omega) (by simp; omega) ?_))
          intro v' w' ho hg hbb hp
          go_wp2
          go_roundw
          case rel => exact ⟨k + 1, _, by omega, by go_num, ho, by rw [List.length_append, HZL.out]; rfl, by unfold Hid; rw [HV.out, absL_app', hz.out]; simp [absL, cntQ, abs_flR .quo rfl], ((below_drewN' _ hb).alloc (by simpa using hz') _).trans hbb⟩
          case measure => simp [intOf]; omega
        · have hke : k = cs.length := by omega
          replace B1 := B1.below hb
          replace hT := below_to hT hb hT.size
          have HZ : Hid (absL zs = cntTo cs cs.sum cs.length) := by unfold Hid; rw [← hke, ← HSS.out]; exact hz.out
          have hzl' : zs.length = cs.length := by rw [HZL.out]; exact hke
          have HZP := Lib.hid hzl'
          clear hke hzl' hz hb
          obtain ⟨EZ, cz, rfl, -, -⟩ := hown.rd
          have HRZ := Lib.hid hown.rd
          clear hown
          go_wp2_with fail
          refine (l05Gather_any _ _ xs zs (by omega) (by rw [HZP.out, HLEN.out]) _ (HR0.out.below hT) HRZ.out).mono ?_
          rw [HZ.out]
          rintro e w6 ⟨u0, z0, u1, z1, rfl, o0, o1, ap, l0, l1, a0, a1, hb6⟩
          have hB := B1.below hb6
          have hT6 := below_to hT hb6 hT.size
          have hlt6 := B1.lt
          obtain ⟨E0, c0, rfl, -, -⟩ := o0.rd
          obtain ⟨E1, c1, rfl, -, -⟩ := o1.rd
          have HF := Lib.hid (fun u v => retSh_stored (w := w) (b := w.heap.size) o0 o1 ap l0 l1 a0 a1 hT6 (by omega) hlt6 hT.size u v)
          clear o0 o1 ap a0 a1 l0 l1 hb6 hT6 B1 hT hlt6
          have r0 := hB.cell 0 _ rfl
          have r1 := hB.cell 1 _ rfl
          have f0 := hB.free 0
          have f1 := hB.free 1
          have HB := Lib.hid hB
          clear hB
          go_wp2
          refine bodyPost_ret (v := .tuple #[shV (.slice E0 z0.length c0) (.slice E1 z1.length c1), .bool (gatOk xs (cntTo cs cs.sum cs.length))]) (by simp [results, Tryz.results51, go_sem, *]) rfl ?_
          unfold RetCountShare
          rw [Hok.out]
          exact HF.out _ _
end Go.Proofs.YtjajlddnhmbekaaGreat
