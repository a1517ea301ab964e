/-
  For every list: the program's RanksOf returns what the reference's returns. No condition.
-/
import Derived.Test.YtepiioegiicebaaRanks
import Derived.Test.YtepiioegiicebaaSample
import Derived.Test.YtepiioegiicebaaPost
namespace Go.Proofs.Ytepiioegiicebaa
open Go.RowKit

def rkL (xs : List Int) : List Int := if smpB xs then ranks xs else []
def RetRanks (xs : List Int) (w : World) (e : Ending) (w' : World) : Prop :=
  ∃ v', e = .returned (.tuple #[v', .bool (smpB xs)]) ∧ Own iV 2 w' w.heap.size v' (rkL xs) ∧ Below w.heap.size w w'
theorem smp_len {xs : List Int} (h : smpB xs = true) : xs.length ≤ 40 := by
  unfold smpB at h
  simp only [Bool.and_eq_true, decide_eq_true_eq] at h
  exact h.1.2
theorem rkL_len (xs : List Int) : (rkL xs).length ≤ 40 := by
  unfold rkL
  cases h : smpB xs
  · simp
  · have := smp_len h
    simp only [if_true]; rw [ranks_len]; exact this

theorem specRanks_any (v : Value) (xs : List Int) (hn : xs.length ≤ 1099511627776) (w : World) (hr : Rd iV w v xs) :
    Calls Try.prog 31 #[v] w (RetRanks xs w) := by
  have HR := Lib.hid hr
  obtain ⟨A, cap, rfl, hcap, hA⟩ := hr
  clear hA
  cases hs : smpB xs
  · go_enter Try.func31, Try.ntmps31
    go_wp2_with (go_at_call 60; refine (l06Sample_any _ xs hn _ HR.out).mono ?_; rintro e w' ⟨rfl, hd⟩; rw [hs]; have hb := below_of_drew ⟨0, hd⟩; clear hd)
    go_ret2
    exact ⟨_, (by rw [hs]; rfl), by unfold rkL; rw [hs]; exact Own.nil, hb⟩
  · have hl := smp_len hs
    go_enter Try.func31, Try.ntmps31
    go_wp2_with (first | (go_at_call 60; refine (l06Sample_any _ xs hn _ HR.out).mono ?_; rintro e w' ⟨rfl, hd⟩; rw [hs]; have hb := below_of_drew ⟨0, hd⟩; clear hd) | (go_at_call 61; refine (l06Ranks_any _ xs (by omega) _ (HR.out.below hb)).mono ?_; rintro e w2 ⟨v', rfl, ho, hb2⟩))
    go_ret2
    exact ⟨_, (by rw [hs]; rfl), by unfold rkL; rw [hs]; exact ho.base_ hb.size, below_to hb hb2 hb.size⟩

theorem implRanks_any (v : Value) (xs : List Int) (hn : xs.length ≤ 1099511627776) (w : World) (hr : Rd iV w v xs) :
    Calls Try.prog 33 #[v] w (RetRanks xs w) := by
  have HR := Lib.hid hr
  obtain ⟨A, cap, rfl, hcap, hA⟩ := hr
  clear hA
  cases hs : smpB xs
  · go_enter Try.func33, Try.ntmps33
    go_wp2_with (go_at_call 62; refine (isSample_any _ xs hn _ HR.out).mono ?_; rintro e w' ⟨rfl, hd⟩; rw [hs]; have hb := below_of_drew hd; clear hd)
    go_ret2
    exact ⟨_, (by rw [hs]; rfl), by unfold rkL; rw [hs]; exact Own.nil, hb⟩
  · have hl := smp_len hs
    go_enter Try.func33, Try.ntmps33
    go_wp2_with (first | (go_at_call 62; refine (isSample_any _ xs hn _ HR.out).mono ?_; rintro e w' ⟨rfl, hd⟩; rw [hs]; have hb := below_of_drew hd; clear hd) | (go_at_call 63; refine (ranksOf_any _ xs (by omega) _ (HR.out.below hb)).mono ?_; rintro e w2 ⟨v', rfl, ho, hb2⟩))
    go_ret2
    exact ⟨_, (by rw [hs]; rfl), by unfold rkL; rw [hs]; exact ho.base_ hb.size, below_to hb hb2 hb.size⟩

set_option maxHeartbeats 1000000 in
theorem lawRanksOf_any (va : Value) (xa : List Int) (w : World) (hra : Rd iV w va xa) :
    Calls Try.prog 9 #[va] w fun e w' => e = .returned (.bool true) ∧ Below w.heap.size w w' := by
  have HRa := Lib.hid hra
  obtain ⟨Aa, capa, rfl, hcapa, hAa⟩ := hra
  clear hAa
  by_cases hna : 1048576 < xa.length
  · go_enter Try.func9, Try.ntmps9
    go_wp2
    go_ret
    exact ⟨rfl, Below.refl _ _⟩
  have hma : xa.length ≤ 1099511627776 := by omega
  go_enter Try.func9, Try.ntmps9
  have hT := Below.refl w.heap.size w
  go_wp2_with fail
  refine (toInt64S_any _ xa _ (HRa.out.below hT) hma).mono ?_
  rintro e w1 ⟨via, rfl, ia, hb, hform⟩
  clear hform
  replace ia := ia.base_ hT.size
  replace hT := below_to hT hb hT.size
  clear hb
  go_wp2_with fail
  refine (specRanks_any _ xa hma _ ia.rd).mono ?_
  rintro e w2 ⟨vow0, rfl, ow0, hb⟩
  have AP_ia_ow0 := Lib.hid (Own.apart ia (Nat.le_refl _) ow0)
  replace ow0 := ow0.base_ hT.size
  replace ia := ia.below hb
  replace hT := below_to hT hb hT.size
  clear hb
  clear ia
  go_wp2_with fail
  refine (toInt64S_any _ xa _ (HRa.out.below hT) hma).mono ?_
  rintro e w3 ⟨vxa_, rfl, xa_, hb, hform⟩
  clear hform
  have AP_ow0_xa_ := Lib.hid (Own.apart ow0 (Nat.le_refl _) xa_)
  replace xa_ := xa_.base_ hT.size
  replace ow0 := ow0.below hb
  replace hT := below_to hT hb hT.size
  clear hb
  go_wp2_with fail
  refine (implRanks_any _ xa hma _ xa_.rd).mono ?_
  rintro e w4 ⟨vog0, rfl, og0, hb⟩
  have AP_ow0_og0 := Lib.hid (Own.apart ow0 (Nat.le_refl _) og0)
  have AP_xa__og0 := Lib.hid (Own.apart xa_ (Nat.le_refl _) og0)
  replace og0 := og0.base_ hT.size
  replace ow0 := ow0.below hb
  replace xa_ := xa_.below hb
  replace hT := below_to hT hb hT.size
  clear hb
  go_wp2_with fail
  refine (eqInt64S_any _ _ _ _ _ og0.rd ow0.rd (by have := rkL_len xa; omega) (by have := rkL_len xa; omega) rfl).mono ?_
  rintro e w5 ⟨rfl, hd⟩
  have hb := below_of_drew hd
  clear hd
  replace ow0 := ow0.below hb
  replace xa_ := xa_.below hb
  replace og0 := og0.below hb
  replace hT := below_to hT hb hT.size
  clear hb
  go_wp2_with fail
  refine (toInt64S_any _ xa _ (HRa.out.below hT) hma).mono ?_
  rintro e w6 ⟨vta, rfl, ta, hb, hform⟩
  clear hform
  have AP_ow0_ta := Lib.hid (Own.apart ow0 (Nat.le_refl _) ta)
  have AP_xa__ta := Lib.hid (Own.apart xa_ (Nat.le_refl _) ta)
  have AP_og0_ta := Lib.hid (Own.apart og0 (Nat.le_refl _) ta)
  replace ta := ta.base_ hT.size
  replace ow0 := ow0.below hb
  replace xa_ := xa_.below hb
  replace og0 := og0.below hb
  replace hT := below_to hT hb hT.size
  clear hb
  go_wp2_with fail
  refine (eqInt64S_any _ _ _ _ _ xa_.rd ta.rd (by omega) (by omega) rfl).mono ?_
  rintro e w7 ⟨rfl, hd⟩
  have hb := below_of_drew hd
  clear hd
  replace ow0 := ow0.below hb
  replace xa_ := xa_.below hb
  replace og0 := og0.below hb
  replace ta := ta.below hb
  replace hT := below_to hT hb hT.size
  clear hb
  clear ta
  go_wp2_with fail
  refine (markInt64S_any _ _ 1 (by omega) (by omega) w.heap.size _ xa_ (by omega) hT.size).mono ?_
  rintro e w8 ⟨rfl, om, hg⟩
  replace ow0 := ow0.kept hg AP_ow0_xa_.out
  replace og0 := og0.kept hg (apart_symm AP_xa__og0.out)
  replace hT := below_mark hT hg xa_.lt (Nat.le_refl _)
  clear xa_ hg
  have xa_ := om
  clear om
  go_wp2_with fail
  refine (eqInt64S_any _ _ _ _ _ og0.rd ow0.rd (by have := rkL_len xa; omega) (by have := rkL_len xa; omega) rfl).mono ?_
  rintro e w9 ⟨rfl, hd⟩
  have hb := below_of_drew hd
  clear hd
  replace ow0 := ow0.below hb
  replace xa_ := xa_.below hb
  replace og0 := og0.below hb
  replace hT := below_to hT hb hT.size
  clear hb
  go_wp2_with fail
  refine (markInt64S_any _ _ 1 (by omega) (by omega) w.heap.size _ og0 (by have := rkL_len xa; omega) hT.size).mono ?_
  rintro e w10 ⟨rfl, om, hg⟩
  replace ow0 := ow0.kept hg AP_ow0_og0.out
  replace xa_ := xa_.kept hg AP_xa__og0.out
  replace hT := below_mark hT hg og0.lt (Nat.le_refl _)
  clear og0 hg
  have og0 := om
  clear om
  go_wp2_with fail
  refine (heldInt64S_any _ (rkL xa).length 1 (by omega) (by omega) _ og0.rd (by have := rkL_len xa; omega)).mono ?_
  rintro e w11 ⟨rfl, rfl⟩
  go_wp2_with fail
  refine (toInt64S_any _ xa _ (HRa.out.below hT) hma).mono ?_
  rintro e w12 ⟨vja, rfl, ja, hb, hform⟩
  clear hform
  have AP_ow0_ja := Lib.hid (Own.apart ow0 (Nat.le_refl _) ja)
  have AP_xa__ja := Lib.hid (Own.apart xa_ (Nat.le_refl _) ja)
  have AP_og0_ja := Lib.hid (Own.apart og0 (Nat.le_refl _) ja)
  replace ja := ja.base_ hT.size
  replace ow0 := ow0.below hb
  replace xa_ := xa_.below hb
  replace og0 := og0.below hb
  replace hT := below_to hT hb hT.size
  clear hb
  go_wp2_with fail
  refine (implRanks_any _ xa hma _ ja.rd).mono ?_
  rintro e w13 ⟨voh0, rfl, oh0, hb⟩
  have AP_ow0_oh0 := Lib.hid (Own.apart ow0 (Nat.le_refl _) oh0)
  have AP_xa__oh0 := Lib.hid (Own.apart xa_ (Nat.le_refl _) oh0)
  have AP_og0_oh0 := Lib.hid (Own.apart og0 (Nat.le_refl _) oh0)
  have AP_ja_oh0 := Lib.hid (Own.apart ja (Nat.le_refl _) oh0)
  replace oh0 := oh0.base_ hT.size
  replace ow0 := ow0.below hb
  replace xa_ := xa_.below hb
  replace og0 := og0.below hb
  replace ja := ja.below hb
  replace hT := below_to hT hb hT.size
  clear hb
  clear ja
  go_wp2_with fail
  refine (eqInt64S_any _ _ _ _ _ oh0.rd ow0.rd (by have := rkL_len xa; omega) (by have := rkL_len xa; omega) rfl).mono ?_
  rintro e w14 ⟨rfl, hd⟩
  have hb := below_of_drew hd
  clear hd
  replace ow0 := ow0.below hb
  replace xa_ := xa_.below hb
  replace og0 := og0.below hb
  replace oh0 := oh0.below hb
  replace hT := below_to hT hb hT.size
  clear hb
  go_wp2_with fail
  refine (heldInt64S_any _ (rkL xa).length 1 (by omega) (by omega) _ og0.rd (by have := rkL_len xa; omega)).mono ?_
  rintro e w15 ⟨rfl, rfl⟩
  go_wp2
  go_ret
  exact ⟨rfl, hT⟩
end Go.Proofs.Ytepiioegiicebaa
