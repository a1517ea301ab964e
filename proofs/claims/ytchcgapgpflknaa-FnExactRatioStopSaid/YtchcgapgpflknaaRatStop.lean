/-
  Where a walk by ratios stops: both RatioStop.
-/
import Derived.Test.YtchcgapgpflknaaRatio
namespace Go.Proofs.Ytchcgapgpflknaa
open Go.RowKit
attribute [local go_sem] run_fl_add run_fl_sub run_fl_mul run_fl_quo run_up_

def hitA (l r : Nat) (x : Option Nat) : Int :=
  if ordF .f32 x (absF .f32 r) == some .gt || ordF .f32 x (absF .f32 r) == some .eq then 1
  else if ordF .f32 x (absF .f32 l) == some .lt || ordF .f32 x (absF .f32 l) == some .eq then -1 else 0
def stopF (l r : Nat) : List (Option Nat) → Nat → Int × Int
  | [], k => (k, 0)
  | x :: t, k => if hitA l r x = 0 then stopF l r t (k + 1) else (k, hitA l r x)
theorem drop_abs {y : List Nat} {k x : Nat} (h : y[k]? = some x) : (absL y).drop k = absF .f32 x :: (absL y).drop (k + 1) := by
  have hk := lt_of_get h
  have hl : k < (absL y).length := by simp [absL]; exact hk
  rw [List.drop_eq_getElem_cons hl]
  congr 1
  have : (absL y)[k]? = some (absF .f32 x) := by unfold absL; rw [List.getElem?_map, h]; rfl
  rw [List.getElem?_eq_getElem hl] at this
  exact Option.some.inj this
theorem hit_r {l r x : Nat} (h : (FloatKind.f32.format.order x r == some .gt || FloatKind.f32.format.order x r == some .eq) = true) : hitA l r (absF .f32 x) = 1 := by
  unfold hitA
  rw [← ord_abs, if_pos h]
theorem hit_l {l r x : Nat} (h : (FloatKind.f32.format.order x r == some .gt || FloatKind.f32.format.order x r == some .eq) = false) (h2 : (FloatKind.f32.format.order x l == some .lt || FloatKind.f32.format.order x l == some .eq) = true) : hitA l r (absF .f32 x) = -1 := by
  unfold hitA
  rw [← ord_abs, ← ord_abs, if_neg (by rw [h]; exact Bool.false_ne_true), if_pos h2]
theorem hit_n {l r x : Nat} (h : (FloatKind.f32.format.order x r == some .gt || FloatKind.f32.format.order x r == some .eq) = false) (h2 : (FloatKind.f32.format.order x l == some .lt || FloatKind.f32.format.order x l == some .eq) = false) : hitA l r (absF .f32 x) = 0 := by
  unfold hitA
  rw [← ord_abs, ← ord_abs, if_neg (by rw [h]; exact Bool.false_ne_true), if_neg (by rw [h2]; exact Bool.false_ne_true)]
theorem stop_hit {l r : Nat} {y : List Nat} {k x : Nat} {R : Int × Int} {z : Int} (h0 : R = stopF l r ((absL y).drop k) k) (hx : y[k]? = some x) (hh : hitA l r (absF .f32 x) = z) (hz : z ≠ 0) : R = ((k : Int), z) := by
  rw [h0, drop_abs hx, stopF, if_neg (by rw [hh]; exact hz), hh]
theorem stop_go {l r : Nat} {y : List Nat} {k x : Nat} {R : Int × Int} (h0 : R = stopF l r ((absL y).drop k) k) (hx : y[k]? = some x) (hh : hitA l r (absF .f32 x) = 0) : R = stopF l r ((absL y).drop (k + 1)) (k + 1) := by
  rw [h0, drop_abs hx, stopF, if_pos hh]
theorem stop_end {l r : Nat} {y : List Nat} {k : Nat} {R : Int × Int} (h0 : R = stopF l r ((absL y).drop k) k) (hk : k = y.length) : R = ((k : Int), 0) := by
  rw [h0, List.drop_eq_nil_of_le (by simp [absL, hk]), stopF]
def stopOk (xs : List Bool) (lo hi l r : Nat) : Bool := ratOk xs lo hi && finB l && finB r && (FloatKind.f32.format.order l r == some .lt)
def stopR (xs : List Bool) (lo hi l r : Nat) : Int × Int := if stopOk xs lo hi l r = true then stopF l r (ratR xs lo hi) 0 else (0, 0)
def RetRatioStop (xs : List Bool) (lo hi l r : Nat) (w : World) (e : Ending) (w' : World) : Prop :=
  e = .returned (.tuple #[.int .i64 (stopR xs lo hi l r).1, .int .i64 (stopR xs lo hi l r).2, .bool (stopOk xs lo hi l r)]) ∧ Below w.heap.size w w'
theorem stopR_no {xs : List Bool} {lo hi l r : Nat} (h : stopOk xs lo hi l r = false) : stopR xs lo hi l r = (0, 0) := by unfold stopR; rw [h]; rfl
theorem stopR_yes {xs : List Bool} {lo hi l r : Nat} (h : stopOk xs lo hi l r = true) : stopR xs lo hi l r = stopF l r (ratR xs lo hi) 0 := by unfold stopR; rw [if_pos h]
theorem ratR_len (xs : List Bool) (lo hi : Nat) : (ratR xs lo hi).length = xs.length := by unfold ratR; exact ratL_len _ _ _ _
theorem ret_no {xs : List Bool} {lo hi l r : Nat} (h : stopOk xs lo hi l r = false) : Ending.returned (.tuple #[.int .i64 0, .int .i64 0, .bool false]) = .returned (.tuple #[.int .i64 (stopR xs lo hi l r).1, .int .i64 (stopR xs lo hi l r).2, .bool (stopOk xs lo hi l r)]) := by rw [stopR_no h, h]
theorem ret_yes {xs : List Bool} {lo hi l r : Nat} {a b : Int} (h : stopOk xs lo hi l r = true) (hr : stopR xs lo hi l r = (a, b)) : Ending.returned (.tuple #[.int .i64 a, .int .i64 b, .bool true]) = .returned (.tuple #[.int .i64 (stopR xs lo hi l r).1, .int .i64 (stopR xs lo hi l r).2, .bool (stopOk xs lo hi l r)]) := by rw [hr, h]

set_option maxHeartbeats 3200000 in
theorem specRatioStop_any (v : Value) (xs : List Bool) (hn : xs.length ≤ 1099511627776) (lo hi l r : Nat) (w : World) (hr : Rd bV w v xs) :
    Calls Try.prog 30 #[v, fV lo, fV hi, fV l, fV r] w (RetRatioStop xs lo hi l r w) := by
  have HR := Lib.hid hr
  obtain ⟨A0, cap0, rfl, hcap0, hA0⟩ := hr
  clear hA0
  go_enter Try.func30, Try.ntmps30
  go_wp2_with fail
  refine (specRatioWalk_any _ xs hn lo hi _ HR.out).mono ?_
  rintro e w1 ⟨v1, y, rfl, hown, hyl, hy, hb⟩
  have HY := Lib.hid hy
  have HB := Lib.hid hb
  clear hy hb
  cases h1 : ratOk xs lo hi
  · have HS := Lib.hid (show stopOk xs lo hi l r = false by unfold stopOk; rw [h1]; rfl)
    go_wp2
    go_ret3
    exact ⟨ret_no HS.out, HB.out⟩
  · rw [h1, if_pos rfl] at HY
    cases h2 : finB l
    · have HS := Lib.hid (show stopOk xs lo hi l r = false by unfold stopOk; rw [h2]; simp)
      have H2 := Lib.hid h2
      clear h2 h1
      go_wp2_with (go_at_call 60; refine (l01Finite_any _ _).mono ?_; rintro e w' ⟨rfl, n, rfl⟩; rw [H2.out])
      go_ret3
      exact ⟨ret_no HS.out, below_drewN_ HB.out⟩
    cases h3 : finB r
    · have HS := Lib.hid (show stopOk xs lo hi l r = false by unfold stopOk; rw [h3]; simp)
      have H2 := Lib.hid h2
      have H3 := Lib.hid h3
      clear h2 h1 h3
      go_wp2_with fail
      refine (l01Finite_any l _).mono ?_
      rintro e w' ⟨rfl, n, rfl⟩
      rw [H2.out]
      go_wp2_with fail
      refine (l01Finite_any r _).mono ?_
      rintro e w' ⟨rfl, n2, rfl⟩
      rw [H3.out]
      go_wp2
      go_ret3
      exact ⟨ret_no HS.out, below_drewN_ HB.out⟩
    cases h4 : (FloatKind.f32.format.order l r == some .lt)
    · have HS := Lib.hid (show stopOk xs lo hi l r = false by unfold stopOk; rw [h4]; simp)
      have H2 := Lib.hid h2
      have H3 := Lib.hid h3
      clear h2 h1 h3
      go_wp2_with fail
      refine (l01Finite_any l _).mono ?_
      rintro e w' ⟨rfl, n, rfl⟩
      rw [H2.out]
      go_wp2_with fail
      refine (l01Finite_any r _).mono ?_
      rintro e w' ⟨rfl, n2, rfl⟩
      rw [H3.out]
      go_wp2
      go_ret3
      exact ⟨ret_no HS.out, below_drewN_ HB.out⟩
    have HS := Lib.hid (show stopOk xs lo hi l r = true by unfold stopOk; rw [h1, h2, h3, h4]; rfl)
    have H2 := Lib.hid h2
    have H3 := Lib.hid h3
    have hrd := hown.rd
    obtain ⟨A, cap, rfl, hcap, hA⟩ := hrd
    have HRD := Lib.hid hA
    clear h2 h1 h3 hA hown
    go_wp2_with fail
    refine (l01Finite_any l _).mono ?_
    rintro e w' ⟨rfl, n, rfl⟩
    rw [H2.out]
    go_wp2_with fail
    refine (l01Finite_any r _).mono ?_
    rintro e w' ⟨rfl, n2, rfl⟩
    rw [H3.out]
    go_wp2
    clear h4
    go_loopw [15] (fun si wr => ∃ k : Nat, k ≤ y.length ∧ si = .int .i64 k ∧ Hid (stopR xs lo hi l r = stopF l r ((absL y).drop k) k) ∧ ∃ n, w1.drewN n = wr) (fun si _ => y.length - (intOf si).toNat)
    case atStart => exact ⟨0, by omega, rfl, by unfold Hid; rw [stopR_yes HS.out, List.drop_zero, HY.out], _, by first | rfl | exact World.drewN_zero _⟩
    case round =>
      obtain ⟨k, hk, rfl, hst, q, rfl⟩ := hrel
      by_cases hlt : k < y.length
      · obtain ⟨x, hx⟩ := get_of_lt hlt
        obtain ⟨ad, rfl, hbl, hc⟩ := HRD.out k x hx
        have HX := Lib.hid hx
        clear hx
        cases b1 : (FloatKind.f32.format.order x r == some .gt || FloatKind.f32.format.order x r == some .eq)
        · cases b2 : (FloatKind.f32.format.order x l == some .lt || FloatKind.f32.format.order x l == some .eq)
          · have HN := Lib.hid (stop_go hst.out HX.out (hit_n b1 b2))
            go_wp2
            go_roundw
            case rel => exact ⟨k + 1, by omega, by go_num, HN, _, rfl⟩
            case measure => simp [intOf]; omega
          · have HN := Lib.hid (stop_hit hst.out HX.out (hit_l b1 b2) (by decide))
            go_wp2
            go_ret3
            exact ⟨ret_yes HS.out HN.out, below_drewN_ HB.out⟩
        · have HN := Lib.hid (stop_hit hst.out HX.out (hit_r b1) (by decide))
          go_wp2
          go_ret3
          exact ⟨ret_yes HS.out HN.out, below_drewN_ HB.out⟩
      · have HN := Lib.hid (stop_end hst.out (by omega))
        have HKE : Hid (k = y.length) := by unfold Hid; omega
        go_wp2
        go_ret3
        exact ⟨ret_yes HS.out (by rw [HN.out, HKE.out]), below_drewN_ HB.out⟩

set_option maxHeartbeats 3200000 in
theorem implRatioStop_any (v : Value) (xs : List Bool) (hn : xs.length ≤ 1099511627776) (lo hi l r : Nat) (w : World) (hr : Rd bV w v xs) :
    Calls Try.prog 31 #[v, fV lo, fV hi, fV l, fV r] w (RetRatioStop xs lo hi l r w) := by
  have HR := Lib.hid hr
  obtain ⟨A0, cap0, rfl, hcap0, hA0⟩ := hr
  clear hA0
  go_enter Try.func31, Try.ntmps31
  go_wp2_with fail
  refine (implRatioWalk_any _ xs hn lo hi _ HR.out).mono ?_
  rintro e w1 ⟨v1, y, rfl, hown, hyl, hy, hb⟩
  have HY := Lib.hid hy
  have HB0 := Lib.hid hb
  clear hy hb
  have hall : [l, r].all finB = (finB l && finB r) := by simp
  cases h1 : ratOk xs lo hi
  · have HS := Lib.hid (show stopOk xs lo hi l r = false by unfold stopOk; rw [h1]; rfl)
    go_wp2
    go_ret3
    exact ⟨ret_no HS.out, HB0.out⟩
  · rw [h1, if_pos rfl] at HY
    have hbw : Below w.heap.size w (w1.alloc (.cells #[fV l, fV r] 23)) := HB0.out.alloc HB0.out.size _
    have HBW := Lib.hid hbw
    clear hbw
    cases h2 : (finB l && finB r)
    · have HS := Lib.hid (show stopOk xs lo hi l r = false by unfold stopOk; rw [Bool.and_assoc (ratOk xs lo hi), h2]; simp)
      have H2 := Lib.hid (hall.trans h2)
      clear h2 h1 hall
      go_wp2_with fail
      refine (areFinite_any _ [l, r] (by simp) _ (rd_two w1 l r _)).mono ?_
      rintro e w2 ⟨rfl, n, rfl⟩
      rw [H2.out]
      go_wp2
      go_ret3
      exact ⟨ret_no HS.out, below_drewN_ HBW.out⟩
    cases h4 : (FloatKind.f32.format.order l r == some .lt)
    · have HS := Lib.hid (show stopOk xs lo hi l r = false by unfold stopOk; rw [h4]; simp)
      have H2 := Lib.hid (hall.trans h2)
      clear h2 h1 hall
      go_wp2_with fail
      refine (areFinite_any _ [l, r] (by simp) _ (rd_two w1 l r _)).mono ?_
      rintro e w2 ⟨rfl, n, rfl⟩
      rw [H2.out]
      go_wp2
      go_ret3
      exact ⟨ret_no HS.out, below_drewN_ HBW.out⟩
    have HS := Lib.hid (show stopOk xs lo hi l r = true by unfold stopOk; rw [h1, Bool.and_assoc true, h2, h4]; rfl)
    have H2 := Lib.hid (hall.trans h2)
    have hlen : y.length = xs.length := by rw [← ratR_len xs lo hi, ← HY.out]; simp [absL]
    have HLEN := Lib.hid hlen
    have hrd := hown.rd.below (below_alloc w1 (.cells #[fV l, fV r] 23))
    obtain ⟨A, cap, rfl, hcap, hA⟩ := hrd
    have HRD := Lib.hid hA
    have HB := HBW
    clear h2 h1 hall hA hown hlen
    go_wp2_with fail
    refine (areFinite_any _ [l, r] (by simp) _ (rd_two w1 l r _)).mono ?_
    rintro e w2 ⟨rfl, n, rfl⟩
    rw [H2.out]
    go_wp2
    clear h4
    go_loopw [41] (fun si wr => ∃ k : Nat, k ≤ y.length ∧ si = .int .i64 k ∧ Hid (stopR xs lo hi l r = stopF l r ((absL y).drop k) k) ∧ ∃ n, (w1.alloc (.cells #[fV l, fV r] 23)).drewN n = wr) (fun si _ => y.length - (intOf si).toNat)
    case atStart => exact ⟨0, by omega, rfl, by unfold Hid; rw [stopR_yes HS.out, List.drop_zero, HY.out], _, by first | rfl | exact World.drewN_zero _⟩
    case round =>
      obtain ⟨k, hk, rfl, hst, q, rfl⟩ := hrel
      by_cases hlt : k < y.length
      · obtain ⟨x, hx⟩ := get_of_lt hlt
        obtain ⟨ad, rfl, hbl, hc⟩ := HRD.out k x hx
        have HX := Lib.hid hx
        clear hx
        cases b1 : (FloatKind.f32.format.order x r == some .gt || FloatKind.f32.format.order x r == some .eq)
        · cases b2 : (FloatKind.f32.format.order x l == some .lt || FloatKind.f32.format.order x l == some .eq)
          · have HN := Lib.hid (stop_go hst.out HX.out (hit_n b1 b2))
            go_wp2
            go_roundw
            case rel => exact ⟨k + 1, by omega, by go_num, HN, _, rfl⟩
            case measure => simp [intOf]; omega
          · have HN := Lib.hid (stop_hit hst.out HX.out (hit_l b1 b2) (by decide))
            go_wp2
            go_ret3
            exact ⟨ret_yes HS.out HN.out, below_drewN_ HB.out⟩
        · have HN := Lib.hid (stop_hit hst.out HX.out (hit_r b1) (by decide))
          go_wp2
          go_ret3
          exact ⟨ret_yes HS.out HN.out, below_drewN_ HB.out⟩
      · have HN := Lib.hid (stop_end hst.out (by omega))
        have HKE : Hid (k = y.length) := by unfold Hid; omega
        go_wp2
        go_ret3
        exact ⟨ret_yes HS.out (by rw [HN.out, HKE.out, HLEN.out]), below_drewN_ HB.out⟩
end Go.Proofs.Ytchcgapgpflknaa
