/-
  Wealth by bets: both BetWealth.
-/
import Derived.Test.YtobheippncjjiaaMean
import Derived.Test.YtobheippncjjiaaBools
import Derived.Test.YtobheippncjjiaaApp
namespace Go.Proofs.Ytobheippncjjiaa
open Go.RowKit
attribute [local go_sem] run_fl_add run_fl_sub run_fl_mul run_fl_quo run_up_

def oneN : Option Nat := some 1065353216
theorem abs_one : absF .f32 1065353216 = oneN := by decide
def betStep (sh st : Option Nat) (s : Option Nat) (b : Bool) : Option Nat :=
  if b then opF .mul .f32 s (opF .add .f32 oneN (opF .mul .f32 st (opF .sub .f32 oneN sh))) else opF .mul .f32 s (opF .sub .f32 oneN (opF .mul .f32 st sh))
def betTo (sh st : Option Nat) (xs : List Bool) (k : Nat) : Option Nat := (xs.take k).foldl (betStep sh st) oneN
def betL (sh st : Option Nat) (xs : List Bool) (k : Nat) : List (Option Nat) := (List.range k).map fun i => betTo sh st xs (i + 1)
theorem betTo_succ (sh st : Option Nat) {xs : List Bool} {k : Nat} {x : Bool} (h : xs[k]? = some x) : betTo sh st xs (k + 1) = betStep sh st (betTo sh st xs k) x := by simp [betTo, take_snoc h]
theorem betL_succ (sh st : Option Nat) (xs : List Bool) (k : Nat) : betL sh st xs (k + 1) = betL sh st xs k ++ [betTo sh st xs (k + 1)] := by simp [betL, List.range_succ]
theorem betL_len (sh st : Option Nat) (xs : List Bool) (k : Nat) : (betL sh st xs k).length = k := by simp [betL]
def betOk1 (xs : List Bool) (sh st : Nat) : Bool := decide (1 ≤ xs.length ∧ xs.length ≤ 256) && partB sh && partB st
def betR (xs : List Bool) (sh st : Nat) : List (Option Nat) := betL (absF .f32 sh) (absF .f32 st) xs xs.length
def betOk (xs : List Bool) (sh st : Nat) : Bool := betOk1 xs sh st && (betR xs sh st).all finA
def RetBetWealth (xs : List Bool) (sh st : Nat) (w : World) (e : Ending) (w' : World) : Prop :=
  ∃ v y, e = .returned (.tuple #[v, .bool (betOk xs sh st)]) ∧ Own fV 39 w' w.heap.size v y ∧ y.length ≤ 1099511627776 ∧ absL y = (if betOk xs sh st = true then betR xs sh st else []) ∧ Below w.heap.size w w'
theorem all_fin (y : List Nat) : y.all finB = (absL y).all finA := by
  unfold absL
  rw [List.all_map]
  congr 1
  funext b
  exact fin_abs b
theorem betOk_f1 {xs : List Bool} {sh st : Nat} (h : betOk1 xs sh st = false) : betOk xs sh st = false := by unfold betOk; rw [h]; rfl
theorem betOk_t {xs : List Bool} {sh st : Nat} (h : betOk1 xs sh st = true) : betOk xs sh st = (betR xs sh st).all finA := by unfold betOk; rw [h]; rfl
theorem absL_append' (a b : List Nat) : absL (a ++ b) = absL a ++ absL b := by simp [absL]

theorem l06Bits_any (v : Value) (xs : List Bool) (hn : xs.length ≤ 1099511627776) (w : World) (hr : Rd bV w v xs) :
    Calls Try.prog 65 #[v] w fun e w' => e = .returned (.bool (decide (1 ≤ xs.length ∧ xs.length ≤ 256))) ∧ w = w' := by
  obtain ⟨A, cap, rfl, hcap, hA⟩ := hr
  clear hA
  by_cases h1 : 1 ≤ xs.length
  · by_cases h2 : xs.length ≤ 256
    all_goals
      go_enter Try.func65, Try.ntmps65
      go_wp2
      go_ret
      exact ⟨ret_bool (by rw [Bool.eq_iff_iff]; simp; omega), rfl⟩
  · go_enter Try.func65, Try.ntmps65
    go_wp2
    go_ret
    exact ⟨ret_bool (by first | rfl | (symm; apply decide_eq_false; omega)), rfl⟩
theorem areBits_any (v : Value) (xs : List Bool) (hn : xs.length ≤ 1099511627776) (w : World) (hr : Rd bV w v xs) :
    Calls Try.prog 68 #[v] w fun e w' => e = .returned (.bool (decide (1 ≤ xs.length ∧ xs.length ≤ 256))) ∧ w = w' := by
  obtain ⟨A, cap, rfl, hcap, hA⟩ := hr
  clear hA
  by_cases h1 : 1 ≤ xs.length
  · by_cases h2 : xs.length ≤ 256
    all_goals
      go_enter Try.func68, Try.ntmps68
      go_wp2
      go_ret
      exact ⟨ret_bool (by rw [Bool.eq_iff_iff]; simp; omega), rfl⟩
  · go_enter Try.func68, Try.ntmps68
    go_wp2
    go_ret
    exact ⟨ret_bool (by first | rfl | (symm; apply decide_eq_false; omega)), rfl⟩
/-- l02List gives a list of finite numbers back. -/
theorem l02List_any (v : Value) (y : List Nat) (hn : y.length ≤ 1099511627776) (w : World) (hr : Rd fV w v y) :
    Calls Try.prog 67 #[v] w fun e w' => e = .returned (.tuple #[if y.all finB = true then v else .slice none 0 0, .bool (y.all finB)]) ∧ ∃ n, w.drewN n = w' := by
  have HR := Lib.hid hr
  obtain ⟨A, cap, rfl, hcap, hA⟩ := hr
  clear hA
  cases h : y.all finB
  all_goals
    have H := Lib.hid h
    clear h
    go_enter Try.func67, Try.ntmps67
    go_wp2_with (go_at_call 98; refine (l02Finite_any _ y hn _ HR.out).mono ?_; rintro e w' ⟨rfl, n, rfl⟩; rw [H.out])
    go_ret2
    exact ⟨rfl, _, rfl⟩
theorem below_alloc' (w : World) (o : Obj) : Below w.heap.size w (w.alloc o) := (Below.refl _ _).alloc (Nat.le_refl _) o
theorem rd_two (w : World) (x y : Nat) (E : TypeId) : Rd fV (w.alloc (.cells #[fV x, fV y] E)) (.slice (some ⟨w.heap.size, 0, none⟩) 2 2) [x, y] :=
  ⟨_, 2, rfl, Nat.le_refl _, fun k z hk => by
    match k, hk with
    | 0, hk => simp at hk; subst hk; exact ⟨_, rfl, by simp, by simp [Addr.add]⟩
    | 1, hk => simp at hk; subst hk; exact ⟨_, rfl, by simp, by simp [Addr.add]⟩⟩

set_option maxHeartbeats 1600000 in
theorem specBetWealth_any (v : Value) (xs : List Bool) (hn : xs.length ≤ 1099511627776) (sh st : Nat) (w : World) (hr : Rd bV w v xs) :
    Calls Try.prog 28 #[v, fV sh, fV st] w (RetBetWealth xs sh st w) := by
  have hr1 := hr
  have HR1 := Lib.hid hr1
  obtain ⟨A1, cap1, rfl, hcap1, hA1⟩ := hr1
  have HA1 := Lib.hid hA1
  clear hA1
  have HR := Lib.hid hr
  clear hr
  cases h0 : decide (1 ≤ xs.length ∧ xs.length ≤ 256)
  · have H := Lib.hid h0
    have Ho := Lib.hid (betOk_f1 (sh := sh) (st := st) (show betOk1 xs sh st = false by unfold betOk1; rw [h0]; rfl))
    clear h0
    go_enter Try.func28, Try.ntmps28
    go_wp2_with (go_at_call 65; refine (l06Bits_any _ xs hn _ HR.out).mono ?_; rintro e w1 ⟨rfl, rfl⟩; rw [H.out])
    go_ret2
    exact ⟨_, [], by rw [Ho.out] <;> rfl, Own.nil, by simp, by rw [Ho.out]; rfl, Below.refl _ _⟩
  · cases h1 : partB sh
    · have H := Lib.hid h0
      have H1 := Lib.hid h1
      have Ho := Lib.hid (betOk_f1 (st := st) (show betOk1 xs sh st = false by unfold betOk1; rw [h1]; simp))
      clear h0 h1
      go_enter Try.func28, Try.ntmps28
      go_wp2_with (first | (go_at_call 65; refine (l06Bits_any _ xs hn _ HR.out).mono ?_; rintro e w1 ⟨rfl, rfl⟩; rw [H.out]) | (go_at_call 66; refine (l02Part_any sh _).mono ?_; rintro e w1 ⟨rfl, rfl⟩; rw [H1.out]))
      go_ret2
      exact ⟨_, [], by rw [Ho.out] <;> rfl, Own.nil, by simp, by rw [Ho.out]; rfl, Below.refl _ _⟩
    · cases h2 : partB st
      · have H := Lib.hid h0
        have H1 := Lib.hid h1
        have H2 := Lib.hid h2
        have Ho := Lib.hid (betOk_f1 (show betOk1 xs sh st = false by unfold betOk1; rw [h2]; simp))
        clear h0 h1 h2
        go_enter Try.func28, Try.ntmps28
        go_wp2_with fail
        refine (l06Bits_any _ xs hn _ HR.out).mono ?_
        rintro e w1 ⟨rfl, rfl⟩
        rw [H.out]
        go_wp2_with fail
        refine (l02Part_any sh _).mono ?_
        rintro e w1 ⟨rfl, rfl⟩
        rw [H1.out]
        go_wp2_with fail
        refine (l02Part_any st _).mono ?_
        rintro e w1 ⟨rfl, rfl⟩
        rw [H2.out]
        go_wp2
        go_ret2
        exact ⟨_, [], by rw [Ho.out] <;> rfl, Own.nil, by simp, by rw [Ho.out]; rfl, Below.refl _ _⟩
      · have hlen : xs.length ≤ 256 := (of_decide_eq_true h0).2
        have H := Lib.hid h0
        have H1 := Lib.hid h1
        have H2 := Lib.hid h2
        have Ho := Lib.hid (betOk_t (show betOk1 xs sh st = true by unfold betOk1; rw [h0, h1, h2]; rfl))
        clear h0 h1 h2
        go_enter Try.func28, Try.ntmps28
        go_wp2_with fail
        refine (l06Bits_any _ xs hn _ HR.out).mono ?_
        rintro e w1 ⟨rfl, rfl⟩
        rw [H.out]
        go_wp2_with fail
        refine (l02Part_any sh _).mono ?_
        rintro e w1 ⟨rfl, rfl⟩
        rw [H1.out]
        go_wp2_with fail
        refine (l02Part_any st _).mono ?_
        rintro e w1 ⟨rfl, rfl⟩
        rw [H2.out]
        go_wp2
        go_loopw [8, 9, 10] (fun so ss si wr => ∃ (k b : Nat) (ys : List Nat), k ≤ xs.length ∧ si = .int .i64 k ∧ ss = fV b ∧ Hid (absF .f32 b = betTo (absF .f32 sh) (absF .f32 st) xs k) ∧ Own fV 39 wr w.heap.size so ys ∧ ys.length = k ∧ Hid (absL ys = betL (absF .f32 sh) (absF .f32 st) xs k) ∧ Below w.heap.size w wr) (fun _ _ si _ => xs.length - (intOf si).toNat)
        case atStart => exact ⟨0, _, [], by omega, rfl, rfl, abs_one, own_nil_new fV _ _, rfl, rfl, (Below.refl _ _).alloc (Nat.le_refl _) _⟩
        case round =>
          obtain ⟨k, b, ys, hk, rfl, rfl, hs, hown, hyl, hy, hb⟩ := hrel
          by_cases hlt : k < xs.length
          · obtain ⟨x, hx⟩ := get_of_lt hlt
            obtain ⟨ad, rfl, hbl, hc0⟩ := HA1.out k x hx
            have hc : wr.cell? (ad.add k) = some (bV x) := by rw [hb.cell (by rw [add_block]; exact hbl)]; exact hc0
            have HD := Lib.hid (betTo_succ (absF .f32 sh) (absF .f32 st) hx)
            have hz := hb.size
            clear hx hc0
            cases x
            all_goals
              go_wp2_with (at_builtin; go_loud (refine elF_.app (fun _ => rfl) _ rfl _ _ rfl w.heap.size _ ys rfl (Own.alloc (Own.drewN hown _) _) _ _ rfl (rd_one fV _ _ _) (by omega) (by simp; omega) (by simp; omega) ?_))
              intro v' w' ho hg hbb hp
              go_wp2
              go_roundw
              case rel => exact ⟨k + 1, _, _, by omega, by go_num, rfl, by unfold Hid; rw [HD.out]; simp [betStep, abs_flR .mul rfl, abs_flR .sub rfl, abs_flR .add rfl, hs.out, abs_one], ho, by simp [hyl], by unfold Hid; rw [betL_succ, absL_append', hy.out, HD.out]; simp [absL, betStep, abs_flR .mul rfl, abs_flR .sub rfl, abs_flR .add rfl, hs.out, abs_one], ((below_drewN' _ hb).alloc (by simpa using hz) _).trans hbb⟩
              case measure => simp [intOf]; omega
          · have hke : k = xs.length := by omega
            have HK := Lib.hid hke
            clear hke
            have Hf : Hid (ys.all finB = betOk xs sh st) := by unfold Hid; rw [all_fin, hy.out, HK.out, Ho.out]; rfl
            have hyn : ys.length ≤ 1099511627776 := by omega
            have HYL := Lib.hid hyl
            clear hyl
            have HRD := Lib.hid hown.rd
            obtain ⟨A2, cap2, rfl, -, -⟩ := hown.rd
            go_wp2_with fail
            refine (l02List_any _ ys hyn _ HRD.out).mono ?_
            rintro e w2 ⟨rfl, hd⟩
            have hb2 := below_of_drew hd
            clear hd
            rw [Hf.out]
            cases hok : betOk xs sh st
            · have HOK := Lib.hid hok
              clear hok
              go_wp2
              go_ret2
              exact ⟨_, [], by rw [HOK.out] <;> rfl, Own.nil, by simp, by rw [HOK.out]; rfl, below_to hb hb2 hb.size⟩
            · have HOK := Lib.hid hok
              clear hok
              go_wp2
              go_ret2
              exact ⟨_, ys, by rw [HOK.out] <;> rfl, hown.below hb2, hyn, by rw [hy.out, HK.out, if_pos HOK.out]; rfl, below_to hb hb2 hb.size⟩

set_option maxHeartbeats 1600000 in
theorem implBetWealth_any (v : Value) (xs : List Bool) (hn : xs.length ≤ 1099511627776) (sh st : Nat) (w : World) (hr : Rd bV w v xs) :
    Calls Try.prog 30 #[v, fV sh, fV st] w (RetBetWealth xs sh st w) := by
  have hr1 := hr
  have HR1 := Lib.hid hr1
  obtain ⟨A1, cap1, rfl, hcap1, hA1⟩ := hr1
  have HA1 := Lib.hid hA1
  clear hA1
  have HR := Lib.hid hr
  clear hr
  cases h0 : decide (1 ≤ xs.length ∧ xs.length ≤ 256)
  · have H := Lib.hid h0
    have Ho := Lib.hid (betOk_f1 (sh := sh) (st := st) (show betOk1 xs sh st = false by unfold betOk1; rw [h0]; rfl))
    clear h0
    go_enter Try.func30, Try.ntmps30
    go_wp2_with (go_at_call 68; refine (areBits_any _ xs hn _ HR.out).mono ?_; rintro e w1 ⟨rfl, rfl⟩; rw [H.out])
    go_ret2
    exact ⟨_, [], by rw [Ho.out] <;> rfl, Own.nil, by simp, by rw [Ho.out]; rfl, Below.refl _ _⟩
  · have hall : [sh, st].all partB = (partB sh && partB st) := by simp
    cases h1 : (partB sh && partB st)
    · have H := Lib.hid h0
      have H1 := Lib.hid (hall.trans h1)
      have Ho := Lib.hid (betOk_f1 (show betOk1 xs sh st = false by unfold betOk1; rw [Bool.and_assoc, h1]; simp))
      clear h0 h1 hall
      go_enter Try.func30, Try.ntmps30
      go_wp2_with fail
      refine (areBits_any _ xs hn _ HR.out).mono ?_
      rintro e w1 ⟨rfl, rfl⟩
      rw [H.out]
      go_wp2_with fail
      refine (areParts_any _ [sh, st] (by simp) _ (rd_two w sh st _)).mono ?_
      rintro e w2 ⟨rfl, n, rfl⟩
      rw [H1.out]
      go_wp2
      go_ret2
      exact ⟨_, [], by rw [Ho.out] <;> rfl, Own.nil, by simp, by rw [Ho.out]; rfl, below_drewN' _ (below_alloc' _ _)⟩
    · have hlen : xs.length ≤ 256 := (of_decide_eq_true h0).2
      have H := Lib.hid h0
      have H1 := Lib.hid (hall.trans h1)
      have Ho := Lib.hid (betOk_t (show betOk1 xs sh st = true by unfold betOk1; rw [Bool.and_assoc, h1, h0]; rfl))
      clear h0 h1 hall
      go_enter Try.func30, Try.ntmps30
      go_wp2_with fail
      refine (areBits_any _ xs hn _ HR.out).mono ?_
      rintro e w1 ⟨rfl, rfl⟩
      rw [H.out]
      go_wp2_with fail
      refine (areParts_any _ [sh, st] (by simp) _ (rd_two w sh st _)).mono ?_
      rintro e w2 ⟨rfl, n, rfl⟩
      rw [H1.out]
      have hT : Below w.heap.size w ((w.alloc (.cells #[fV sh, fV st] 39)).drewN n) := below_drewN' _ (below_alloc' _ _)
      generalize hg : World.drewN _ _ = W1 at *
      clear hg
      have hz1 := hT.size
      go_wp2
      go_loopw [8, 9, 25] (fun so ss si wr => ∃ (k b : Nat) (ys : List Nat), k ≤ xs.length ∧ si = .int .i64 k ∧ ss = fV b ∧ Hid (absF .f32 b = betTo (absF .f32 sh) (absF .f32 st) xs k) ∧ Own fV 39 wr w.heap.size so ys ∧ ys.length = k ∧ Hid (absL ys = betL (absF .f32 sh) (absF .f32 st) xs k) ∧ Below w.heap.size w wr) (fun _ _ si _ => xs.length - (intOf si).toNat)
      case atStart => exact ⟨0, _, [], by omega, rfl, rfl, abs_one, (own_nil_new fV _ _).base_ hz1, rfl, rfl, hT.alloc hz1 _⟩
      case round =>
        obtain ⟨k, b, ys, hk, rfl, rfl, hs, hown, hyl, hy, hb⟩ := hrel
        by_cases hlt : k < xs.length
        · obtain ⟨x, hx⟩ := get_of_lt hlt
          obtain ⟨ad, rfl, hbl, hc0⟩ := HA1.out k x hx
          have hc : wr.cell? (ad.add k) = some (bV x) := by rw [hb.cell (by rw [add_block]; exact hbl)]; exact hc0
          have HD := Lib.hid (betTo_succ (absF .f32 sh) (absF .f32 st) hx)
          have hz := hb.size
          clear hx hc0
          cases x
          all_goals
            go_wp2_with (at_builtin; go_loud (refine elF_.app (fun _ => rfl) _ rfl _ _ rfl w.heap.size _ ys rfl (Own.alloc (Own.drewN hown _) _) _ _ rfl (rd_one fV _ _ _) (by omega) (by simp; omega) (by simp; omega) ?_))
            intro v' w' ho hg hbb hp
            go_wp2
            go_roundw
            case rel => exact ⟨k + 1, _, _, by omega, by go_num, rfl, by unfold Hid; rw [HD.out]; simp [betStep, abs_flR .mul rfl, abs_flR .sub rfl, abs_flR .add rfl, hs.out, abs_one], ho, by simp [hyl], by unfold Hid; rw [betL_succ, absL_append', hy.out, HD.out]; simp [absL, betStep, abs_flR .mul rfl, abs_flR .sub rfl, abs_flR .add rfl, hs.out, abs_one], ((below_drewN' _ hb).alloc (by simpa using hz) _).trans hbb⟩
            case measure => simp [intOf]; omega
        · have hke : k = xs.length := by omega
          have HK := Lib.hid hke
          clear hke
          have Hf : Hid (ys.all finB = betOk xs sh st) := by unfold Hid; rw [all_fin, hy.out, HK.out, Ho.out]; rfl
          have hyn : ys.length ≤ 1099511627776 := by omega
          have HYL := Lib.hid hyl
          clear hyl
          have HRD := Lib.hid hown.rd
          obtain ⟨A2, cap2, rfl, -, -⟩ := hown.rd
          go_wp2_with fail
          refine (areFinite_any _ ys hyn _ HRD.out).mono ?_
          rintro e w2 ⟨rfl, hd⟩
          have hb2 := below_of_drew hd
          clear hd
          rw [Hf.out]
          cases hok : betOk xs sh st
          · have HOK := Lib.hid hok
            clear hok
            go_wp2
            go_ret2
            exact ⟨_, [], by rw [HOK.out] <;> rfl, Own.nil, by simp, by rw [HOK.out]; rfl, below_to hb hb2 hb.size⟩
          · have HOK := Lib.hid hok
            clear hok
            go_wp2
            go_ret2
            exact ⟨_, ys, by rw [HOK.out] <;> rfl, hown.below hb2, hyn, by rw [hy.out, HK.out, if_pos HOK.out]; rfl, below_to hb hb2 hb.size⟩
end Go.Proofs.Ytobheippncjjiaa
