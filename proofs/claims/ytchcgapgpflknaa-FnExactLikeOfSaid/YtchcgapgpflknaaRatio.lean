/-
  Walks by ratios: both RatioWalk.
-/
import Derived.Test.YtchcgapgpflknaaBet
import Derived.Test.YtchcgapgpflknaaLogN
namespace Go.Proofs.Ytchcgapgpflknaa
open Go.RowKit
attribute [local go_sem] run_fl_add run_fl_sub run_fl_mul run_fl_quo run_up_

def logO : Option Nat → Option Nat | none => none | some b => log32 b
theorem logO_of {x : Nat} {o : Option Nat} (h : absF .f32 x = o) : log32 x = logO o := by
  subst h
  cases hn : (FloatKind.f32.decode x).isNaN
  · rw [absF_of hn]; rfl
  · rw [log32_nan (absF_nan hn), absF_nan hn]; rfl
theorem infOk_lt {x : Nat} (h : x < 4294967296) : InfOk x := by
  intro e
  unfold FloatKind.decode Ieee.Format.read at e
  have hs : FloatKind.f32.format.signWeight = 2147483648 := rfl
  have hb : FloatKind.f32.format.binade = 8388608 := rfl
  have hi : FloatKind.f32.format.infRung = 2139095040 := rfl
  simp only [hs, hb, hi] at e
  split at e
  · cases e
  · split at e
    · cases e
    · split at e
      · rename_i h3
        injection e with e
        have : ¬ (x / 2147483648 % 2 = 1) := by
          intro h'
          rw [h'] at e
          cases e
        omega
      · cases e
theorem infOk_quo (x y : Nat) (w : World) : InfOk (flR .quo .f32 x y w) := by
  unfold flR
  cases h : floatBits .quo .f32 x y with
  | some r => exact infOk_lt (show r < 2 ^ 32 from Ieee.Format.div_lt _ (show FloatKind.f32.format.div x y = some r from h))
  | none =>
    intro e
    exfalso
    have hn := nan_bits32 (w.tape w.drawn (.nanBits .f32 x y))
    have e' : FloatKind.f32.decode ((w.tape w.drawn (.nanBits .f32 x y) % 2) * 2 ^ 31 + 0x7f800000 + 1 + (w.tape w.drawn (.nanBits .f32 x y) / 2) % (2 ^ 23 - 1)) = .infinity false := e
    rw [e'] at hn
    cases hn
def openB1 (p : Nat) : Bool := (FloatKind.f32.format.order p 0 == some .gt) && (FloatKind.f32.format.order p 1065353216 == some .lt)
/-- What a bit adds. -/
def ratU (lo hi : Option Nat) : Option Nat := logO (opF .quo .f32 hi lo)
def ratD (lo hi : Option Nat) : Option Nat := logO (opF .quo .f32 (opF .sub .f32 oneN hi) (opF .sub .f32 oneN lo))
def ratStep (lo hi : Option Nat) (s : Option Nat) (b : Bool) : Option Nat := opF .add .f32 s (if b then ratU lo hi else ratD lo hi)
def ratTo (lo hi : Option Nat) (xs : List Bool) (k : Nat) : Option Nat := (xs.take k).foldl (ratStep lo hi) (some 0)
def ratL (lo hi : Option Nat) (xs : List Bool) (k : Nat) : List (Option Nat) := (List.range k).map fun i => ratTo lo hi xs (i + 1)
theorem ratTo_succ (lo hi : Option Nat) {xs : List Bool} {k : Nat} {x : Bool} (h : xs[k]? = some x) : ratTo lo hi xs (k + 1) = ratStep lo hi (ratTo lo hi xs k) x := by simp [ratTo, take_snoc h]
theorem ratL_succ (lo hi : Option Nat) (xs : List Bool) (k : Nat) : ratL lo hi xs (k + 1) = ratL lo hi xs k ++ [ratTo lo hi xs (k + 1)] := by simp [ratL, List.range_succ]
theorem ratL_len (lo hi : Option Nat) (xs : List Bool) (k : Nat) : (ratL lo hi xs k).length = k := by simp [ratL]
def ratOk1 (xs : List Bool) (lo hi : Nat) : Bool := decide (1 ≤ xs.length ∧ xs.length ≤ 256) && openB1 lo && openB1 hi
def ratR (xs : List Bool) (lo hi : Nat) : List (Option Nat) := ratL (absF .f32 lo) (absF .f32 hi) xs xs.length
def ratOk (xs : List Bool) (lo hi : Nat) : Bool := ratOk1 xs lo hi && (ratR xs lo hi).all finA
def RetRatioWalk (xs : List Bool) (lo hi : Nat) (w : World) (e : Ending) (w' : World) : Prop :=
  ∃ v y, e = .returned (.tuple #[v, .bool (ratOk xs lo hi)]) ∧ Own fV 23 w' w.heap.size v y ∧ y.length ≤ 1099511627776 ∧ absL y = (if ratOk xs lo hi = true then ratR xs lo hi else []) ∧ Below w.heap.size w w'
theorem ratOk_f1 {xs : List Bool} {lo hi : Nat} (h : ratOk1 xs lo hi = false) : ratOk xs lo hi = false := by unfold ratOk; rw [h]; rfl
theorem ratOk_t {xs : List Bool} {lo hi : Nat} (h : ratOk1 xs lo hi = true) : ratOk xs lo hi = (ratR xs lo hi).all finA := by unfold ratOk; rw [h]; rfl
theorem l06Open_any (x : Nat) (w : World) : Calls Try.prog 65 #[fV x] w fun e w' => e = .returned (.bool (openB1 x)) ∧ w = w' := by
  go_enter Try.func65, Try.ntmps65
  go_wp2
  all_goals go_ret
  all_goals exact ⟨ret_bool (by simp_all [openB1]), rfl⟩
theorem ratU_abs {lo hi : Nat} {W : World} {u : Nat} (h : absF .f32 u = log32 (flR .quo .f32 hi lo W)) : absF .f32 u = ratU (absF .f32 lo) (absF .f32 hi) := by
  rw [h, logO_of (abs_flR .quo rfl _ _ _ _)]
  rfl
theorem ratD_abs {lo hi : Nat} {W1 W2 W3 : World} {u : Nat} (h : absF .f32 u = log32 (flR .quo .f32 (flR .sub .f32 1065353216 hi W1) (flR .sub .f32 1065353216 lo W2) W3)) : absF .f32 u = ratD (absF .f32 lo) (absF .f32 hi) := by
  rw [h, logO_of (abs_flR .quo rfl _ _ _ _), abs_flR .sub rfl, abs_flR .sub rfl, abs_one]
  rfl
set_option maxHeartbeats 3200000 in
theorem specRatioWalk_any (v : Value) (xs : List Bool) (hn : xs.length ≤ 1099511627776) (lo hi : Nat) (w : World) (hr : Rd bV w v xs) :
    Calls Try.prog 23 #[v, fV lo, fV hi] w (RetRatioWalk xs lo hi w) := by
  have hr1 := hr
  have HR1 := Lib.hid hr1
  obtain ⟨A1, cap1, rfl, hcap1, hA1⟩ := hr1
  have HA1 := Lib.hid hA1
  clear hA1
  have HR := Lib.hid hr
  clear hr
  cases h0 : decide (1 ≤ xs.length ∧ xs.length ≤ 256)
  · have H := Lib.hid h0
    have Ho := Lib.hid (ratOk_f1 (lo := lo) (hi := hi) (show ratOk1 xs lo hi = false by unfold ratOk1; rw [h0]; rfl))
    clear h0
    go_enter Try.func23, Try.ntmps23
    go_wp2_with (go_at_call 64; refine (l06Bits_any _ xs hn _ HR.out).mono ?_; rintro e w1 ⟨rfl, rfl⟩; rw [H.out])
    go_ret2
    exact ⟨_, [], by rw [Ho.out] <;> rfl, Own.nil, by simp, by rw [Ho.out]; rfl, Below.refl _ _⟩
  · cases h1 : openB1 lo <;> cases h2 : openB1 hi
    case true.true =>
      have hlen : xs.length ≤ 256 := (of_decide_eq_true h0).2
      have H := Lib.hid h0
      have H1 := Lib.hid h1
      have H2 := Lib.hid h2
      have Ho := Lib.hid (ratOk_t (show ratOk1 xs lo hi = true by unfold ratOk1; rw [h0, h1, h2]; rfl))
      clear h0 h1 h2
      go_enter Try.func23, Try.ntmps23
      go_wp2_with fail
      refine (l06Bits_any _ xs hn _ HR.out).mono ?_
      rintro e w1 ⟨rfl, rfl⟩
      rw [H.out]
      go_wp2_with fail
      refine (l06Open_any lo _).mono ?_
      rintro e w1 ⟨rfl, rfl⟩
      rw [H1.out]
      go_wp2_with fail
      refine (l06Open_any hi _).mono ?_
      rintro e w1 ⟨rfl, rfl⟩
      rw [H2.out]
      go_wp2
      go_loopw [8, 9, 10] (fun so ss si wr => ∃ (k b : Nat) (ys : List Nat), k ≤ xs.length ∧ si = .int .i64 k ∧ ss = fV b ∧ Hid (absF .f32 b = ratTo (absF .f32 lo) (absF .f32 hi) xs k) ∧ Own fV 23 wr w.heap.size so ys ∧ ys.length = k ∧ Hid (absL ys = ratL (absF .f32 lo) (absF .f32 hi) xs k) ∧ Below w.heap.size w wr) (fun _ _ si _ => xs.length - (intOf si).toNat)
      case atStart => exact ⟨0, _, [], by omega, rfl, rfl, abs_zero, own_nil_new fV _ _, rfl, rfl, (Below.refl _ _).alloc (Nat.le_refl _) _⟩
      case round =>
        obtain ⟨k, b, ys, hk, rfl, rfl, hs, hown, hyl, hy, hb⟩ := hrel
        by_cases hlt : k < xs.length
        · obtain ⟨x, hx⟩ := get_of_lt hlt
          obtain ⟨ad, rfl, hbl, hc0⟩ := HA1.out k x hx
          have hc : wr.cell? (ad.add k) = some (bV x) := by rw [hb.cell (by rw [add_block]; exact hbl)]; exact hc0
          have HD := Lib.hid (ratTo_succ (absF .f32 lo) (absF .f32 hi) hx)
          have hz := hb.size
          clear hx hc0
          cases x
          case' true =>
            go_wp2_with fail
            refine (l01Log_any _ (infOk_quo _ _ _) _).mono ?_
            rintro e wl ⟨u, rfl, hu, nu, rfl⟩
            have HU := Lib.hid (ratU_abs hu)
            clear hu
          case' false =>
            go_wp2_with fail
            refine (l01Log_any _ (infOk_quo _ _ _) _).mono ?_
            rintro e wl ⟨u, rfl, hu, nu, rfl⟩
            have HU := Lib.hid (ratD_abs hu)
            clear hu
          all_goals
            go_wp2_with (at_builtin; go_loud (refine elF_.app (fun _ => rfl) _ rfl _ _ rfl w.heap.size _ ys rfl (Own.alloc (Own.drewN hown _) _) _ _ rfl (rd_one fV _ _ _) (by omega) (by simp; omega) (by simp; omega) ?_))
            intro v' w' ho hg hbb hp
            go_wp2
            go_roundw
            case rel => exact ⟨k + 1, _, _, by omega, by go_num, rfl, by (unfold Hid; rw [HD.out, abs_flR .add rfl, hs.out]; exact congrArg (opF .add .f32 _) HU.out), ho, by simp [hyl], by unfold Hid; rw [ratL_succ, absL_append', hy.out, HD.out]; (simp only [absL, List.map_cons, List.map_nil, abs_flR .add rfl, hs.out, HU.out]; first | done | rfl), ((below_drewN' _ hb).alloc (by simpa using hz) _).trans hbb⟩
            case measure => simp [intOf]; omega
        · have hke : k = xs.length := by omega
          have HK := Lib.hid hke
          clear hke
          have Hf : Hid (ys.all finB = ratOk xs lo hi) := by unfold Hid; rw [all_fin, hy.out, HK.out, Ho.out]; rfl
          have hyn : ys.length ≤ 1099511627776 := by omega
          have HYL := Lib.hid hyl
          clear hyl
          have HRD := Lib.hid hown.rd
          obtain ⟨A2, cap2, rfl, -, -⟩ := hown.rd
          go_wp2_with fail
          refine (l02List_any _ ys hyn _ HRD.out).mono ?_
          rintro e w2 ⟨rfl, hd⟩
          have hb2 := below_of_drew hd
          clear hd
          rw [Hf.out]
          cases hok : ratOk xs lo hi
          · have HOK := Lib.hid hok
            clear hok
            go_wp2
            go_ret2
            exact ⟨_, [], by rw [HOK.out] <;> rfl, Own.nil, by simp, by rw [HOK.out]; rfl, below_to hb hb2 hb.size⟩
          · have HOK := Lib.hid hok
            clear hok
            go_wp2
            go_ret2
            exact ⟨_, ys, by rw [HOK.out] <;> rfl, hown.below hb2, hyn, by rw [hy.out, HK.out, if_pos HOK.out]; rfl, below_to hb hb2 hb.size⟩
    case' false.false => have Ho := Lib.hid (ratOk_f1 (show ratOk1 xs lo hi = false by unfold ratOk1; rw [h1]; simp))
    case' false.true => have Ho := Lib.hid (ratOk_f1 (show ratOk1 xs lo hi = false by unfold ratOk1; rw [h1]; simp))
    case' true.false => have Ho := Lib.hid (ratOk_f1 (show ratOk1 xs lo hi = false by unfold ratOk1; rw [h2]; simp))
    all_goals
      have H := Lib.hid h0
      have H1 := Lib.hid h1
      have H2 := Lib.hid h2
      clear h0 h1 h2
      go_enter Try.func23, Try.ntmps23
      go_wp2_with fail
      refine (l06Bits_any _ xs hn _ HR.out).mono ?_
      rintro e w1 ⟨rfl, rfl⟩
      rw [H.out]
      go_wp2_with fail
      refine (l06Open_any lo _).mono ?_
      rintro e w1 ⟨rfl, rfl⟩
      rw [H1.out]
      try
        go_wp2_with fail
        refine (l06Open_any hi _).mono ?_
        rintro e w1 ⟨rfl, rfl⟩
        rw [H2.out]
      go_wp2
      go_ret2
      exact ⟨_, [], by rw [Ho.out] <;> rfl, Own.nil, by simp, by rw [Ho.out]; rfl, Below.refl _ _⟩
set_option maxHeartbeats 3200000 in
theorem implRatioWalk_any (v : Value) (xs : List Bool) (hn : xs.length ≤ 1099511627776) (lo hi : Nat) (w : World) (hr : Rd bV w v xs) :
    Calls Try.prog 25 #[v, fV lo, fV hi] w (RetRatioWalk xs lo hi w) := by
  have hr1 := hr
  have HR1 := Lib.hid hr1
  obtain ⟨A1, cap1, rfl, hcap1, hA1⟩ := hr1
  have HA1 := Lib.hid hA1
  clear hA1
  have HR := Lib.hid hr
  clear hr
  cases h0 : decide (1 ≤ xs.length ∧ xs.length ≤ 256)
  · have H := Lib.hid h0
    have Ho := Lib.hid (ratOk_f1 (lo := lo) (hi := hi) (show ratOk1 xs lo hi = false by unfold ratOk1; rw [h0]; rfl))
    clear h0
    go_enter Try.func25, Try.ntmps25
    go_wp2_with (go_at_call 68; refine (areBits_any _ xs hn _ HR.out).mono ?_; rintro e w1 ⟨rfl, rfl⟩; rw [H.out])
    go_ret2
    exact ⟨_, [], by rw [Ho.out] <;> rfl, Own.nil, by simp, by rw [Ho.out]; rfl, Below.refl _ _⟩
  · cases g1 : (FloatKind.f32.format.order lo 0 == some .gt) <;> cases g2 : (FloatKind.f32.format.order lo 1065353216 == some .lt) <;> cases g3 : (FloatKind.f32.format.order hi 0 == some .gt) <;> cases g4 : (FloatKind.f32.format.order hi 1065353216 == some .lt)
    case true.true.true.true =>
      have hlen : xs.length ≤ 256 := (of_decide_eq_true h0).2
      have H := Lib.hid h0
      have Ho := Lib.hid (ratOk_t (show ratOk1 xs lo hi = true by unfold ratOk1 openB1; rw [h0, g1, g2, g3, g4]; rfl))
      clear h0
      go_enter Try.func25, Try.ntmps25
      go_wp2_with fail
      refine (areBits_any _ xs hn _ HR.out).mono ?_
      rintro e w1 ⟨rfl, rfl⟩
      rw [H.out]
      go_wp2_with fail
      refine (logNumber_any _ (infOk_quo _ _ _) _).mono ?_
      rintro e wl ⟨u, rfl, hu, nu, rfl⟩
      have HU := Lib.hid (ratU_abs hu)
      clear hu
      go_wp2_with fail
      refine (logNumber_any _ (infOk_quo _ _ _) _).mono ?_
      rintro e wl ⟨d, rfl, hd, nd, rfl⟩
      have HD0 := Lib.hid (ratD_abs hd)
      clear hd g1 g2 g3 g4
      have hT : Below w.heap.size w (w.drewN 0) := below_drewN' _ (Below.refl _ _)
      go_wp2
      go_loopw [10, 11, 48] (fun so ss si wr => ∃ (k b : Nat) (ys : List Nat), k ≤ xs.length ∧ si = .int .i64 k ∧ ss = fV b ∧ Hid (absF .f32 b = ratTo (absF .f32 lo) (absF .f32 hi) xs k) ∧ Own fV 23 wr w.heap.size so ys ∧ ys.length = k ∧ Hid (absL ys = ratL (absF .f32 lo) (absF .f32 hi) xs k) ∧ Below w.heap.size w wr) (fun _ _ si _ => xs.length - (intOf si).toNat)
      case atStart => exact ⟨0, _, [], by omega, rfl, rfl, abs_zero, own_nil_new fV _ _, rfl, rfl, (below_drewN' _ (Below.refl _ _)).alloc (by simp) _⟩
      case round =>
        obtain ⟨k, b, ys, hk, rfl, rfl, hs, hown, hyl, hy, hb⟩ := hrel
        by_cases hlt : k < xs.length
        · obtain ⟨x, hx⟩ := get_of_lt hlt
          obtain ⟨ad, rfl, hbl, hc0⟩ := HA1.out k x hx
          have hc : wr.cell? (ad.add k) = some (bV x) := by rw [hb.cell (by rw [add_block]; exact hbl)]; exact hc0
          have HD := Lib.hid (ratTo_succ (absF .f32 lo) (absF .f32 hi) hx)
          have hz := hb.size
          clear hx hc0
          cases x
          all_goals
            go_wp2_with (at_builtin; go_loud (refine elF_.app (fun _ => rfl) _ rfl _ _ rfl w.heap.size _ ys rfl (Own.alloc (Own.drewN hown _) _) _ _ rfl (rd_one fV _ _ _) (by omega) (by simp; omega) (by simp; omega) ?_))
            intro v' w' ho hg hbb hp
            go_wp2
            go_roundw
            case rel => exact ⟨k + 1, _, _, by omega, by go_num, rfl, by (unfold Hid; rw [HD.out, abs_flR .add rfl, hs.out]; first | exact congrArg (opF .add .f32 _) HU.out | exact congrArg (opF .add .f32 _) HD0.out), ho, by simp [hyl], by (unfold Hid; rw [ratL_succ, absL_append', hy.out, HD.out]; simp only [absL, List.map_cons, List.map_nil, abs_flR .add rfl, hs.out]; first | (rw [HU.out]; done) | (rw [HD0.out]; done) | (rw [HU.out]; rfl) | (rw [HD0.out]; rfl)), ((below_drewN' _ hb).alloc (by simpa using hz) _).trans hbb⟩
            case measure => simp [intOf]; omega
        · have hke : k = xs.length := by omega
          have HK := Lib.hid hke
          clear hke
          have Hf : Hid (ys.all finB = ratOk xs lo hi) := by unfold Hid; rw [all_fin, hy.out, HK.out, Ho.out]; rfl
          have hyn : ys.length ≤ 1099511627776 := by omega
          have HYL := Lib.hid hyl
          clear hyl
          have HRD := Lib.hid hown.rd
          obtain ⟨A2, cap2, rfl, -, -⟩ := hown.rd
          go_wp2_with fail
          refine (areFinite_any _ ys hyn _ HRD.out).mono ?_
          rintro e w2 ⟨rfl, hd⟩
          have hb2 := below_of_drew hd
          clear hd
          rw [Hf.out]
          cases hok : ratOk xs lo hi
          · have HOK := Lib.hid hok
            clear hok
            go_wp2
            go_ret2
            exact ⟨_, [], by rw [HOK.out] <;> rfl, Own.nil, by simp, by rw [HOK.out]; rfl, below_to hb hb2 hb.size⟩
          · have HOK := Lib.hid hok
            clear hok
            go_wp2
            go_ret2
            exact ⟨_, ys, by rw [HOK.out] <;> rfl, hown.below hb2, hyn, by rw [hy.out, HK.out, if_pos HOK.out]; rfl, below_to hb hb2 hb.size⟩
    all_goals
      have H := Lib.hid h0
      have Ho := Lib.hid (ratOk_f1 (show ratOk1 xs lo hi = false by unfold ratOk1 openB1; rw [g1, g2, g3, g4]; simp))
      clear h0
      go_enter Try.func25, Try.ntmps25
      go_wp2_with (go_at_call 68; refine (areBits_any _ xs hn _ HR.out).mono ?_; rintro e w1 ⟨rfl, rfl⟩; rw [H.out])
      go_ret2
      exact ⟨_, [], by rw [Ho.out] <;> rfl, Own.nil, by simp, by rw [Ho.out]; rfl, Below.refl _ _⟩
end Go.Proofs.Ytchcgapgpflknaa
