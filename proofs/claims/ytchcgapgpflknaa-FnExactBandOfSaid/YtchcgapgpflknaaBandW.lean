/-
  BandOf, walked in the program and in the reference.
-/
import Derived.Test.YtchcgapgpflknaaBand
import Derived.Test.YtchcgapgpflknaaShRet
namespace Go.Proofs.Ytchcgapgpflknaa
open Go.RowKit

def shB (s : Nat) : Bool := (FloatKind.f32.format.order s 0 == some .gt) && (FloatKind.f32.format.order s 1056964608 == some .lt || FloatKind.f32.format.order s 1056964608 == some .eq)
def bandOk (xs : List Nat) (s : Nat) : Bool := (decide (1 ≤ xs.length ∧ xs.length ≤ 256) && xs.all finB) && (sortedB xs && shB s)
/-- The place that the share gives. -/
def bandP (s n : Nat) : Nat :=
  match floatBits .mul .f32 s (FloatKind.f32.nearest (n : Int)) with
  | some b => (((FloatKind.f64.decode (FloatKind.f64.encode ((FloatKind.f64.decode (upBits b)).integral .down))).toInt .zero).getD 0).toNat
  | none => 0
def bandI (s n : Nat) : Nat := min (bandP s n) ((n - 1) / 2)
def bandL (xs : List Nat) (s : Nat) : Option Nat := if bandOk xs s = true then absF .f32 (xs.getD (bandI s xs.length) 0) else some 0
def bandR (xs : List Nat) (s : Nat) : Option Nat := if bandOk xs s = true then absF .f32 (xs.getD (xs.length - 1 - bandI s xs.length) 0) else some 0
def RetBandOf (xs : List Nat) (s : Nat) (w : World) (e : Ending) (w' : World) : Prop :=
  ∃ a b, e = .returned (.tuple #[fV a, fV b, .bool (bandOk xs s)]) ∧ absF .f32 a = bandL xs s ∧ absF .f32 b = bandR xs s ∧ Below w.heap.size w w'
theorem ret_band_no {xs : List Nat} {s : Nat} {w w' : World} (h : bandOk xs s = false) (hb : Below w.heap.size w w') : RetBandOf xs s w (.returned (.tuple #[fV 0, fV 0, .bool false])) w' := by
  refine ⟨0, 0, by rw [h], ?_, ?_, hb⟩
  · unfold bandL; rw [h]; rfl
  · unfold bandR; rw [h]; rfl
theorem band_no_list {xs : List Nat} {s : Nat} (h : (decide (1 ≤ xs.length ∧ xs.length ≤ 256) && xs.all finB) = false) : bandOk xs s = false := by unfold bandOk; rw [h]; rfl
theorem band_no_sorted {xs : List Nat} {s : Nat} (h : sortedB xs = false) : bandOk xs s = false := by unfold bandOk; rw [h]; simp
theorem band_no_share {xs : List Nat} {s : Nat} (h : shB s = false) : bandOk xs s = false := by unfold bandOk; rw [h]; simp
theorem ret_band_yes {xs : List Nat} {s a b i : Nat} {w w' : World} (h : bandOk xs s = true) (hi : i = bandI s xs.length) (ha : xs[i]? = some a) (hb : xs[xs.length - 1 - i]? = some b) (hw : Below w.heap.size w w') : RetBandOf xs s w (.returned (.tuple #[fV a, fV b, .bool true])) w' := by
  subst hi
  refine ⟨a, b, by rw [h], ?_, ?_, hw⟩
  · unfold bandL; rw [if_pos h, List.getD_eq_getElem?_getD, ha]; rfl
  · unfold bandR; rw [if_pos h, List.getD_eq_getElem?_getD, hb]; rfl
theorem bandI_lt {s n : Nat} (h : 1 ≤ n) : bandI s n < n ∧ n - 1 - bandI s n < n := by
  unfold bandI
  omega
/-- What is met on the way to the place. -/
theorem band_way {s n : Nat} (h1 : (FloatKind.f32.format.order s 0 == some .gt) = true) (h2 : (FloatKind.f32.format.order s 1056964608 == some .lt || FloatKind.f32.format.order s 1056964608 == some .eq) = true) (hn : n < 512) :
    ∃ b, floatBits .mul .f32 s (FloatKind.f32.nearest (n : Int)) = some b ∧ (FloatKind.f32.decode b).isNaN = false ∧ (FloatKind.f64.decode (upBits b)).isNaN = false ∧
    (FloatKind.f64.decode (FloatKind.f64.encode ((FloatKind.f64.decode (upBits b)).integral .down))).toInt .zero = some ((bandP s n : Nat) : Int) ∧ bandP s n < 8192 := by
  obtain ⟨b, k, e, n1, n2, e2, hk⟩ := band_place (half_of h1 h2) hn
  have hp : bandP s n = k := by unfold bandP; rw [e]; dsimp only; rw [e2]; rfl
  rw [hp]
  exact ⟨b, e, n1, n2, e2, hk⟩
theorem run_up_fact {b : Nat} (h : (FloatKind.f32.decode b).isNaN = false) (w : World) : (convert 23 28 (.float .f32 b)).run Try.prog w = .ok (.float .f64 (upBits b)) w := by
  have := run_up_ b w
  unfold upR upN at this
  rw [h] at this
  exact this
theorem run_mul_fact {x y r : Nat} (h : floatBits .mul .f32 x y = some r) (t : TypeId) (w : World) : (binOp .mul t (.float .f32 x) (.float .f32 y)).run Try.prog w = .ok (.float .f32 r) w := by
  have := run_fl_mul (P := Try.prog) t .f32 x y w
  unfold flR flN at this
  rw [h] at this
  exact this

set_option maxHeartbeats 3200000 in
theorem implBandOf_any (v : Value) (xs : List Nat) (hn : xs.length ≤ 1099511627776) (s : Nat) (w : World) (hr : Rd fV w v xs) :
    Calls Try.prog 16 #[v, fV s] w (RetBandOf xs s w) := by
  have HR := Lib.hid hr
  obtain ⟨A, cap, rfl, hcap, hA⟩ := hr
  have HA := Lib.hid hA
  clear hA
  by_cases h1 : 1 ≤ xs.length
  case neg =>
    have HO := Lib.hid (band_no_list (xs := xs) (s := s) (by simp [h1]))
    go_enter Try.func16, Try.ntmps16
    go_wp2
    go_ret3
    exact ret_band_no HO.out (Below.refl _ _)
  by_cases h2 : xs.length ≤ 256
  case neg =>
    have HO := Lib.hid (band_no_list (xs := xs) (s := s) (by simp [h2]))
    go_enter Try.func16, Try.ntmps16
    go_wp2
    go_ret3
    exact ret_band_no HO.out (Below.refl _ _)
  cases ha : xs.all finB
  · have HO := Lib.hid (band_no_list (xs := xs) (s := s) (by simp [ha]))
    have HA1 := Lib.hid ha
    clear ha
    go_enter Try.func16, Try.ntmps16
    go_wp2_with (go_at_call 58; refine (areFinite_any _ xs hn _ HR.out).mono ?_; rintro e w' ⟨rfl, n, rfl⟩; rw [HA1.out])
    go_ret3
    exact ret_band_no HO.out (below_of_drew ⟨_, rfl⟩)
  have HF := Lib.hid ha
  clear ha
  cases hs : sortedB xs
  · have HO := Lib.hid (band_no_sorted (s := s) hs)
    have HS := Lib.hid hs
    clear hs
    go_enter Try.func16, Try.ntmps16
    go_wp2_with (first | (go_at_call 58; refine (areFinite_any _ xs hn _ HR.out).mono ?_; rintro e w' ⟨rfl, n, rfl⟩; rw [HF.out]) | (go_at_call 59; refine (isSorted_any _ xs hn HF.out _ (HR.out.drewN _)).mono ?_; rintro e w' ⟨rfl, m, rfl⟩; rw [HS.out]))
    go_ret3
    exact ret_band_no HO.out (by first | exact below_of_drew ⟨_, rfl⟩ | exact below_drewN_ (below_of_drew ⟨_, rfl⟩))
  have HS := Lib.hid hs
  cases h3 : (FloatKind.f32.format.order s 0 == some .gt)
  · have HO := Lib.hid (band_no_share (xs := xs) (s := s) (by unfold shB; rw [h3]; rfl))
    clear hs
    go_enter Try.func16, Try.ntmps16
    go_wp2_with (first | (go_at_call 58; refine (areFinite_any _ xs hn _ HR.out).mono ?_; rintro e w' ⟨rfl, n, rfl⟩; rw [HF.out]) | (go_at_call 59; refine (isSorted_any _ xs hn HF.out _ (HR.out.drewN _)).mono ?_; rintro e w' ⟨rfl, m, rfl⟩; rw [HS.out]))
    go_ret3
    exact ret_band_no HO.out (by first | exact below_of_drew ⟨_, rfl⟩ | exact below_drewN_ (below_of_drew ⟨_, rfl⟩))
  cases h4 : (FloatKind.f32.format.order s 1056964608 == some .lt || FloatKind.f32.format.order s 1056964608 == some .eq)
  · have HO := Lib.hid (band_no_share (xs := xs) (s := s) (by unfold shB; rw [h3, h4]; rfl))
    clear hs
    go_enter Try.func16, Try.ntmps16
    go_wp2_with (first | (go_at_call 58; refine (areFinite_any _ xs hn _ HR.out).mono ?_; rintro e w' ⟨rfl, n, rfl⟩; rw [HF.out]) | (go_at_call 59; refine (isSorted_any _ xs hn HF.out _ (HR.out.drewN _)).mono ?_; rintro e w' ⟨rfl, m, rfl⟩; rw [HS.out]))
    go_ret3
    exact ret_band_no HO.out (by first | exact below_of_drew ⟨_, rfl⟩ | exact below_drewN_ (below_of_drew ⟨_, rfl⟩))
  have HO := Lib.hid (show bandOk xs s = true by unfold bandOk shB; rw [h3, h4, HF.out, hs]; simp [h1, h2])
  obtain ⟨b, e1, n1, n2, e2, hk⟩ := band_way h3 h4 (n := xs.length) (by omega)
  have hI := bandI_lt (s := s) h1
  obtain ⟨x, hx⟩ := get_of_lt hI.1
  obtain ⟨y, hy⟩ := get_of_lt hI.2
  obtain ⟨ad, rfl, hbl, hc⟩ := HA.out _ x hx
  obtain ⟨ad1, e3, hbl1, hc1⟩ := HA.out _ y hy
  cases e3
  obtain ⟨i, hi⟩ : ∃ i, i = bandI s xs.length := ⟨_, rfl⟩
  rw [← hi] at hx hy hc hc1 hI
  have HX := Lib.hid hx
  have HY := Lib.hid hy
  have HI := Lib.hid hi
  have rm := run_mul_fact (show floatBits .mul .f32 s (floatOfInt .f32 (xs.length : Int)) = some b from e1)
  have ru := run_up_fact n1
  have rf := run_floor n2
  have rt := run_toInt e2 hk
  clear hx hy e1 n1 n2 e2 hs hi
  go_enter Try.func16, Try.ntmps16
  go_wp2_with (first | (go_at_call 58; refine (areFinite_any _ xs hn _ HR.out).mono ?_; rintro e w' ⟨rfl, n, rfl⟩; rw [HF.out]) | (go_at_call 59; refine (isSorted_any _ xs hn HF.out _ (HR.out.drewN _)).mono ?_; rintro e w' ⟨rfl, m, rfl⟩; rw [HS.out]) | (go_at_call 57; refine (rf _).mono ?_; rintro e w' ⟨rfl, rfl⟩))
  all_goals
    have E8 : ((bandP s xs.length : Nat) : Int) = (i : Int) ∨ ((xs.length : Int) - 1) / 2 = (i : Int) := by rw [HI.out]; unfold bandI; omega
    first | rw [show ((bandP s xs.length : Nat) : Int) = (i : Int) by rw [HI.out]; unfold bandI; omega] | rw [show ((xs.length : Int) - 1) / 2 = (i : Int) by rw [HI.out]; unfold bandI; omega]
    have e0 : (w.drewN (n + m)).cell? (ad.add i) = some (fV x) := hc
    have e1 : (w.drewN (n + m)).cell? (ad.add (xs.length - 1 - i)) = some (fV y) := hc1
    have hs0 : IntKind.i64.wrap ((xs.length : Int) - 1) = ((xs.length - 1 : Nat) : Int) := by rw [IntWalk.i64_in _ (by omega)]; omega
    have hs1 : IntKind.i64.wrap (((xs.length - 1 : Nat) : Int) - (i : Int)) = ((xs.length - 1 - i : Nat) : Int) := by rw [IntWalk.i64_in _ (by omega)]; omega
    have i0 : (0 : Int) ≤ (i : Int) := by omega
    have i1 : (i : Int) < (xs.length : Int) := by omega
    have j0 : (0 : Int) ≤ ((xs.length - 1 - i : Nat) : Int) := by omega
    have j1 : ((xs.length - 1 - i : Nat) : Int) < (xs.length : Int) := by omega
    have hb : Below w.heap.size w (w.drewN (n + m)) := below_of_drew ⟨_, rfl⟩
    generalize w.drewN (n + m) = wr at e0 e1 hb ⊢
    clear hc hc1 rm ru rf rt E8
    go_quiet (fail)
    go_wp2
    go_ret3
    exact ret_band_yes HO.out HI.out HX.out HY.out (below_drewN_ hb)

set_option maxHeartbeats 3200000 in
theorem specBandOf_any (v : Value) (xs : List Nat) (hn : xs.length ≤ 1099511627776) (s : Nat) (w : World) (hr : Rd fV w v xs) :
    Calls Try.prog 14 #[v, fV s] w (RetBandOf xs s w) := by
  have HR := Lib.hid hr
  obtain ⟨A, cap, rfl, hcap, hA⟩ := hr
  have HA := Lib.hid hA
  clear hA
  cases hl : (decide (1 ≤ xs.length ∧ xs.length ≤ 256) && xs.all finB)
  · have HO := Lib.hid (band_no_list (s := s) hl)
    have HL := Lib.hid hl
    clear hl
    go_enter Try.func14, Try.ntmps14
    go_wp2_with (go_at_call 56; refine (l06List_any _ xs hn _ HR.out).mono ?_; rintro e w' ⟨rfl, n, rfl⟩; rw [HL.out])
    go_ret3
    exact ret_band_no HO.out (below_of_drew ⟨_, rfl⟩)
  have HL := Lib.hid hl
  have h12 : 1 ≤ xs.length ∧ xs.length ≤ 256 := by
    rw [Bool.and_eq_true, decide_eq_true_eq] at hl
    exact hl.1
  obtain ⟨h1, h2⟩ := h12
  clear hl
  cases h3 : (FloatKind.f32.format.order s 0 == some .gt)
  · have HO := Lib.hid (band_no_share (xs := xs) (s := s) (by unfold shB; rw [h3]; rfl))
    go_enter Try.func14, Try.ntmps14
    go_wp2_with (go_at_call 56; refine (l06List_any _ xs hn _ HR.out).mono ?_; rintro e w' ⟨rfl, n, rfl⟩; rw [HL.out])
    go_ret3
    exact ret_band_no HO.out (below_of_drew ⟨_, rfl⟩)
  cases h4 : (FloatKind.f32.format.order s 1056964608 == some .lt || FloatKind.f32.format.order s 1056964608 == some .eq)
  · have HO := Lib.hid (band_no_share (xs := xs) (s := s) (by unfold shB; rw [h3, h4]; rfl))
    go_enter Try.func14, Try.ntmps14
    go_wp2_with (go_at_call 56; refine (l06List_any _ xs hn _ HR.out).mono ?_; rintro e w' ⟨rfl, n, rfl⟩; rw [HL.out])
    go_ret3
    exact ret_band_no HO.out (below_of_drew ⟨_, rfl⟩)
  have HS3 := Lib.hid (show shB s = true by unfold shB; rw [h3, h4]; rfl)
  obtain ⟨b, e1, n1, n2, e2, hk⟩ := band_way h3 h4 (n := xs.length) (by omega)
  have hI := bandI_lt (s := s) h1
  obtain ⟨x, hx⟩ := get_of_lt hI.1
  obtain ⟨y, hy⟩ := get_of_lt hI.2
  obtain ⟨ad, rfl, hbl, hc⟩ := HA.out _ x hx
  obtain ⟨ad1, e3, hbl1, hc1⟩ := HA.out _ y hy
  cases e3
  obtain ⟨i, hi⟩ : ∃ i, i = bandI s xs.length := ⟨_, rfl⟩
  rw [← hi] at hx hy hc hc1 hI
  have HX := Lib.hid hx
  have HY := Lib.hid hy
  have HI := Lib.hid hi
  have RM := Lib.hid (run_mul_fact (show floatBits .mul .f32 s (floatOfInt .f32 (xs.length : Int)) = some b from e1))
  have RU := Lib.hid (run_up_fact n1)
  have RF := Lib.hid (run_floor n2)
  have RT := Lib.hid (run_toInt e2 hk)
  have HC0 := Lib.hid hc
  have HC1 := Lib.hid hc1
  clear hx hy e1 n1 n2 e2 hi hc hc1
  go_enter Try.func14, Try.ntmps14
  go_wp2_with (go_at_call 56; refine (l06List_any _ xs hn _ HR.out).mono ?_; rintro e w' ⟨rfl, n, rfl⟩; rw [HL.out])
  go_loopw [7] (fun si wr => ∃ k : Nat, 1 ≤ k ∧ k ≤ xs.length ∧ si = .int .i64 k ∧ Hid (∀ j : Nat, 1 ≤ j → j < k → fallB xs j = false) ∧ ∃ n, w.drewN n = wr) (fun si _ => xs.length - (intOf si).toNat)
  case atStart => exact ⟨1, by omega, by omega, rfl, fun j h1 h2 => by omega, _, rfl⟩
  case round =>
    obtain ⟨k, hk1, hk2, rfl, hno, q, hq⟩ := hrel
    have Hq := Lib.hid hq
    by_cases hlt : k < xs.length
    · obtain ⟨c, hc⟩ := get_of_lt hlt
      obtain ⟨d, hd⟩ := get_of_lt (xs := xs) (k := k - 1) (by omega)
      obtain ⟨ad2, e4, -, hcc⟩ := HA.out k c hc
      cases e4
      obtain ⟨ad3, e5, -, hcd⟩ := HA.out (k - 1) d hd
      cases e5
      have hfl : fallB xs k = (FloatKind.f32.format.order c d == some .lt) := by unfold fallB; rw [List.getD_eq_getElem?_getD, List.getD_eq_getElem?_getD, hc, hd]; rfl
      have hsub : IntKind.i64.wrap ((k : Int) - 1) = ((k - 1 : Nat) : Int) := by rw [IntWalk.i64_in _ (by omega)]; omega
      have f0 : wr.cell? (ad.add k) = some (fV c) := by rw [← hq]; exact hcc
      have f1 : wr.cell? (ad.add (k - 1)) = some (fV d) := by rw [← hq]; exact hcd
      have i0 : (0 : Int) ≤ (k : Int) := by omega
      have i1 : (k : Int) < (xs.length : Int) := by omega
      have j0 : (0 : Int) ≤ ((k - 1 : Nat) : Int) := by omega
      have j1 : ((k - 1 : Nat) : Int) < (xs.length : Int) := by omega
      clear hc hd hcc hcd hq
      cases ho : (FloatKind.f32.format.order c d == some .lt)
      · rw [ho] at hfl
        have HFL := Lib.hid hfl
        clear hfl
        go_wp2
        go_quiet (fail)
        go_wp2
        go_roundw
        case rel => exact ⟨k + 1, by omega, by omega, by go_num, fun j a1 a2 => by rcases Nat.lt_or_ge j k with h | h; exact hno.out j a1 h; rw [show j = k by omega]; exact HFL.out, _, by rw [← Hq.out, World.drewN_drewN]⟩
        case measure => simp [intOf]; omega
      · rw [ho] at hfl
        have HO := Lib.hid (band_no_sorted (s := s) (sortedB_f hk1 hlt hfl))
        clear hfl
        go_wp2
        go_quiet (fail)
        go_wp2
        go_ret3
        exact ret_band_no HO.out (by rw [← Hq.out, World.drewN_drewN]; exact below_of_drew ⟨_, rfl⟩)
    · have hke : k = xs.length := by omega
      have HO := Lib.hid (show bandOk xs s = true by unfold bandOk; rw [HL.out, HS3.out, sortedB_t fun j a1 a2 => hno.out j a1 (by omega)]; rfl)
      have hb : Below w.heap.size w wr := below_of_drew ⟨_, hq⟩
      have e0 : wr.cell? (ad.add i) = some (fV x) := by rw [← hq]; exact HC0.out
      have e1 : wr.cell? (ad.add (xs.length - 1 - i)) = some (fV y) := by rw [← hq]; exact HC1.out
      have rm := RM.out
      have ru := RU.out
      have rf := RF.out
      have rt := RT.out
      clear hq
      go_wp2_with (go_at_call 57; refine (rf _).mono ?_; rintro e w' ⟨rfl, rfl⟩)
      all_goals
        first | rw [show ((bandP s xs.length : Nat) : Int) = (i : Int) by rw [HI.out]; unfold bandI; omega] | rw [show ((xs.length : Int) - 1) / 2 = (i : Int) by rw [HI.out]; unfold bandI; omega]
        have hs0 : IntKind.i64.wrap ((xs.length : Int) - 1) = ((xs.length - 1 : Nat) : Int) := by rw [IntWalk.i64_in _ (by omega)]; omega
        have hs1 : IntKind.i64.wrap (((xs.length - 1 : Nat) : Int) - (i : Int)) = ((xs.length - 1 - i : Nat) : Int) := by rw [IntWalk.i64_in _ (by omega)]; omega
        have i0 : (0 : Int) ≤ (i : Int) := by omega
        have i1 : (i : Int) < (xs.length : Int) := by omega
        have j0 : (0 : Int) ≤ ((xs.length - 1 - i : Nat) : Int) := by omega
        have j1 : ((xs.length - 1 - i : Nat) : Int) < (xs.length : Int) := by omega
        clear rm ru rf rt
        go_quiet (fail)
        go_wp2
        go_ret3
        exact ret_band_yes HO.out HI.out HX.out HY.out (below_drewN_ hb)
end Go.Proofs.Ytchcgapgpflknaa
