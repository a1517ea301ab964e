/-
  Fitted mixtures, plainly: what a round makes of the parts, and what so many rounds make.
  Fitted mixtures: the walk of impl.fitPart.
-/
import Derived.Test.YtimpabceellihaaLike
import Derived.Test.YtimpabceellihaaShRet
import Derived.Test.YtimpabceellihaaSqrt
namespace Go.Proofs.Ytimpabceellihaa
section
open Go.RowKit

/-! ### mixtures up to NaNs -/
def mixAB (V M S : List (Option Nat)) : Bool := decide (1 ≤ V.length ∧ V.length ≤ 8) && decide (M.length = V.length) && decide (S.length = V.length) && M.all finA && (V.all leastA && nearA (sumF V)) && S.all aboveA
theorem all_absL (p : Nat → Bool) (q : Option Nat → Bool) (h : ∀ b, p b = q (absF .f32 b)) (l : List Nat) : l.all p = (absL l).all q := by
  unfold absL
  rw [List.all_map]
  congr 1
  funext b
  exact h b
theorem mixB_abs (v m s : List Nat) : mixB v m s = mixAB (absL v) (absL m) (absL s) := by
  unfold mixB mixAB
  rw [all_absL finB finA fin_abs, all_absL leastB leastA least_abs, all_absL aboveB aboveA above_abs]
  simp [absL]
/-- The words of numbers that are no NaN. -/
def wdL (V : List (Option Nat)) : List Nat := V.map fun o => o.getD 0
theorem wdL_len (V : List (Option Nat)) : (wdL V).length = V.length := by simp [wdL]
theorem abs_some {b c : Nat} (h : absF .f32 b = some c) : b = c := by
  unfold absF at h
  split at h
  · cases h
  · exact Option.some.inj h
theorem wdL_of {y : List Nat} {V : List (Option Nat)} (h : absL y = V) (hs : ∀ o ∈ V, o ≠ none) : y = wdL V := by
  subst h
  unfold wdL absL
  rw [List.map_map]
  refine (List.map_id y).symm.trans (List.map_congr_left (fun b hb => ?_))
  show b = (absF .f32 b).getD 0
  cases hb' : absF .f32 b with
  | none => exact absurd hb' (hs _ (List.mem_map.2 ⟨b, hb, rfl⟩))
  | some c => exact abs_some hb'
theorem finA_some {o : Option Nat} (h : finA o = true) : o ≠ none := fun e => by subst e; cases h
theorem leastA_some {o : Option Nat} (h : leastA o = true) : o ≠ none := fun e => by subst e; cases h
theorem aboveA_some {o : Option Nat} (h : aboveA o = true) : o ≠ none := fun e => by subst e; cases h
theorem mixAB_some {V M S : List (Option Nat)} (h : mixAB V M S = true) : (∀ o ∈ V, o ≠ none) ∧ (∀ o ∈ M, o ≠ none) ∧ (∀ o ∈ S, o ≠ none) := by
  unfold mixAB at h
  simp only [Bool.and_eq_true] at h
  exact ⟨fun o ho => leastA_some (List.all_eq_true.1 h.1.2.1 o ho), fun o ho => finA_some (List.all_eq_true.1 h.1.1.2 o ho), fun o ho => aboveA_some (List.all_eq_true.1 h.2 o ho)⟩

/-! ### a round -/
def wideTo (ys xs : List Nat) (M : Option Nat) (k : Nat) : Option Nat :=
  (List.range k).foldl (fun s i => opF .add .f32 s (opF .mul .f32 (absF .f32 (ys.getD i 0)) (opF .mul .f32 (opF .sub .f32 (absF .f32 (xs.getD i 0)) M) (opF .sub .f32 (absF .f32 (xs.getD i 0)) M)))) (some 0)
theorem wideTo_succ {ys xs : List Nat} {M : Option Nat} {k y x : Nat} (hy : ys[k]? = some y) (hx : xs[k]? = some x) :
    wideTo ys xs M (k + 1) = opF .add .f32 (wideTo ys xs M k) (opF .mul .f32 (absF .f32 y) (opF .mul .f32 (opF .sub .f32 (absF .f32 x) M) (opF .sub .f32 (absF .f32 x) M))) := by
  unfold wideTo
  rw [List.range_succ, List.foldl_append]
  simp only [List.foldl_cons, List.foldl_nil, getD_of hy, getD_of hx]
/-- A part out of its shares: its weight, its mean, its spread. -/
def ptW (n : Option Nat) (len : Nat) : Option Nat := opF .quo .f32 n (absF .f32 (floatOfInt .f32 (len : Int)))
def ptM (dot n : Option Nat) : Option Nat := opF .quo .f32 dot n
def ptS (wide n : Option Nat) : Option Nat := rt32 (opF .add .f32 (opF .quo .f32 wide n) (absF .f32 953267991))
def bigA (n : Option Nat) : Bool := ordF .f32 n (absF .f32 981668463) == some .gt
section
variable (x0 x1 x2 xs : List Nat)
/-- The share of a number in part k. -/
def fShr (k y : Nat) : Option Nat := opF .quo .f32 (dAt x0 x1 x2 y k) (mixS x0 x1 x2 y)
/-- The shares of the first m numbers in part k. -/
def fCol (k m : Nat) : List (Option Nat) := (xs.take m).map (fShr x0 x1 x2 k)
def fN (k m : Nat) : Option Nat := sumF (fCol x0 x1 x2 xs k m)
def fDot (k m : Nat) : Option Nat := (xs.take m).foldl (fun s y => opF .add .f32 s (opF .mul .f32 (fShr x0 x1 x2 k y) (absF .f32 y))) (some 0)
def fMean (k : Nat) : Option Nat := ptM (fDot x0 x1 x2 xs k xs.length) (fN x0 x1 x2 xs k xs.length)
def fWide (k m : Nat) : Option Nat :=
  (xs.take m).foldl (fun s y => opF .add .f32 s (opF .mul .f32 (fShr x0 x1 x2 k y) (opF .mul .f32 (opF .sub .f32 (absF .f32 y) (fMean x0 x1 x2 xs k)) (opF .sub .f32 (absF .f32 y) (fMean x0 x1 x2 xs k))))) (some 0)
def fBig (k : Nat) : Bool := bigA (fN x0 x1 x2 xs k xs.length)
def fW (k : Nat) : Option Nat := if fBig x0 x1 x2 xs k then ptW (fN x0 x1 x2 xs k xs.length) xs.length else absF .f32 (x0.getD k 0)
def fM (k : Nat) : Option Nat := if fBig x0 x1 x2 xs k then fMean x0 x1 x2 xs k else absF .f32 (x1.getD k 0)
def fS (k : Nat) : Option Nat := if fBig x0 x1 x2 xs k then ptS (fWide x0 x1 x2 xs k xs.length) (fN x0 x1 x2 xs k xs.length) else absF .f32 (x2.getD k 0)
def fL (f : Nat → Option Nat) (k : Nat) : List (Option Nat) := (List.range k).map f
/-- The parts behind a round. -/
def fVs : List (Option Nat) := fL (fW x0 x1 x2 xs) x0.length
def fMs : List (Option Nat) := fL (fM x0 x1 x2 xs) x0.length
def fSs : List (Option Nat) := fL (fS x0 x1 x2 xs) x0.length
def fUp (m : Nat) : Bool := (xs.take m).all fun y => aboveA (mixS x0 x1 x2 y)
def fOk : Bool := fUp x0 x1 x2 xs xs.length && mixAB (fVs x0 x1 x2 xs) (fMs x0 x1 x2 xs) (fSs x0 x1 x2 xs)
variable {x0 x1 x2 xs}
theorem fCol_succ {k m y : Nat} (h : xs[m]? = some y) : fCol x0 x1 x2 xs k (m + 1) = fCol x0 x1 x2 xs k m ++ [fShr x0 x1 x2 k y] := by simp [fCol, take_snoc h]
theorem fCol_len {k m : Nat} (h : m ≤ xs.length) : (fCol x0 x1 x2 xs k m).length = m := by simp [fCol]; omega
theorem fN_succ {k m y : Nat} (h : xs[m]? = some y) : fN x0 x1 x2 xs k (m + 1) = opF .add .f32 (fN x0 x1 x2 xs k m) (fShr x0 x1 x2 k y) := by unfold fN; rw [fCol_succ h, sumF_snoc]
theorem fDot_succ {k m y : Nat} (h : xs[m]? = some y) : fDot x0 x1 x2 xs k (m + 1) = opF .add .f32 (fDot x0 x1 x2 xs k m) (opF .mul .f32 (fShr x0 x1 x2 k y) (absF .f32 y)) := by simp [fDot, take_snoc h]
theorem fWide_succ {k m y : Nat} (h : xs[m]? = some y) : fWide x0 x1 x2 xs k (m + 1) = opF .add .f32 (fWide x0 x1 x2 xs k m) (opF .mul .f32 (fShr x0 x1 x2 k y) (opF .mul .f32 (opF .sub .f32 (absF .f32 y) (fMean x0 x1 x2 xs k)) (opF .sub .f32 (absF .f32 y) (fMean x0 x1 x2 xs k)))) := by
  simp [fWide, take_snoc h]
theorem fUp_succ {m y : Nat} (h : xs[m]? = some y) : fUp x0 x1 x2 xs (m + 1) = (fUp x0 x1 x2 xs m && aboveA (mixS x0 x1 x2 y)) := by simp [fUp, take_snoc h]
theorem fUp_no {m y : Nat} (hy : xs[m]? = some y) (h : aboveA (mixS x0 x1 x2 y) = false) : fOk x0 x1 x2 xs = false := by
  unfold fOk
  have : fUp x0 x1 x2 xs xs.length = false := by
    unfold fUp
    rw [List.take_length, List.all_eq_false]
    exact ⟨y, List.mem_of_getElem? hy, by rw [h]; simp⟩
  rw [this, Bool.false_and]
theorem fL_succ (f : Nat → Option Nat) (k : Nat) : fL f (k + 1) = fL f k ++ [f k] := by simp [fL, List.range_succ]
theorem fL_len (f : Nat → Option Nat) (k : Nat) : (fL f k).length = k := by simp [fL]
/-- A column of shares in words. -/
theorem col_at {ys : List Nat} {k m y : Nat} (h : absL ys = fCol x0 x1 x2 xs k xs.length) (hm : m < xs.length) (hy : xs[m]? = some y) : ∃ b, ys[m]? = some b ∧ absF .f32 b = fShr x0 x1 x2 k y := by
  have hl : ys.length = xs.length := by
    have := congrArg List.length h
    rw [fCol_len (Nat.le_refl _)] at this
    simpa [absL] using this
  obtain ⟨b, hb⟩ := get_of_lt (xs := ys) (k := m) (by omega)
  refine ⟨b, hb, ?_⟩
  have h1 : (absL ys)[m]? = some (absF .f32 b) := by unfold absL; rw [List.getElem?_map, hb]; rfl
  rw [h] at h1
  unfold fCol at h1
  rw [List.take_length, List.getElem?_map, hy] at h1
  exact (Option.some.inj h1).symm
theorem col_dot {ys : List Nat} {k : Nat} (h : absL ys = fCol x0 x1 x2 xs k xs.length) : ∀ m, m ≤ xs.length → dotTo ys xs m = fDot x0 x1 x2 xs k m
  | 0, _ => rfl
  | m + 1, hm => by
    obtain ⟨y, hy⟩ := get_of_lt (xs := xs) (k := m) (by omega)
    obtain ⟨b, hb, e⟩ := col_at h (by omega) hy
    rw [dotTo_succ hb hy, fDot_succ hy, col_dot h m (by omega), e]
theorem col_wide {ys : List Nat} {k : Nat} (h : absL ys = fCol x0 x1 x2 xs k xs.length) : ∀ m, m ≤ xs.length → wideTo ys xs (fMean x0 x1 x2 xs k) m = fWide x0 x1 x2 xs k m
  | 0, _ => rfl
  | m + 1, hm => by
    obtain ⟨y, hy⟩ := get_of_lt (xs := xs) (k := m) (by omega)
    obtain ⟨b, hb, e⟩ := col_at h (by omega) hy
    rw [wideTo_succ hb hy, fWide_succ hy, col_wide h m (by omega), e]
end

/-! ### so many rounds -/
/-- The mixture behind so many rounds, if all can be told. -/
def fitN (xs : List Nat) : Nat → List Nat → List Nat → List Nat → Option (List Nat × List Nat × List Nat)
  | 0, x0, x1, x2 => some (x0, x1, x2)
  | r + 1, x0, x1, x2 => if fOk x0 x1 x2 xs then fitN xs r (wdL (fVs x0 x1 x2 xs)) (wdL (fMs x0 x1 x2 xs)) (wdL (fSs x0 x1 x2 xs)) else none
theorem fitN_yes {xs x0 x1 x2 : List Nat} {r : Nat} (h : fOk x0 x1 x2 xs = true) : fitN xs (r + 1) x0 x1 x2 = fitN xs r (wdL (fVs x0 x1 x2 xs)) (wdL (fMs x0 x1 x2 xs)) (wdL (fSs x0 x1 x2 xs)) := by
  show (if fOk x0 x1 x2 xs then _ else _) = _
  rw [if_pos h]
theorem fitN_no {xs x0 x1 x2 : List Nat} {r : Nat} (h : fOk x0 x1 x2 xs = false) : fitN xs (r + 1) x0 x1 x2 = none := by
  show (if fOk x0 x1 x2 xs then _ else _) = _
  rw [h]
  rfl
/-- A round's words are those of a mixture. -/
theorem fOk_words {xs x0 x1 x2 y0 y1 y2 : List Nat} (h : mixAB (fVs x0 x1 x2 xs) (fMs x0 x1 x2 xs) (fSs x0 x1 x2 xs) = true) (h0 : absL y0 = fVs x0 x1 x2 xs) (h1 : absL y1 = fMs x0 x1 x2 xs) (h2 : absL y2 = fSs x0 x1 x2 xs) :
    y0 = wdL (fVs x0 x1 x2 xs) ∧ y1 = wdL (fMs x0 x1 x2 xs) ∧ y2 = wdL (fSs x0 x1 x2 xs) ∧ mixB y0 y1 y2 = true := by
  obtain ⟨k0, k1, k2⟩ := mixAB_some h
  exact ⟨wdL_of h0 k0, wdL_of h1 k1, wdL_of h2 k2, by rw [mixB_abs, h0, h1, h2]; exact h⟩
def fitOk (x0 x1 x2 xs : List Nat) (r : Int) : Bool := (mixB x0 x1 x2 && (sampB xs 2 && inB r 0 64)) && (fitN xs r.toNat x0 x1 x2).isSome
def fitR (x0 x1 x2 xs : List Nat) (r : Int) : List Nat × List Nat × List Nat := if fitOk x0 x1 x2 xs r then (fitN xs r.toNat x0 x1 x2).getD ([], [], []) else ([], [], [])
end

section
open Go.RowKit
attribute [local go_sem] run_fl_add run_fl_sub run_fl_mul run_fl_quo run_up_

set_option maxRecDepth 10000 in
set_option maxHeartbeats 1600000 in
theorem fitPart_any (v0 v1 : Value) (ys xs : List Nat) (hn : xs.length ≤ 256) (hl : ys.length = xs.length) (n : Nat) (w : World) (hr0 : Rd fV w v0 ys) (hr1 : Rd fV w v1 xs) :
    Calls Try.prog 52 #[v0, v1, fV n] w fun e w' => ∃ a b c, e = .returned (.tuple #[fV a, fV b, fV c]) ∧ absF .f32 a = ptW (absF .f32 n) xs.length ∧ absF .f32 b = ptM (dotTo ys xs xs.length) (absF .f32 n) ∧
      absF .f32 c = ptS (wideTo ys xs (ptM (dotTo ys xs xs.length) (absF .f32 n)) xs.length) (absF .f32 n) ∧ ∃ m, w.drewN m = w' := by
  have HR0 := Lib.hid hr0
  have HR1 := Lib.hid hr1
  obtain ⟨A0, cap0, rfl, hcap0, hA0⟩ := hr0
  obtain ⟨A1, cap1, rfl, hcap1, hA1⟩ := hr1
  have HA0 := Lib.hid hA0
  have HA1 := Lib.hid hA1
  have HL := Lib.hid hl
  rw [hl] at hcap0 HR0 ⊢
  clear hA0 hA1 hl
  obtain ⟨M, hM⟩ : ∃ M, M = ptM (dotTo ys xs xs.length) (absF .f32 n) := ⟨_, rfl⟩
  rw [← hM]
  have HM := Lib.hid hM
  clear hM
  go_enter Try.func52, Try.ntmps52
  go_wp2_with fail
  refine (dotNumbers_any _ _ ys xs (by rw [HL.out]; exact hn) HL.out.symm _ HR0.out HR1.out).mono ?_
  rintro e w1 ⟨d, rfl, hd, m1, rfl⟩
  rw [HL.out] at hd
  have HD := Lib.hid hd
  clear hd
  go_wp2_with fail
  obtain ⟨mb, hmb⟩ : ∃ mb, mb = flR .quo .f32 d n (w.drewN m1) := ⟨_, rfl⟩
  have hma : absF .f32 mb = M := by rw [hmb, abs_flR .quo rfl, HD.out, HM.out]; rfl
  rw [← hmb]
  have HMA := Lib.hid hma
  clear hma hmb
  go_loopw [11, 26] (fun ss si wr => ∃ (k b : Nat), k ≤ xs.length ∧ si = .int .i64 k ∧ ss = fV b ∧ Hid (absF .f32 b = wideTo ys xs M k) ∧ ∃ n, w.drewN n = wr) (fun _ si _ => xs.length - (intOf si).toNat)
  case atStart => exact ⟨0, 0, by omega, rfl, rfl, Lib.hid abs_zero, _, rfl⟩
  case round =>
    obtain ⟨k, b, hk, rfl, rfl, hs, m2, rfl⟩ := hrel
    by_cases hlt : k < xs.length
    · obtain ⟨y, hy⟩ := get_of_lt (xs := ys) (k := k) (by rw [HL.out]; exact hlt)
      obtain ⟨x, hx⟩ := get_of_lt hlt
      obtain ⟨ad, rfl, hbl, hcell⟩ := HA0.out k y hy
      obtain ⟨ad1, rfl, hbl1, hcell1⟩ := HA1.out k x hx
      have HW := Lib.hid (wideTo_succ (M := M) hy hx)
      clear hx hy
      go_wp2
      go_roundw
      case rel => exact ⟨k + 1, _, by omega, by go_num, rfl, by unfold Hid; rw [HW.out, abs_flR .add rfl, abs_flR .mul rfl, abs_flR .mul rfl, abs_flR .sub rfl, hs.out, HMA.out], _, rfl⟩
      case measure => simp [intOf]; omega
    · have hke : k = xs.length := by omega
      have HKE := Lib.hid hke
      clear hke
      go_wp2_with fail
      refine (rootNumber_any _ _).mono ?_
      rintro e w5 ⟨r, rfl, hr, m5, rfl⟩
      have HR := Lib.hid hr
      clear hr
      go_wp2
      go_ret3
      refine ⟨_, mb, r, rfl, ?_, HMA.out, ?_, _, rfl⟩
      · rw [abs_flR .quo rfl]; rfl
      · rw [HR.out, abs_flR .add rfl, abs_flR .quo rfl, hs.out, HKE.out]; rfl
end
end Go.Proofs.Ytimpabceellihaa
