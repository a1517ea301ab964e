/-
  BellBelow and BellAt: both texts.
-/
import Derived.Test.YthafpbhjpmnddaaBellW
namespace Go.Proofs.Ythafpbhjpmnddaa
open Go.RowKit
attribute [local go_sem] run_fl_add run_fl_sub run_fl_mul run_fl_quo run_up_ run_dn_

theorem bell_dom {x : Nat} (h : finB x = true) : Bet .f32 (absF .f32 x) (-p2 3) (p2 3) ∨ (FloatKind.f32.format.order x 3233808384 == some .lt) = true ∨ (FloatKind.f32.format.order x 1086324736 == some .gt) = true := by
  unfold finB at h
  cases e : FloatKind.f32.decode x with
  | nan s t => rw [e] at h; cases h
  | infinity s => rw [e] at h; cases h
  | number s m p =>
    have e' : FloatKind.f32.format.read x = .number s m p := e
    have ra : FloatKind.f32.format.read 3233808384 = .number true 12582912 (-21) := by decide
    have rb : FloatKind.f32.format.read 1086324736 = .number false 12582912 (-21) := by decide
    have hb : mg 12582912 (-21) ≤ p2 3 := by
      have := (mg_le (p := -21)).2 (show 12582912 ≤ 2 ^ 24 by decide)
      rwa [mg_pow] at this
    have hn : (FloatKind.f32.decode x).isNaN = false := by rw [e]; rfl
    by_cases h1 : FloatKind.f32.format.order x 3233808384 = some .lt
    · exact .inr (.inl (by rw [h1]; rfl))
    by_cases h2 : FloatKind.f32.format.order x 1086324736 = some .gt
    · exact .inr (.inr (by rw [h2]; rfl))
    left
    rw [absF_of hn]
    unfold Ieee.Format.order at h1 h2
    rw [e', ra] at h1
    rw [e', rb] at h2
    have g1 := Rat.not_lt.1 (fun h => h1 ((order_cmp s m p true 12582912 (-21)).1.2 h))
    have g2 := Rat.not_lt.1 (fun h => h2 ((order_cmp s m p false 12582912 (-21)).2.1.2 h))
    refine bet_of e' ?_ ?_
    · refine Rat.le_trans ?_ g1
      simp only [vD, sg_t]
      grind
    · exact Rat.le_trans g2 hb
def RetBellBelow (x : Nat) (w : World) (e : Ending) (w' : World) : Prop :=
  ∃ b, e = .returned (.tuple #[fV b, .bool (finB x)]) ∧ absF .f32 b = (if finB x = true then bellA (absF .f32 x) else some 0) ∧ Below w.heap.size w w'
theorem implBellBelow_any (x : Nat) (w : World) : Calls Try.prog 6 #[fV x] w (RetBellBelow x w) := by
  unfold RetBellBelow
  cases h : finB x
  · have H := Lib.hid h
    clear h
    go_enter Try.func6, Try.ntmps6
    go_wp2_with (go_at_call 13; refine (isFinite_any _ _).mono ?_; rintro e w' ⟨rfl, n, rfl⟩; rw [H.out])
    go_ret2
    exact ⟨0, rfl, litF (by decide), below_of_drew ⟨_, rfl⟩⟩
  · have H := Lib.hid h
    have HD := Lib.hid (bell_dom h)
    clear h
    go_enter Try.func6, Try.ntmps6
    go_wp2_with (first
      | (go_at_call 13; refine (isFinite_any _ _).mono ?_; rintro e w' ⟨rfl, n, rfl⟩; rw [H.out])
      | (go_at_call 14; refine (bellBelow_any _ HD.out _).mono ?_; rintro e w' ⟨b, rfl, hb, m, rfl⟩; have HB := Lib.hid hb; clear hb))
    go_ret2
    exact ⟨_, rfl, HB.out, below_of_drew ⟨_, rfl⟩⟩
/-! ### BellAt -/
def midA (l h : Option Nat) : Option Nat := opF .mul .f32 (some 1056964608) (opF .add .f32 l h)
def bisA (p : Option Nat) : Nat → Option Nat × Option Nat
  | 0 => (some 3233808384, some 1086324736)
  | k + 1 => if ordF .f32 (bellA (midA (bisA p k).1 (bisA p k).2)) p == some .lt then (midA (bisA p k).1 (bisA p k).2, (bisA p k).2) else ((bisA p k).1, midA (bisA p k).1 (bisA p k).2)
theorem mid_bet {l h : Option Nat} (hl : Bet .f32 l (-p2 3) (p2 3)) (hh : Bet .f32 h (-p2 3) (p2 3)) : Bet .f32 (midA l h) (-p2 3) (p2 3) := by
  have h4 := rep32 (E := 4) (by omega) (by omega)
  have e4 : p2 3 + p2 3 = p2 4 := by
    have h1 := mg_succ 1 3
    have h2 := mg_pow 1 3
    rw [mg_one] at h1
    rw [← h1]
    exact h2
  have hs : Bet .f32 (opF .add .f32 l h) (-p2 4) (p2 4) := bet_add hl hh (rep_neg h4) h4 (by grind) (by grind)
  have hc : Bet .f32 (some 1056964608) (-p2 (-1)) (p2 (-1)) := by
    have := bet_lit (k := .f32) (b := 1056964608) (m := 2 ^ 23) (s := false) (p := -24) (by decide)
    simp only [vD, sg_f] at this
    rw [mg_pow] at this
    have hp := p2_pos (-1)
    exact this.mono (by show -p2 (-1) ≤ p2 (-1); grind) Rat.le_refl
  have := bet_mul2 hc hs (rep32 (by omega) (by omega))
  exact this
theorem bis_bet (p : Option Nat) : ∀ k, Bet .f32 (bisA p k).1 (-p2 3) (p2 3) ∧ Bet .f32 (bisA p k).2 (-p2 3) (p2 3)
  | 0 => by
    have hb : mg 12582912 (-21) ≤ p2 3 := by
      have := (mg_le (p := -21)).2 (show 12582912 ≤ 2 ^ 24 by decide)
      rwa [mg_pow] at this
    have hz := mg_nn 12582912 (-21)
    constructor
    · refine bet_of (k := .f32) (s := true) (m := 12582912) (p := -21) (by decide) ?_ ?_ <;> simp only [vD, sg_t] <;> grind
    · refine bet_of (k := .f32) (s := false) (m := 12582912) (p := -21) (by decide) ?_ ?_ <;> simp only [vD, sg_f] <;> grind
  | k + 1 => by
    obtain ⟨h1, h2⟩ := bis_bet p k
    unfold bisA
    split
    · exact ⟨mid_bet h1 h2, h2⟩
    · exact ⟨h1, mid_bet h1 h2⟩
def openB (p : Nat) : Bool := (FloatKind.f32.format.order p 0 == some .gt) && (FloatKind.f32.format.order p 1065353216 == some .lt)
def RetBellAt (p : Nat) (w : World) (e : Ending) (w' : World) : Prop :=
  ∃ b, e = .returned (.tuple #[fV b, .bool (openB p)]) ∧ absF .f32 b = (if openB p = true then (bisA (absF .f32 p) 40).1 else some 0) ∧ Below w.heap.size w w'
theorem mid_abs {l h : Nat} {W1 W2 : World} {A B : Option Nat} (hl : absF .f32 l = A) (hh : absF .f32 h = B) : absF .f32 (flR .quo .f32 (flR .add .f32 l h W1) 1073741824 W2) = midA A B := by
  rw [abs_flR .quo rfl, abs_flR .add rfl, hl, hh, litF (b := 1073741824) (by decide), half_eq]
  rfl
theorem mid_abs2 {l h : Nat} {W1 W2 : World} {A B : Option Nat} (hl : absF .f32 l = A) (hh : absF .f32 h = B) : absF .f32 (flR .mul .f32 1056964608 (flR .add .f32 l h W1) W2) = midA A B := by
  rw [abs_flR .mul rfl, abs_flR .add rfl, hl, hh, litF (b := 1056964608) (by decide)]
  rfl
theorem bis_lt {P : Option Nat} {k : Nat} (h : (ordF .f32 (bellA (midA (bisA P k).1 (bisA P k).2)) P == some .lt) = true) : bisA P (k + 1) = (midA (bisA P k).1 (bisA P k).2, (bisA P k).2) := by rw [bisA, if_pos h]
theorem bis_ge {P : Option Nat} {k : Nat} (h : (ordF .f32 (bellA (midA (bisA P k).1 (bisA P k).2)) P == some .lt) = false) : bisA P (k + 1) = ((bisA P k).1, midA (bisA P k).1 (bisA P k).2) := by rw [bisA, if_neg (by rw [h]; exact Bool.false_ne_true)]
set_option maxHeartbeats 3200000 in
theorem implBellAt_any (p : Nat) (w : World) : Calls Try.prog 7 #[fV p] w (RetBellAt p w) := by
  unfold RetBellAt openB
  cases h1 : (FloatKind.f32.format.order p 0 == some .gt) <;> cases h2 : (FloatKind.f32.format.order p 1065353216 == some .lt)
  case true.true =>
    go_enter Try.func7, Try.ntmps7
    go_wp2
    go_loopw [4, 5, 14] (fun sl sh sk wr => ∃ (k l h : Nat), k ≤ 40 ∧ sl = fV l ∧ sh = fV h ∧ sk = .int .i64 (k : Int) ∧ Hid (absF .f32 l = (bisA (absF .f32 p) k).1) ∧ Hid (absF .f32 h = (bisA (absF .f32 p) k).2) ∧ ∃ n, w.drewN n = wr) (fun _ _ sk _ => 40 - (intOf sk).toNat)
    case atStart => exact ⟨0, _, _, by omega, rfl, rfl, rfl, litF (by decide), litF (by decide), 0, rfl⟩
    case round =>
      obtain ⟨k, l, h, hk, rfl, rfl, rfl, hl, hh, q, rfl⟩ := hrel
      by_cases hlt : k < 40
      · have HM := Lib.hid (mid_bet (bis_bet (absF .f32 p) k).1 (bis_bet (absF .f32 p) k).2)
        go_wp2_with fail
        refine (bellBelow_any _ (.inl (by rw [mid_abs hl.out hh.out]; exact HM.out)) _).mono ?_
        rintro e w' ⟨b, rfl, hb, m, rfl⟩
        rw [mid_abs hl.out hh.out] at hb
        generalize hm : flR .quo .f32 (flR .add .f32 l h _) 1073741824 _ = md
        have hma : absF .f32 md = midA (bisA (absF .f32 p) k).1 (bisA (absF .f32 p) k).2 := by rw [← hm]; exact mid_abs hl.out hh.out
        clear hm
        have HMA := Lib.hid hma
        have ho : FloatKind.f32.format.order b p = ordF .f32 (bellA (midA (bisA (absF .f32 p) k).1 (bisA (absF .f32 p) k).2)) (absF .f32 p) := by rw [ord_abs, hb]
        have HO := Lib.hid ho
        clear hma hb ho
        cases hc : (FloatKind.f32.format.order b p == some .lt)
        · have HN := Lib.hid (bis_ge (by rw [← HO.out]; exact hc))
          go_wp2
          go_roundw
          case rel => exact ⟨k + 1, _, _, by omega, rfl, rfl, by go_num, by unfold Hid; rw [HN.out]; exact hl.out, by unfold Hid; rw [HN.out]; exact HMA.out, _, rfl⟩
          case measure => simp [intOf]; omega
        · have HN := Lib.hid (bis_lt (by rw [← HO.out]; exact hc))
          go_wp2
          go_roundw
          case rel => exact ⟨k + 1, _, _, by omega, rfl, rfl, by go_num, by unfold Hid; rw [HN.out]; exact HMA.out, by unfold Hid; rw [HN.out]; exact hh.out, _, rfl⟩
          case measure => simp [intOf]; omega
      · have hke : k = 40 := by omega
        subst hke
        go_wp2
        go_ret2
        exact ⟨_, rfl, by rw [hl.out], below_of_drew ⟨_, rfl⟩⟩
  all_goals
    go_enter Try.func7, Try.ntmps7
    go_wp2
    go_ret2
    exact ⟨_, rfl, litF (by decide), below_of_drew ⟨0, rfl⟩⟩
end Go.Proofs.Ythafpbhjpmnddaa
