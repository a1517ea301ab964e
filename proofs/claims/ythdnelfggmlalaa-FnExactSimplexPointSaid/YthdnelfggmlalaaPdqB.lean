/-
  slices.reverseRangeOrdered, order2, median, choosePivot at float32, for finite numbers.
  slices.choosePivotOrdered at float32, for finite numbers.
-/
import Derived.Test.YthdnelfggmlalaaPdqA
namespace Go.Proofs.Ythdnelfggmlalaa
section
open Go.RowKit
attribute [local go_sem] run_store_float

/-- What a call that moves a range about ends in. -/
def MoveE (g n c a b : Nat) (xs : List Nat) (w : World) (e : Ending) (w' : World) : Prop :=
  e = .returned (.tuple #[]) ∧ ∃ ys, RowF w' g n c ys ∧ PR a b xs ys ∧ Touch g (g + 1) w w'

set_option maxHeartbeats 1600000 in
set_option maxRecDepth 100000 in
theorem reverseF_any (g n c a b : Nat) (xs : List Nat) (hab : a ≤ b) (hb : b ≤ n) (hn : n ≤ 1000000) (w : World) (hr : RowF w g n c xs) :
    Calls Try.prog 109 #[.slice (some ⟨g, 0, none⟩) n c, .int .i64 a, .int .i64 b] w (MoveE g n c a b xs w) := by
  have HL := Lib.hid hr.len
  have HR := Lib.hid hr
  clear hr
  go_enter Try.func109, Try.ntmps109
  go_wp2
  go_loopw [6, 7] (fun si sj wr => ∃ (i : Nat) (J : Int) (ys : List Nat), si = .int .i64 i ∧ sj = .int .i64 J ∧ a ≤ i ∧ i ≤ b ∧ -1 ≤ J ∧ J < b ∧ Hid (PR a b xs ys) ∧ RowF wr g n c ys ∧ Touch g (g + 1) w wr) (fun si _ _ => b + 1 - (intOf si).toNat)
  case atStart => exact ⟨a, (b : Int) - 1, xs, rfl, by go_num, Nat.le_refl _, hab, by omega, by omega, PR.refl _ _ _, HR.out, touch_refl _ _ _⟩
  case round =>
    obtain ⟨i, J, ys, rfl, rfl, hi1, hi2, hJ1, hJ2, hp, hR, hTo⟩ := hrel
    by_cases hlt : (i : Int) < J
    · obtain ⟨j, rfl⟩ : ∃ j : Nat, J = j := ⟨J.toNat, by omega⟩
      have hzl := hp.out.len.trans HL.out
      obtain ⟨x, hx⟩ := get_ex (xs := ys) (i := i) (by omega)
      obtain ⟨y, hy⟩ := get_ex (xs := ys) (i := j) (by omega)
      have c1 : wr.cell? ⟨g, i, none⟩ = some (fV x) := hR.at hx
      have c2 : wr.cell? ⟨g, j, none⟩ = some (fV y) := hR.at hy
      have f1 := hR.free i
      have f2 := hR.free j
      have c3 : (wr.setCell ⟨g, i, none⟩ (fV y)).cell? ⟨g, j, none⟩ = some (fV y) := swap_cell hR (by omega) hy
      have hz1 : (i : Int) < (n : Int) := by omega
      have hz2 : (j : Int) < (n : Int) := by omega
      have hz3 : (0 : Int) ≤ (i : Int) := by omega
      have hz4 : (0 : Int) ≤ (j : Int) := by omega
      have HS := Lib.hid (hR.sw i j x y)
      have HX := Lib.hid hx
      have HY := Lib.hid hy
      clear hR hzl hx hy
      go_wp2
      go_region
      go_wp2
      go_roundw
      case rel => exact ⟨i + 1, (j : Int) - 1, Go.Proofs.Ythdnelfggmlalaa.sw ys i j x y, by go_num, by go_num, by omega, by omega, by omega, by omega, hp.out.trans (PR.sw HX.out HY.out (by omega) (by omega) (by omega) (by omega)), HS.out.drew, hTo.trans ((touch_swap _ _ _ _ _ _).trans (touch_drewN (touch_refl _ _ _) 1))⟩
      case measure => simp [intOf]; omega
    · have HRY := Lib.hid hR
      clear hR
      go_wp2
      refine bodyPost_ret (results_none rfl _ _ _) rfl ?_
      exact ⟨rfl, ys, HRY.out, hp.out, hTo⟩

theorem RowF.touch {w w' : World} {g n c lo hi : Nat} {xs : List Nat} (h : RowF w g n c xs) (t : Touch lo hi w w') (hd : g < lo ∨ hi ≤ g) : RowF w' g n c xs := by
  have hb : w'.heap[g]? = w.heap[g]? := t.block g h.lt (by omega)
  refine ⟨h.1, ?_⟩
  rcases h.2 with ⟨e, _⟩ | ⟨g', cap, cur, e, h1, h2, rest⟩
  · cases e
  · cases e
    exact .inr ⟨g, c, cur, rfl, h1, hb.trans h2, rest⟩
theorem RowF.below {w w' : World} {g n c B : Nat} {xs : List Nat} (h : RowF w g n c xs) (t : Below B w w') (hd : g < B) : RowF w' g n c xs := by
  have hb : w'.heap[g]? = w.heap[g]? := t.block g hd
  refine ⟨h.1, ?_⟩
  rcases h.2 with ⟨e, _⟩ | ⟨g', cap, cur, e, h1, h2, rest⟩
  · cases e
  · cases e
    exact .inr ⟨g, c, cur, rfl, h1, hb.trans h2, rest⟩

/-! ### the choice of the pivot -/
def Ord2 (a b q k : Nat) (w : World) (e : Ending) (w' : World) : Prop :=
  ∃ p r k' : Nat, e = .returned (.tuple #[.int .i64 p, .int .i64 r]) ∧ (p = a ∧ r = b ∨ p = b ∧ r = a) ∧ BoxAt w' q [.int .i64 k'] ∧ k' ≤ k + 1 ∧ Touch q (q + 1) w w'
set_option maxRecDepth 100000 in
theorem order2_any (g n c a b q k : Nat) (xs : List Nat) (ha : a < n) (hb : b < n) (_hn : n ≤ 1000000) (hk : k ≤ 1000) (hF : Fins xs) (w : World) (hr : RowF w g n c xs) (hB : BoxAt w q [.int .i64 k]) :
    Calls Try.prog 149 #[.slice (some ⟨g, 0, none⟩) n c, .int .i64 a, .int .i64 b, .pointer (some ⟨q, 0, none⟩)] w (Ord2 a b q k w) := by
  have hl := hr.len
  obtain ⟨x, hx⟩ := get_ex (xs := xs) (i := a) (by omega)
  obtain ⟨y, hy⟩ := get_ex (xs := xs) (i := b) (by omega)
  have c1 : w.cell? ⟨g, a, none⟩ = some (fV x) := hr.at hx
  have c2 : w.cell? ⟨g, b, none⟩ = some (fV y) := hr.at hy
  have HCL := Lib.hid (less_q (hF.at hy) (hF.at hx) w)
  have hz1 : (a : Int) < (n : Int) := by omega
  have hz2 : (b : Int) < (n : Int) := by omega
  have hz3 : (0 : Int) ≤ (a : Int) := by omega
  have hz4 : (0 : Int) ≤ (b : Int) := by omega
  have HB := Lib.hid hB
  clear hr hF hx hy hl hB
  go_enter Try.func149, Try.ntmps149
  go_wp2
  go_quiet (exact HCL.out _)
  have hB2 : BoxAt (w.drewN nq) q [.int .i64 k] := HB.out.below (below_drewN_ (Below.refl _ _))
  have HT : Hid (Touch q (q + 1) w (w.drewN nq)) := touch_drewN (touch_refl _ _ _) _
  generalize w.drewN nq = w2 at *
  clear c1 c2 HCL HB
  cases hlc : ltW y x
  · go_wp2
    go_ret2
    exact ⟨a, b, k, rfl, .inl ⟨rfl, rfl⟩, hB2, by omega, HT.out⟩
  · have d0 := hB2.cell 0 _ rfl
    have d1 := hB2.free 0
    have HS := Lib.hid (hB2.set (i := 0) rfl (.int .i64 (k + 1 : Nat)))
    clear hB2
    go_wp2
    go_ret2
    exact ⟨b, a, k + 1, rfl, .inr ⟨rfl, rfl⟩, HS.out, by omega, HT.out.trans (Touch.setCell _ ⟨q, 0, none⟩ _)⟩

def Med (a b d q k m : Nat) (w : World) (e : Ending) (w' : World) : Prop :=
  ∃ p k' : Nat, e = .returned (.int .i64 p) ∧ (p = a ∨ p = b ∨ p = d) ∧ BoxAt w' q [.int .i64 k'] ∧ k' ≤ k + m ∧ Touch q (q + 1) w w'
set_option maxRecDepth 100000 in
theorem median_any (g n c a b d q k : Nat) (xs : List Nat) (ha : a < n) (hb : b < n) (hd : d < n) (hn : n ≤ 1000000) (hk : k ≤ 900) (hF : Fins xs) (w : World) (hr : RowF w g n c xs) (hB : BoxAt w q [.int .i64 k]) (hgq : g ≠ q) :
    Calls Try.prog 128 #[.slice (some ⟨g, 0, none⟩) n c, .int .i64 a, .int .i64 b, .int .i64 d, .pointer (some ⟨q, 0, none⟩)] w (Med a b d q k 3 w) := by
  have HF := Lib.hid hF
  have HR := Lib.hid hr
  have HB := Lib.hid hB
  clear hF hr hB
  go_enter Try.func128, Try.ntmps128
  go_wp2_with fail
  refine (order2_any g n c a b q k xs ha hb hn (by omega) HF.out _ HR.out HB.out).mono ?_
  rintro e w1 ⟨p1, r1, k1, rfl, h1, b1, e1, t1⟩
  have R1 := HR.out.touch t1 (by omega)
  go_wp2_with fail
  refine (order2_any g n c r1 d q k1 xs (by omega) hd hn (by omega) HF.out _ R1 b1).mono ?_
  rintro e w2 ⟨p2, r2, k2, rfl, h2, b2, e2, t2⟩
  have R2 := R1.touch t2 (by omega)
  go_wp2_with fail
  refine (order2_any g n c p1 p2 q k2 xs (by omega) (by omega) hn (by omega) HF.out _ R2 b2).mono ?_
  rintro e w3 ⟨p3, r3, k3, rfl, h3, b3, e3, t3⟩
  go_wp2
  go_ret
  exact ⟨r3, k3, rfl, by omega, b3, by omega, (t1.trans t2).trans t3⟩
set_option maxRecDepth 100000 in
theorem medianAdj_any (g n c a q k : Nat) (xs : List Nat) (ha0 : 1 ≤ a) (ha : a + 1 < n) (hn : n ≤ 1000000) (hk : k ≤ 900) (hF : Fins xs) (w : World) (hr : RowF w g n c xs) (hB : BoxAt w q [.int .i64 k]) (hgq : g ≠ q) :
    Calls Try.prog 127 #[.slice (some ⟨g, 0, none⟩) n c, .int .i64 a, .pointer (some ⟨q, 0, none⟩)] w (Med (a - 1) a (a + 1) q k 3 w) := by
  obtain ⟨a', rfl⟩ : ∃ a', a = a' + 1 := ⟨a - 1, by omega⟩
  have HF := Lib.hid hF
  have HR := Lib.hid hr
  have HB := Lib.hid hB
  clear hF hr hB
  have h1 : ((a' + 1 : Nat) : Int) - 1 = (a' : Int) := by omega
  have h2 : ((a' + 1 : Nat) : Int) + 1 = ((a' + 2 : Nat) : Int) := by omega
  go_enter Try.func127, Try.ntmps127
  go_wp2_with (go_at_call 128; go_loud (refine (median_any g n c a' (a' + 1) (a' + 2) q k xs (by omega) (by omega) (by omega) hn hk HF.out _ HR.out HB.out hgq).mono ?_); rintro e w' ⟨p, k', rfl, h, b, e, t⟩)
  go_ret
  exact ⟨p, k', rfl, h, b, e, t⟩
end

section
open Go.RowKit
attribute [local go_sem] run_store_float

def PivE (a b : Nat) (w : World) (e : Ending) (w' : World) : Prop :=
  ∃ p h : Nat, e = .returned (.tuple #[.int .i64 p, .int .i64 h]) ∧ a ≤ p ∧ p < b ∧ h ≤ 2 ∧ Below w.heap.size w w'
set_option maxHeartbeats 1600000 in
set_option maxRecDepth 100000 in
theorem choosePivot_any (g n c a b : Nat) (xs : List Nat) (hab : a + 12 < b) (hb : b ≤ n) (hn : n ≤ 1000000) (hF : Fins xs) (w : World) (hr : RowF w g n c xs) :
    Calls Try.prog 108 #[.slice (some ⟨g, 0, none⟩) n c, .int .i64 a, .int .i64 b] w (PivE a b w) := by
  have HF := Lib.hid hF
  have HR := Lib.hid hr
  have hgl := hr.lt
  clear hF hr
  obtain ⟨L, hL⟩ : ∃ L, L = b - a := ⟨_, rfl⟩
  obtain ⟨Q, hQ⟩ : ∃ Q, Q = L / 4 := ⟨_, rfl⟩
  obtain ⟨i, hi⟩ : ∃ i, i = a + Q := ⟨_, rfl⟩
  obtain ⟨j, hj⟩ : ∃ j, j = a + Q * 2 := ⟨_, rfl⟩
  obtain ⟨k, hk⟩ : ∃ k, k = a + Q * 3 := ⟨_, rfl⟩
  have hL1 : (b : Int) - (a : Int) = (L : Int) := by omega
  have hL8 : 8 ≤ L := by omega
  have hQ4 : (L : Int) / 4 = (Q : Int) := by omega
  have ei : (a : Int) + (Q : Int) = (i : Int) := by omega
  have ej : (a : Int) + (Q : Int) * 2 = (j : Int) := by omega
  have ek : (a : Int) + (Q : Int) * 3 = (k : Int) := by omega
  have hQ3 : 3 ≤ Q := by omega
  have bi : a + 3 ≤ i ∧ i + 3 ≤ b := by omega
  have bj : a + 3 ≤ j ∧ j + 3 ≤ b := by omega
  have bk : a + 3 ≤ k ∧ k + 3 ≤ b := by omega
  clear hL hQ hi hj hk
  have hB0 : BoxAt (w.alloc (.cells #[.int .i64 0] 3)) w.heap.size [.int .i64 ((0 : Nat) : Int)] := BoxAt.new w _ _
  have HR0 : Hid (RowF (w.alloc (.cells #[.int .i64 0] 3)) g n c xs) := HR.out.below (below_alloc w _) hgl
  by_cases h50 : 50 ≤ L
  · go_enter Try.func108, Try.ntmps108
    go_wp2_with fail
    refine (medianAdj_any g n c i w.heap.size 0 xs (by omega) (by omega) hn (by omega) HF.out _ HR0.out hB0 (by omega)).mono ?_
    rintro e w1 ⟨p1, k1, rfl, h1, b1, e1, t1⟩
    have R1 := HR0.out.touch t1 (by omega)
    go_wp2_with fail
    refine (medianAdj_any g n c j w.heap.size k1 xs (by omega) (by omega) hn (by omega) HF.out _ R1 b1 (by omega)).mono ?_
    rintro e w2 ⟨p2, k2, rfl, h2, b2, e2, t2⟩
    have R2 := R1.touch t2 (by omega)
    go_wp2_with fail
    refine (medianAdj_any g n c k w.heap.size k2 xs (by omega) (by omega) hn (by omega) HF.out _ R2 b2 (by omega)).mono ?_
    rintro e w3 ⟨p3, k3, rfl, h3, b3, e3, t3⟩
    have R3 := R2.touch t3 (by omega)
    go_wp2_with fail
    refine (median_any g n c p1 p2 p3 w.heap.size k3 xs (by omega) (by omega) (by omega) hn (by omega) HF.out _ R3 b3 (by omega)).mono ?_
    rintro e w9 ⟨p9, k9, rfl, h9, b9, e9, t4⟩
    have t9 := ((t1.trans t2).trans t3).trans t4
    clear R1 R2 R3 b1 b2 b3 hB0 t1 t2 t3 t4
    have d0 := b9.cell 0 _ rfl
    have hlt9 := b9.lt
    have HP : Hid (a ≤ p9 ∧ p9 < b) := ⟨by omega, by omega⟩
    have HBE : Hid (Below w.heap.size w w9) := (below_alloc w _).trans (t9.below (Nat.le_refl _) (by simp))
    clear b9 t9 h9
    by_cases e0 : k9 = 0
    · subst e0
      go_wp2
      go_ret2
      exact ⟨p9, 1, rfl, HP.out.1, HP.out.2, by omega, HBE.out⟩
    by_cases e12 : k9 = 12
    · subst e12
      go_wp2
      go_ret2
      exact ⟨p9, 2, rfl, HP.out.1, HP.out.2, by omega, HBE.out⟩
    have g0 : ((k9 : Int) == 0) = false := beq_eq_false_iff_ne.2 (by omega)
    have g1 : ((k9 : Int) == 12) = false := beq_eq_false_iff_ne.2 (by omega)
    go_wp2
    go_ret2
    exact ⟨p9, 0, rfl, HP.out.1, HP.out.2, by omega, HBE.out⟩
  · go_enter Try.func108, Try.ntmps108
    go_wp2_with fail
    refine (median_any g n c i j k w.heap.size 0 xs (by omega) (by omega) (by omega) hn (by omega) HF.out _ HR0.out hB0 (by omega)).mono ?_
    rintro e w9 ⟨p9, k9, rfl, h9, b9, e9, t9⟩
    clear hB0
    have d0 := b9.cell 0 _ rfl
    have hlt9 := b9.lt
    have HP : Hid (a ≤ p9 ∧ p9 < b) := ⟨by omega, by omega⟩
    have HBE : Hid (Below w.heap.size w w9) := (below_alloc w _).trans (t9.below (Nat.le_refl _) (by simp))
    clear b9 t9 h9
    by_cases e0 : k9 = 0
    · subst e0
      go_wp2
      go_ret2
      exact ⟨p9, 1, rfl, HP.out.1, HP.out.2, by omega, HBE.out⟩
    by_cases e12 : k9 = 12
    · subst e12
      go_wp2
      go_ret2
      exact ⟨p9, 2, rfl, HP.out.1, HP.out.2, by omega, HBE.out⟩
    have g0 : ((k9 : Int) == 0) = false := beq_eq_false_iff_ne.2 (by omega)
    have g1 : ((k9 : Int) == 12) = false := beq_eq_false_iff_ne.2 (by omega)
    go_wp2
    go_ret2
    exact ⟨p9, 0, rfl, HP.out.1, HP.out.2, by omega, HBE.out⟩
end
end Go.Proofs.Ythdnelfggmlalaa
