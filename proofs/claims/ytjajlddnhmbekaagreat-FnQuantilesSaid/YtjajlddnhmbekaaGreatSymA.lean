/-
  The walk of slices.symMergeCmpFunc at int64 where one of the two rows is one element.
  The walk of slices.symMergeCmpFunc at int64 where the second of the two rows is one element.
-/
import Derived.Test.YtjajlddnhmbekaaGreatStabW
namespace Go.Proofs.YtjajlddnhmbekaaGreat
section
open Go.RowKit

/-- What is asked of the comparing function: in each world that the sort comes through it says cf, and only draws. -/
def CmpOk (K : Nat) (cb : Array Value) (cf : Int → Int → Int) (D : List Int) (g : Nat) (W0 : World) : Prop :=
  ∀ (w : World) (x y : Int), Touch g (g + 1) W0 w → x ∈ D → y ∈ D → ∀ n, Calls Tryz.prog K (#[jV x, jV y] ++ cb) (w.drewN n) fun e w' => e = .returned (.int .i64 (cf x y)) ∧ ∃ m, w' = w.drewN m
/-- Two rows that lie side by side have become one. -/
def SymTo (lx : Int → Int → Bool) (g n c : Nat) (P A B S : List Int) (w : World) (e : Ending) (w' : World) : Prop :=
  ∃ R, e = .returned (.tuple #[]) ∧ Up lx R ∧ R.Perm (A ++ B) ∧ RowI w' g n c (P ++ (R ++ S)) ∧ Touch g (g + 1) w w'
theorem drop_at {B : List Int} {t : Nat} {y : Int} (hy : B[t]? = some y) : B.drop t = y :: B.drop (t + 1) := by
  have := lt_of_get hy
  rw [List.drop_eq_getElem_cons this]
  congr 1
  rw [List.getElem?_eq_getElem this] at hy
  exact Option.some.inj hy

/-- Below place k all are less by cf; the one at k isn't. -/
def LoL (cf : Int → Int → Int) (x : Int) (B : List Int) (k : Nat) : Prop := ∀ y, 0 < k → B[k - 1]? = some y → cf y x < 0
def HiL (cf : Int → Int → Int) (x : Int) (B : List Int) (k : Nat) : Prop := ∀ y, B[k]? = some y → ¬ cf y x < 0
def LoR (cf : Int → Int → Int) (y : Int) (A : List Int) (k : Nat) : Prop := ∀ x, 0 < k → A[k - 1]? = some x → ¬ cf y x < 0
def HiR (cf : Int → Int → Int) (y : Int) (A : List Int) (k : Nat) : Prop := ∀ x, A[k]? = some x → cf y x < 0

set_option maxHeartbeats 1600000 in
set_option maxRecDepth 100000 in
theorem sym_left (lx : Int → Int → Bool) (htr : ∀ a b c, lx a b = true → lx b c = true → lx a c = true) (cf : Int → Int → Int) (K : Nat) (cb : Array Value) (D : List Int) (g n c a m b : Nat) (x : Int) (P B S : List Int) (W0 : World)
    (hK : ∀ (args : Array Value) (w : World), (callFunc K args).run Tryz.prog w = .ok (.enter K args) w) (hC : CmpOk K cb cf D g W0)
    (ha : P.length = a) (hm : a + 1 = m) (hb : m + B.length = b) (hn : n ≤ 1000000) (hB : Up lx B) (ht : Tells lx cf [x] B) (hD : ∀ y ∈ [x] ++ B, y ∈ D) (w : World) (h0 : Touch g (g + 1) W0 w) (hr : RowI w g n c (P ++ ([x] ++ (B ++ S)))) :
    Calls Tryz.prog 88 #[.slice (some ⟨g, 0, none⟩) n c, .int .i64 a, .int .i64 m, .int .i64 b, .func (.func K) #[] cb] w (SymTo lx g n c P [x] B S w) := by
  have hl := hr.len
  simp only [List.length_append, List.length_cons, List.length_nil] at hl
  have hbn : b ≤ n := by omega
  have han : a < n := by omega
  have hma : (m : Int) - (a : Int) = 1 := by omega
  have hmb : m ≤ b := by omega
  have hma' : (m : Int) = (a : Int) + 1 := by omega
  have HC := Lib.hid hC
  have HA := Lib.hid ha
  have HB := Lib.hid hb
  have HM := Lib.hid hm
  have HM' := Lib.hid hma'
  have HL := Lib.hid hl
  have HD := Lib.hid hD
  have HT := Lib.hid ht
  have HUp := Lib.hid hB
  have H0 := Lib.hid h0
  have HTR := Lib.hid htr
  clear hC ha hb hm hma' hl hD ht hB h0 htr
  go_enter Tryz.func88, Tryz.ntmps88
  go_wp2
  go_loopw [10, 11] (fun si sj wr => ∃ (i j : Nat), si = .int .i64 i ∧ sj = .int .i64 j ∧ m ≤ i ∧ i ≤ j ∧ j ≤ b ∧ LoL cf x B (i - m) ∧ HiL cf x B (j - m) ∧ RowI wr g n c (P ++ ([x] ++ (B ++ S))) ∧ Touch g (g + 1) w wr) (fun si sj _ => (intOf sj).toNat - (intOf si).toNat)
  case atStart =>
    exact ⟨m, b, rfl, rfl, Nat.le_refl _, hmb, Nat.le_refl _, fun y h => absurd h (by omega), fun y hy => by have := lt_of_get hy; have := HB.out; omega, hr, touch_refl _ _ _⟩
  case round =>
    obtain ⟨i, j, rfl, rfl, hmi, hij, hjb, HLo, HHi, hR, hTo⟩ := hrel
    clear hr
    by_cases hlt : i < j
    · obtain ⟨h, hh⟩ : ∃ h, h = (i + j) / 2 := ⟨_, rfl⟩
      have hhp : i ≤ h := by omega
      have hhq : h < j := by omega
      obtain ⟨y, hy⟩ := get_of_lt (xs := B) (k := h - m) (by have := HB.out; omega)
      have c1 : wr.cell? ⟨g, h, none⟩ = some (jV y) := hR.at (by
        have := HM.out; have := HA.out
        have := lt_of_get hy
        rw [List.getElem?_append_right (by omega), List.getElem?_append_right (by simp; omega), List.getElem?_append_left (by simp; omega), ← hy]
        congr 1
        simp; omega)
      have c2 : wr.cell? ⟨g, a, none⟩ = some (jV x) := hR.at (by
        have := HA.out
        rw [List.getElem?_append_right (by omega), this, Nat.sub_self]; rfl)
      have hcall := HC.out wr y x (H0.out.trans hTo) (HD.out y (by simp; exact .inr (List.mem_of_getElem? hy))) (HD.out x (by simp))
      have HCL := Lib.hid hcall
      have HY := Lib.hid hy
      have HRR := Lib.hid hR
      have hz0 : (0 : Int) ≤ (h : Int) := by omega
      have hz1 : (h : Int) < (n : Int) := by omega
      have hdv : ((i : Int) + (j : Int)) / 2 = (h : Int) := by omega
      clear hcall hy hR hh
      by_cases hlc : cf y x < 0
      all_goals
        go_wp2_with fail
        go_quiet (exact HCL.out _)
        go_wp2
        go_roundw
        case rel =>
          first
            | exact ⟨h + 1, j, by go_num, rfl, by omega, by omega, hjb, fun z h0 hz => (by rw [show h + 1 - m - 1 = h - m by omega, HY.out] at hz; cases hz; omega), HHi, HRR.out.drewN _, touch_drewN hTo _⟩
            | exact ⟨i, h, rfl, rfl, hmi, by omega, by omega, HLo, fun z hz => (by rw [HY.out] at hz; cases hz; omega), HRR.out.drewN _, touch_drewN hTo _⟩
        case measure => simp [intOf]; omega
    · have hpe : i = j := by omega
      subst hpe
      obtain ⟨p, hp⟩ : ∃ p, p = i - m := ⟨_, rfl⟩
      have hpi : (i : Int) - 1 = ((a + p : Nat) : Int) := by have := HM.out; omega
      have hpB : p ≤ B.length := by have := HB.out; omega
      have hpn : a + p < n := by have := HM.out; omega
      rw [← hp] at HLo HHi
      have H1 := Lib.hid (one_left HTR.out HUp.out HT.out hpB HLo HHi)
      have HRR := Lib.hid hR
      have HPI := Lib.hid hpi
      clear HLo HHi hR hp hpi
      go_wp2
      go_loopw [13] (fun sk wr => ∃ (k t : Nat), sk = .int .i64 k ∧ Hid (k = a + t) ∧ t ≤ p ∧ RowI wr g n c (P ++ (B.take t ++ x :: (B.drop t ++ S))) ∧ Touch g (g + 1) w wr) (fun sk _ => (a + p) - (intOf sk).toNat)
      case atStart => exact ⟨a, 0, rfl, rfl, by omega, HRR.out, hTo⟩
      case round =>
        obtain ⟨k, t, rfl, hk, htp, hR, hT2⟩ := hrel
        have hke := hk.out
        have hkb : k ≤ 1000000 := by omega
        by_cases hlt : t < p
        · obtain ⟨y, hy⟩ := get_of_lt (xs := B) (k := t) (by omega)
          have e1 : P ++ (B.take t ++ x :: (B.drop t ++ S)) = (P ++ B.take t) ++ x :: y :: (B.drop (t + 1) ++ S) := by rw [drop_at hy]; simp
          have hlen : (P ++ B.take t).length = k := by have := HA.out; simp; omega
          rw [e1] at hR
          have c1 : wr.cell? ⟨g, k, none⟩ = some (jV x) := hR.at (by rw [← hlen, List.getElem?_append_right (Nat.le_refl _), Nat.sub_self]; rfl)
          have c2 : wr.cell? ⟨g, k + 1, none⟩ = some (jV y) := hR.at (by rw [← hlen, List.getElem?_append_right (by omega), Nat.add_sub_cancel_left]; rfl)
          have f1 := hR.free k
          have f2 := hR.free (k + 1)
          have c3 : (wr.setCell ⟨g, k, none⟩ (jV y)).cell? ⟨g, k + 1, none⟩ = some (jV y) := by
            rw [World.cell?_setCell_other _ _ _ _ (by intro e; simp only [Addr.mk.injEq] at e; omega)]; exact c2
          have hS := hR.swapped (i := k) (j := k + 1) (x := x) (y := y) (by rw [← hlen, List.getElem?_append_right (Nat.le_refl _), Nat.sub_self]; rfl) (by rw [← hlen, List.getElem?_append_right (by omega), Nat.add_sub_cancel_left]; rfl)
          rw [swp_up _ _ _ _ hlen] at hS
          have e2 : (P ++ B.take t) ++ y :: x :: (B.drop (t + 1) ++ S) = P ++ (B.take (t + 1) ++ x :: (B.drop (t + 1) ++ S)) := by rw [take_snoc hy]; simp
          rw [e2] at hS
          have HS := Lib.hid hS
          have hki : (k : Int) < (i : Int) - 1 := by rw [HPI.out]; omega
          have hz0 : (0 : Int) ≤ (k : Int) + 1 := by omega
          have hz1 : (k : Int) + 1 < (n : Int) := by omega
          have hz2 : (k : Int) < (n : Int) := by omega
          have hz3 : ((k : Int) + 1).toNat = k + 1 := by omega
          have hz4 : IntKind.i64.wrap ((k : Int) + 1) = (k : Int) + 1 := IntWalk.i64_in _ (by omega)
          clear hy e1 hlen hR hS e2 hke
          go_wp2
          go_region
          go_wp2
          go_roundw
          case rel => exact ⟨k + 1, t + 1, by go_num, by have := hk.out; unfold Hid; omega, by omega, HS.out.drew, touch_drewN (hT2.trans (touch_swap _ _ _ _ _ _)) 1⟩
          case measure => have := hk.out; simp [intOf]; omega
        · have htp' : t = p := by omega
          have hki : ¬ (k : Int) < (i : Int) - 1 := by rw [HPI.out]; omega
          subst htp'
          clear hke
          go_wp2
          go_end0
          exact ⟨_, rfl, H1.out.1, H1.out.2, by simpa using hR, hT2⟩
end

section
open Go.RowKit

set_option maxHeartbeats 1600000 in
set_option maxRecDepth 100000 in
theorem sym_right (lx : Int → Int → Bool) (htr : ∀ a b c, lx a b = true → lx b c = true → lx a c = true) (cf : Int → Int → Int) (K : Nat) (cb : Array Value) (D : List Int) (g n c a m b : Nat) (y : Int) (P A S : List Int) (W0 : World)
    (hK : ∀ (args : Array Value) (w : World), (callFunc K args).run Tryz.prog w = .ok (.enter K args) w) (hC : CmpOk K cb cf D g W0)
    (ha : P.length = a) (hm : a + A.length = m) (hA2 : 2 ≤ A.length) (hb : m + 1 = b) (hn : n ≤ 1000000) (hA : Up lx A) (ht : Tells lx cf A [y]) (hD : ∀ z ∈ A ++ [y], z ∈ D) (w : World) (h0 : Touch g (g + 1) W0 w) (hr : RowI w g n c (P ++ (A ++ ([y] ++ S)))) :
    Calls Tryz.prog 88 #[.slice (some ⟨g, 0, none⟩) n c, .int .i64 a, .int .i64 m, .int .i64 b, .func (.func K) #[] cb] w (SymTo lx g n c P A [y] S w) := by
  have hl := hr.len
  simp only [List.length_append, List.length_cons, List.length_nil] at hl
  have hbn : b ≤ n := by omega
  have hmn : m < n := by omega
  have hma : ¬ ((m : Int) - (a : Int) = 1) := by omega
  have hbm : (b : Int) - (m : Int) = 1 := by omega
  have ham : a ≤ m := by omega
  have HC := Lib.hid hC
  have HA := Lib.hid ha
  have HB := Lib.hid hb
  have HM := Lib.hid hm
  have HL := Lib.hid hl
  have HD := Lib.hid hD
  have HT := Lib.hid ht
  have HUp := Lib.hid hA
  have H0 := Lib.hid h0
  have HTR := Lib.hid htr
  clear hC ha hb hm hl hD ht hA h0 htr
  go_enter Tryz.func88, Tryz.ntmps88
  go_wp2
  go_loopw [14, 15] (fun si sj wr => ∃ (i j : Nat), si = .int .i64 i ∧ sj = .int .i64 j ∧ a ≤ i ∧ i ≤ j ∧ j ≤ m ∧ LoR cf y A (i - a) ∧ HiR cf y A (j - a) ∧ RowI wr g n c (P ++ (A ++ ([y] ++ S))) ∧ Touch g (g + 1) w wr) (fun si sj _ => (intOf sj).toNat - (intOf si).toNat)
  case atStart =>
    exact ⟨a, m, rfl, rfl, Nat.le_refl _, ham, Nat.le_refl _, fun y h => absurd h (by omega), fun y hy => by have := lt_of_get hy; have := HM.out; omega, hr, touch_refl _ _ _⟩
  case round =>
    obtain ⟨i, j, rfl, rfl, hmi, hij, hjb, HLo, HHi, hR, hTo⟩ := hrel
    clear hr
    by_cases hlt : i < j
    · obtain ⟨h, hh⟩ : ∃ h, h = (i + j) / 2 := ⟨_, rfl⟩
      have hhp : i ≤ h := by omega
      have hhq : h < j := by omega
      obtain ⟨x, hx⟩ := get_of_lt (xs := A) (k := h - a) (by have := HM.out; omega)
      have c1 : wr.cell? ⟨g, h, none⟩ = some (jV x) := hR.at (by
        have := HM.out; have := HA.out
        have := lt_of_get hx
        rw [List.getElem?_append_right (by omega), List.getElem?_append_left (by omega), ← hx]
        congr 1
        omega)
      have c2 : wr.cell? ⟨g, m, none⟩ = some (jV y) := hR.at (by
        have := HA.out; have := HM.out
        rw [List.getElem?_append_right (by omega), List.getElem?_append_right (by omega), show m - P.length - A.length = 0 by omega]; rfl)
      have hcall := HC.out wr y x (H0.out.trans hTo) (HD.out y (by simp)) (HD.out x (List.mem_append_left _ (List.mem_of_getElem? hx)))
      have HCL := Lib.hid hcall
      have HX := Lib.hid hx
      have HRR := Lib.hid hR
      have hz0 : (0 : Int) ≤ (h : Int) := by omega
      have hz1 : (h : Int) < (n : Int) := by omega
      have hz2 : (m : Int) < (n : Int) := by omega
      have hdv : ((i : Int) + (j : Int)) / 2 = (h : Int) := by omega
      clear hcall hx hR hh
      cases hlc : decide (cf y x < 0)
      all_goals
        have HLC := Lib.hid hlc
        go_wp2_with fail
        go_quiet (exact HCL.out _)
        go_wp2
        go_roundw
        case rel =>
          first
            | exact ⟨h + 1, j, by go_num, rfl, by omega, by omega, hjb, fun z h0 hz => (by rw [show h + 1 - a - 1 = h - a by omega, HX.out] at hz; cases hz; exact of_decide_eq_false HLC.out), HHi, HRR.out.drewN _, touch_drewN hTo _⟩
            | exact ⟨i, h, rfl, rfl, hmi, by omega, by omega, HLo, fun z hz => (by rw [HX.out] at hz; cases hz; exact of_decide_eq_true HLC.out), HRR.out.drewN _, touch_drewN hTo _⟩
        case measure => simp [intOf]; omega
    · have hpe : i = j := by omega
      subst hpe
      obtain ⟨p, hp⟩ : ∃ p, p = i - a := ⟨_, rfl⟩
      have hpi : i = a + p := by omega
      have hpA : p ≤ A.length := by have := HM.out; omega
      rw [← hp] at HLo HHi
      have H1 := Lib.hid (one_right HTR.out HUp.out HT.out hpA HLo HHi)
      have HRR := Lib.hid hR
      have HPI := Lib.hid hpi
      clear HLo HHi hR hp hpi
      go_wp2
      go_loopw [17] (fun sk wr => ∃ (k t : Nat), sk = .int .i64 k ∧ Hid (k = a + t) ∧ p ≤ t ∧ t ≤ A.length ∧ RowI wr g n c (P ++ (A.take t ++ y :: (A.drop t ++ S))) ∧ Touch g (g + 1) w wr) (fun sk _ => (intOf sk).toNat)
      case atStart => exact ⟨m, A.length, rfl, HM.out.symm, hpA, Nat.le_refl _, by rw [List.take_length, List.drop_length]; exact HRR.out, hTo⟩
      case round =>
        obtain ⟨k, t, rfl, hk, hpt, htA, hR, hT2⟩ := hrel
        have hke := hk.out
        have hkb : k ≤ m := by have := HM.out; omega
        by_cases hlt : p < t
        · obtain ⟨t', rfl⟩ : ∃ t', t = t' + 1 := ⟨t - 1, by omega⟩
          obtain ⟨k', rfl⟩ : ∃ k', k = k' + 1 := ⟨k - 1, by omega⟩
          obtain ⟨x, hx⟩ := get_of_lt (xs := A) (k := t') (by omega)
          have e1 : P ++ (A.take (t' + 1) ++ y :: (A.drop (t' + 1) ++ S)) = (P ++ A.take t') ++ x :: y :: (A.drop (t' + 1) ++ S) := by rw [take_snoc hx]; simp
          have hlen : (P ++ A.take t').length = k' := by have := HA.out; simp; omega
          rw [e1] at hR
          have c1 : wr.cell? ⟨g, k', none⟩ = some (jV x) := hR.at (by rw [← hlen, List.getElem?_append_right (Nat.le_refl _), Nat.sub_self]; rfl)
          have c2 : wr.cell? ⟨g, k' + 1, none⟩ = some (jV y) := hR.at (by rw [← hlen, List.getElem?_append_right (by omega), Nat.add_sub_cancel_left]; rfl)
          have f1 := hR.free k'
          have f2 := hR.free (k' + 1)
          have c3 : (wr.setCell ⟨g, k' + 1, none⟩ (jV x)).cell? ⟨g, k', none⟩ = some (jV x) := by
            rw [World.cell?_setCell_other _ _ _ _ (by intro e; simp only [Addr.mk.injEq] at e; omega)]; exact c1
          have hS := hR.swapped (i := k' + 1) (j := k') (x := y) (y := x) (by rw [← hlen, List.getElem?_append_right (by omega), Nat.add_sub_cancel_left]; rfl) (by rw [← hlen, List.getElem?_append_right (Nat.le_refl _), Nat.sub_self]; rfl)
          rw [swp_down _ _ _ _ hlen] at hS
          have e2 : (P ++ A.take t') ++ y :: x :: (A.drop (t' + 1) ++ S) = P ++ (A.take t' ++ y :: (A.drop t' ++ S)) := by rw [drop_at hx]; simp
          rw [e2] at hS
          have HS := Lib.hid hS
          have hki : (i : Int) < (k' : Int) + 1 := by rw [HPI.out]; omega
          have hz0 : (0 : Int) ≤ (k' : Int) + 1 := by omega
          have hz1 : (k' : Int) + 1 < (n : Int) := by omega
          have hz2 : (k' : Int) < (n : Int) := by omega
          have hz3 : ((k' : Int) + 1).toNat = k' + 1 := by omega
          have hz4 : (k' : Int) + 1 - 1 = (k' : Int) := by omega
          have hz5 : (0 : Int) ≤ (k' : Int) := by omega
          have hz6 : IntKind.i64.wrap ((k' : Int)) = (k' : Int) := IntWalk.i64_in _ (by omega)
          clear hx e1 hlen hR hS e2 hke
          go_wp2
          go_region
          go_wp2
          go_roundw
          case rel => exact ⟨k', t', by first | rfl | go_num, by have := hk.out; unfold Hid; omega, by omega, by omega, HS.out.drew, touch_drewN (hT2.trans (touch_swap _ _ _ _ _ _)) 1⟩
          case measure => have := hk.out; simp [intOf] <;> omega
        · have htp' : t = p := by omega
          have hki : ¬ (i : Int) < (k : Int) := by rw [HPI.out]; omega
          subst htp'
          clear hke
          go_wp2
          go_end0
          exact ⟨_, rfl, H1.out.1, H1.out.2, by simpa using hR, hT2⟩
end
end Go.Proofs.YtjajlddnhmbekaaGreat
