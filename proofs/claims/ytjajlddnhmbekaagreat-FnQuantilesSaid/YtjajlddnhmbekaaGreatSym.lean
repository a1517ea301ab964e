/-
  The walk of slices.symMergeCmpFunc at int64: two rows that go up and lie side by side become one.
-/
import Derived.Test.YtjajlddnhmbekaaGreatSymA
import Derived.Deep.DeepCutAuto
namespace Go.Proofs.YtjajlddnhmbekaaGreat
open Go.RowKit

/-- What the search has seen below and at place s: of A from a on, of B by the mirrored place. -/
def LoG (cf : Int → Int → Int) (A B : List Int) (s0 s a mid : Nat) : Prop := ∀ x y, s0 < s → A[s - 1 - a]? = some x → B[mid - s]? = some y → ¬ cf y x < 0
def HiG (cf : Int → Int → Int) (A B : List Int) (r0 r a mid : Nat) : Prop := ∀ x y, r < r0 → A[r - a]? = some x → B[mid - 1 - r]? = some y → cf y x < 0

theorem sym_parts {lx : Int → Int → Bool} (htr : ∀ a b c, lx a b = true → lx b c = true → lx a c = true) {cf : Int → Int → Int} {A B : List Int} {a m b mid s0 r0 s : Nat} (hm : a + A.length = m) (hb : m + B.length = b) (hmid : mid = (a + b) / 2)
    (h0 : s0 = if mid < m then mid + m - b else a) (hr : r0 = if mid < m then mid else m) (hs0 : s0 ≤ s) (hsr : s ≤ r0) (hA : Up lx A) (hB : Up lx B) (ht : Tells lx cf A B) (hlo : LoG cf A B s0 s a mid) (hhi : HiG cf A B r0 s a mid) :
    ∀ R1 R2 : List Int, R1.Perm (A.take (s - a) ++ B.take (mid - s)) → R2.Perm (A.drop (s - a) ++ B.drop (mid - s)) → Up lx R1 → Up lx R2 → Up lx (R1 ++ R2) ∧ (R1 ++ R2).Perm (A ++ B) := by
  intro R1 R2 p1 p2 u1 u2
  refine two_parts htr hA hB (by split at hr <;> omega) (by split at h0 <;> split at hr <;> omega) ?_ ?_ p1 p2 u1 u2
  · intro x y hi hx hy
    by_cases hs : s0 < s
    · have h := hlo x y hs (by rw [show s - 1 - a = s - a - 1 by omega]; exact hx) hy
      have h2 := ht x (List.mem_of_getElem? hx) y (List.mem_of_getElem? hy)
      rw [h2.2, ← h2.1, decide_eq_false h]
      rfl
    · exfalso
      have := lt_of_get hy
      split at h0 <;> split at hr <;> omega
  · intro y x hj hy hx
    by_cases hs : s < r0
    · have h := hhi x y hs hx (by rw [show mid - 1 - s = mid - s - 1 by omega]; exact hy)
      have h2 := ht x (List.mem_of_getElem? hx) y (List.mem_of_getElem? hy)
      rw [← h2.1, decide_eq_true h]
    · exfalso
      have := lt_of_get hx
      split at hr <;> omega

/-- What is asked at each call. -/
def SymAt (lx : Int → Int → Bool) (cf : Int → Int → Int) (K : Nat) (cb : Array Value) (D : List Int) (g n c N : Nat) (W0 : World) : Prop :=
  ∀ (a m b : Nat) (P A B S : List Int), A.length + B.length ≤ N → P.length = a → a + A.length = m → m + B.length = b → 1 ≤ A.length → 1 ≤ B.length → Up lx A → Up lx B → Tells lx cf A B → (∀ z ∈ A ++ B, z ∈ D) →
    ∀ (w : World), Touch g (g + 1) W0 w → RowI w g n c (P ++ (A ++ (B ++ S))) →
    Calls Tryz.prog 88 #[.slice (some ⟨g, 0, none⟩) n c, .int .i64 a, .int .i64 m, .int .i64 b, .func (.func K) #[] cb] w (SymTo lx g n c P A B S w)

theorem one_of_len {l : List Int} (h : l.length = 1) : ∃ x, l = [x] := by
  match l, h with
  | [x], _ => exact ⟨x, rfl⟩

set_option maxHeartbeats 3200000 in
set_option maxRecDepth 100000 in
theorem sym_step (lx : Int → Int → Bool) (htr : ∀ a b c, lx a b = true → lx b c = true → lx a c = true) (cf : Int → Int → Int) (K : Nat) (cb : Array Value) (D : List Int) (g n c N : Nat) (W0 : World)
    (hK : ∀ (args : Array Value) (w : World), (callFunc K args).run Tryz.prog w = .ok (.enter K args) w) (hC : CmpOk K cb cf D g W0) (hn : n ≤ 1000000) (ih : SymAt lx cf K cb D g n c N W0) : SymAt lx cf K cb D g n c (N + 1) W0 := by
  intro a m b P A B S hN ha hm hb hA1 hB1 hA hB ht hD w h0 hr
  by_cases hA2 : A.length = 1
  · obtain ⟨x, rfl⟩ := one_of_len hA2
    exact sym_left lx htr cf K cb D g n c a m b x P B S W0 hK hC ha hm hb hn hB ht hD w h0 hr
  by_cases hB2 : B.length = 1
  · obtain ⟨y, rfl⟩ := one_of_len hB2
    exact sym_right lx htr cf K cb D g n c a m b y P A S W0 hK hC ha hm (by omega) hb hn hA ht hD w h0 hr
  have hl := hr.len
  simp only [List.length_append] at hl
  obtain ⟨mid, hmid⟩ : ∃ mid, mid = (a + b) / 2 := ⟨_, rfl⟩
  obtain ⟨s0, hs0⟩ : ∃ s0, s0 = if mid < m then mid + m - b else a := ⟨_, rfl⟩
  obtain ⟨r0, hr0⟩ : ∃ r0, r0 = if mid < m then mid else m := ⟨_, rfl⟩
  have hbn : b ≤ n := by omega
  have hma : ¬ ((m : Int) - (a : Int) = 1) := by omega
  have hbm : ¬ ((b : Int) - (m : Int) = 1) := by omega
  have hdv0 : ((a : Int) + (b : Int)) / 2 = (mid : Int) := by omega
  have b1 : a ≤ s0 := by split at hs0 <;> omega
  have b2 : s0 ≤ r0 := by split at hs0 <;> split at hr0 <;> omega
  have b3 : r0 ≤ mid := by split at hr0 <;> omega
  have b4 : r0 ≤ m := by split at hr0 <;> omega
  have b5 : mid < b := by omega
  have b6 : mid + m ≤ b + s0 := by split at hs0 <;> omega
  have b7 : a < mid := by omega
  have b8 : a < m := by omega
  have b9 : m < b := by omega
  have SP := Lib.hid (sym_parts htr (s := s0) hm hb hmid hs0 hr0 (Nat.le_refl _) b2 hA hB ht)
  have SPP := Lib.hid (fun s (h1 : s0 ≤ s) (h2 : s ≤ r0) => sym_parts htr (s := s) hm hb hmid hs0 hr0 h1 h2 hA hB ht)
  have HC := Lib.hid hC
  have HA := Lib.hid ha
  have HB := Lib.hid hb
  have HM := Lib.hid hm
  have HL := Lib.hid hl
  have HD := Lib.hid hD
  have HT := Lib.hid ht
  have HUA := Lib.hid hA
  have HUB := Lib.hid hB
  have H0 := Lib.hid h0
  have HTR := Lib.hid htr
  have HS0 := Lib.hid hs0
  have HR0 := Lib.hid hr0
  have IH := Lib.hid ih
  have HR := Lib.hid hr
  have HN := Lib.hid hN
  have HA2 := Lib.hid hA2
  have HB2 := Lib.hid hB2
  clear SP hC ha hb hm hl hD ht hA hB h0 htr hs0 hr0 ih hr hN hmid hA2 hB2
  go_enter Tryz.func88, Tryz.ntmps88
  go_upto_if 140 with fail
  go_cut [20, 21] (fun s20 s21 wx => s20 = .int .i64 s0 ∧ s21 = .int .i64 r0 ∧ w = wx)
  case first => as_aux_lemma =>
    by_cases hc : mid < m
    · have hcz : (mid : Int) < (m : Int) := by omega
      have e1 := HS0.out
      have e2 := HR0.out
      rw [if_pos hc] at e1 e2
      have e3 : (mid : Int) + (m : Int) - (b : Int) = (s0 : Int) := by omega
      clear e1
      subst e2
      go_wp2
      go_meet
      case rel => exact ⟨rfl, rfl, rfl⟩
    · have hcz : ¬ (mid : Int) < (m : Int) := by omega
      have e1 := HS0.out
      have e2 := HR0.out
      rw [if_neg hc] at e1 e2
      subst e1 e2
      go_wp2
      go_meet
      case rel => exact ⟨rfl, rfl, rfl⟩
  case rest => as_aux_lemma =>
    obtain ⟨rfl, rfl, rfl⟩ := hcut
    have hnn : (mid : Int) + (m : Int) - 1 = ((mid + m - 1 : Nat) : Int) := by omega
    have HNN := Lib.hid hnn
    clear hnn
    go_wp2
    go_loopw [20, 21] (fun si sj wr => ∃ (s r : Nat), si = .int .i64 s ∧ sj = .int .i64 r ∧ s0 ≤ s ∧ s ≤ r ∧ r ≤ r0 ∧ LoG cf A B s0 s a mid ∧ HiG cf A B r0 r a mid ∧ RowI wr g n c (P ++ (A ++ (B ++ S))) ∧ Touch g (g + 1) w wr) (fun si sj _ => (intOf sj).toNat - (intOf si).toNat)
    case atStart => exact ⟨s0, r0, rfl, rfl, Nat.le_refl _, b2, Nat.le_refl _, fun _ _ h => absurd h (by omega), fun _ _ h => absurd h (by omega), HR.out, touch_refl _ _ _⟩
    case round =>
      obtain ⟨s, r, rfl, rfl, hs0s, hsr, hrr, HLo, HHi, hR, hTo⟩ := hrel
      by_cases hlt : s < r
      · obtain ⟨h, hh⟩ : ∃ h, h = (s + r) / 2 := ⟨_, rfl⟩
        have hhp : s ≤ h := by omega
        have hhq : h < r := by omega
        obtain ⟨q, hq⟩ : ∃ q, q = mid + m - 1 - h := ⟨_, rfl⟩
        have hqm : m ≤ q := by omega
        have hqb : q < b := by omega
        have hqz : (mid : Int) + (m : Int) - 1 - (h : Int) = (q : Int) := by omega
        obtain ⟨x, hx⟩ := get_of_lt (xs := A) (k := h - a) (by have := HM.out; omega)
        obtain ⟨y, hy⟩ := get_of_lt (xs := B) (k := q - m) (by have := HB.out; omega)
        have c1 : wr.cell? ⟨g, h, none⟩ = some (jV x) := hR.at (by
          have := HM.out; have := HA.out
          have := lt_of_get hx
          rw [List.getElem?_append_right (by omega), List.getElem?_append_left (by omega), ← hx]
          congr 1
          omega)
        have c2 : wr.cell? ⟨g, q, none⟩ = some (jV y) := hR.at (by
          have := HM.out; have := HA.out
          have := lt_of_get hy
          rw [List.getElem?_append_right (by omega), List.getElem?_append_right (by omega), List.getElem?_append_left (by omega), ← hy]
          congr 1
          omega)
        have hcall := HC.out wr y x (H0.out.trans hTo) (HD.out y (List.mem_append_right _ (List.mem_of_getElem? hy))) (HD.out x (List.mem_append_left _ (List.mem_of_getElem? hx)))
        have HCL := Lib.hid hcall
        have HX := Lib.hid hx
        have HY := Lib.hid hy
        have HRR := Lib.hid hR
        have hz0 : (0 : Int) ≤ (h : Int) := by omega
        have hz1 : (h : Int) < (n : Int) := by omega
        have hz2 : (0 : Int) ≤ (q : Int) := by omega
        have hz3 : (q : Int) < (n : Int) := by omega
        have hdv : ((s : Int) + (r : Int)) / 2 = (h : Int) := by omega
        have hqw : IntKind.i64.wrap ((mid : Int) + (m : Int) - 1 - (h : Int)) = (q : Int) := by rw [hqz]; exact IntWalk.i64_in _ (by omega)
        have HQ := Lib.hid hq
        clear hcall hx hy hR hh hq
        cases hlc : decide (cf y x < 0)
        all_goals
          have HLC := Lib.hid hlc
          go_wp2_with fail
          go_quiet (exact HCL.out _)
          go_wp2
          go_roundw
          case rel =>
            first
              | exact ⟨h + 1, r, by go_num, rfl, by omega, by omega, hrr, fun x' y' _ hx' hy' => (by
                  rw [show h + 1 - 1 - a = h - a by omega, HX.out] at hx'
                  rw [show mid - (h + 1) = q - m by have := HQ.out; omega, HY.out] at hy'
                  cases hx'; cases hy'; exact of_decide_eq_false HLC.out), HHi, HRR.out.drewN _, touch_drewN hTo _⟩
              | exact ⟨s, h, rfl, rfl, hs0s, by omega, by omega, HLo, fun x' y' _ hx' hy' => (by
                  rw [HX.out] at hx'
                  rw [show mid - 1 - h = q - m by have := HQ.out; omega, HY.out] at hy'
                  cases hx'; cases hy'; exact of_decide_eq_true HLC.out), HRR.out.drewN _, touch_drewN hTo _⟩
          case measure => simp [intOf]; omega
      · have hpe : s = r := by omega
        subst hpe
        have HM2 := Lib.hid (SPP.out s hs0s hrr HLo HHi)
        obtain ⟨e, he⟩ : ∃ e, e = mid + m - s := ⟨_, rfl⟩
        have hez : (mid : Int) + (m : Int) - (s : Int) = (e : Int) := by omega
        have hem : m ≤ e := by omega
        have heb : e ≤ b := by omega
        have HE := Lib.hid he
        have HRR := Lib.hid hR
        have hlA1 : (A.take (s - a)).length = s - a := by have := HM.out; simp; omega
        have hlA2 : (A.drop (s - a)).length = m - s := by have := HM.out; simp; omega
        have hlB1 : (B.take (mid - s)).length = mid - s := by have := HB.out; simp; omega
        have hlB2 : (B.drop (mid - s)).length = b - e := by have := HB.out; simp; omega
        have LA1 := Lib.hid hlA1
        have LA2 := Lib.hid hlA2
        have LB1 := Lib.hid hlB1
        have LB2 := Lib.hid hlB2
        have EA := Lib.hid (List.take_append_drop (s - a) A)
        have EB := Lib.hid (List.take_append_drop (mid - s) B)
        have MA1 : ∀ z ∈ A.take (s - a), z ∈ A := fun z => List.mem_of_mem_take
        have MA2 : ∀ z ∈ A.drop (s - a), z ∈ A := fun z => List.mem_of_mem_drop
        have MB1 : ∀ z ∈ B.take (mid - s), z ∈ B := fun z => List.mem_of_mem_take
        have MB2 : ∀ z ∈ B.drop (mid - s), z ∈ B := fun z => List.mem_of_mem_drop
        have T1 := Lib.hid (HT.out.mono MA1 MB1)
        have T2 := Lib.hid (HT.out.mono MA2 MB2)
        have D1 := Lib.hid (fun z (hz : z ∈ A.take (s - a) ++ B.take (mid - s)) => HD.out z ((List.mem_append.1 hz).elim (fun h => List.mem_append_left _ (MA1 z h)) (fun h => List.mem_append_right _ (MB1 z h))))
        have D2 := Lib.hid (fun z (hz : z ∈ A.drop (s - a) ++ B.drop (mid - s)) => HD.out z ((List.mem_append.1 hz).elim (fun h => List.mem_append_left _ (MA2 z h)) (fun h => List.mem_append_right _ (MB2 z h))))
        have UA1 := Lib.hid (up_take HUA.out (s - a))
        have UA2 := Lib.hid (up_drop HUA.out (s - a))
        have UB1 := Lib.hid (up_take HUB.out (mid - s))
        have UB2 := Lib.hid (up_drop HUB.out (mid - s))
        clear HLo HHi hR he SPP hlA1 hlA2 hlB1 hlB2 MA1 MA2 MB1 MB2
        generalize A.take (s - a) = A1 at *
        generalize A.drop (s - a) = A2 at *
        generalize B.take (mid - s) = B1 at *
        generalize B.drop (mid - s) = B2 at *
        go_upto_region 39 with fail
        go_cut [24, 185] (fun s24 s185 wx => s24 = .int .i64 e ∧ (∃ q : Bool, s185 = .bool q ∧ (q = true ↔ (s < m ∧ m < e))) ∧ wr = wx)
        case first => as_aux_lemma =>
          rcases Nat.lt_or_ge s m with h1 | h1
          · have h1z : (s : Int) < (m : Int) := by omega
            rcases Nat.lt_or_ge m e with h2 | h2
            · have h2z : (m : Int) < (e : Int) := by omega
              go_wp2_with fail
              go_meet
              case rel => exact ⟨rfl, ⟨true, rfl, by simp [h1, h2]⟩, rfl⟩
            · have h2z : ¬ (m : Int) < (e : Int) := by omega
              go_wp2_with fail
              go_meet
              case rel => exact ⟨rfl, ⟨false, rfl, by simp; omega⟩, rfl⟩
          · have h1z : ¬ (s : Int) < (m : Int) := by omega
            go_wp2_with fail
            go_meet
            case rel => exact ⟨rfl, ⟨false, rfl, by simp; omega⟩, rfl⟩
        case rest => as_aux_lemma =>
          obtain ⟨rfl, ⟨q, rfl, hq⟩, rfl⟩ := hcut
          go_upto_if 185 with fail
          go_cut [24] (fun s24 wx => s24 = .int .i64 e ∧ RowI wx g n c (P ++ (A1 ++ (B1 ++ (A2 ++ (B2 ++ S))))) ∧ Touch g (g + 1) w wx)
          case first => as_aux_lemma =>
            have hRR := HRR.out
            rw [← EA.out, ← EB.out] at hRR
            cases q
            · have hz : A2 = [] ∨ B1 = [] := by
                rcases Nat.lt_or_ge s m with h1 | h1
                · right
                  refine List.eq_nil_of_length_eq_zero ?_
                  have := LB1.out; have := HE.out
                  have : ¬ (m < e) := fun h2 => by have := hq.2 ⟨h1, h2⟩; cases this
                  omega
                · left
                  refine List.eq_nil_of_length_eq_zero ?_
                  have := LA2.out
                  omega
              have HQ := Lib.hid hRR
              have HZ := Lib.hid hz
              clear hRR hz hq
              go_wp2_with fail
              go_meet
              case rel =>
                have := HQ.out
                rcases HZ.out with h | h
                · rw [h] at this ⊢
                  exact ⟨rfl, by simpa using this, hTo⟩
                · rw [h] at this ⊢
                  exact ⟨rfl, by simpa using this, hTo⟩
            · obtain ⟨h1, h2⟩ := hq.1 rfl
              have HQ : Hid (RowI wr g n c ((P ++ A1) ++ (A2 ++ (B1 ++ (B2 ++ S))))) := by
                unfold Hid
                simpa using hRR
              clear hRR hq
              go_wp2_with fail
              refine (rotate_any _ g n c s m e (P ++ A1) A2 B1 (B2 ++ S) (by have := LA1.out; have := HA.out; simp; omega) (by have := LA2.out; omega) (by have := LB1.out; have := HE.out; omega) (by have := LA2.out; omega) (by have := LB1.out; have := HE.out; omega) hn _ HQ.out).mono ?_
              rintro e' w' ⟨rfl, hR', hT'⟩
              have HQ' := Lib.hid hR'
              clear hR'
              go_wp2_with fail
              go_meet
              case rel => exact ⟨rfl, by simpa using HQ'.out, hTo.trans hT'⟩
          case rest => as_aux_lemma =>
            obtain ⟨rfl, hR, hT1⟩ := hcut
            have HRR := Lib.hid hR
            clear hR hTo hq
            go_upto_region 41 with fail
            go_cut [24, 199] (fun s24 s199 wx => s24 = .int .i64 e ∧ (∃ q : Bool, s199 = .bool q ∧ (q = true ↔ (a < s ∧ s < mid))) ∧ wx = wc)
            case first => as_aux_lemma =>
              rcases Nat.lt_or_ge a s with h1 | h1
              · have h1z : (a : Int) < (s : Int) := by omega
                rcases Nat.lt_or_ge s mid with h2 | h2
                · have h2z : (s : Int) < (mid : Int) := by omega
                  go_wp2_with fail
                  go_meet
                  case rel => exact ⟨rfl, ⟨true, rfl, by simp [h1, h2]⟩, rfl⟩
                · have h2z : ¬ (s : Int) < (mid : Int) := by omega
                  go_wp2_with fail
                  go_meet
                  case rel => exact ⟨rfl, ⟨false, rfl, by simp; omega⟩, rfl⟩
              · have h1z : ¬ (a : Int) < (s : Int) := by omega
                go_wp2_with fail
                go_meet
                case rel => exact ⟨rfl, ⟨false, rfl, by simp; omega⟩, rfl⟩
            case rest => as_aux_lemma =>
              obtain ⟨rfl, ⟨q2, rfl, hq⟩, hww⟩ := hcut
              subst hww
              go_upto_if 199 with fail
              go_cut [24] (fun s24 wx => s24 = .int .i64 e ∧ ∃ R1, R1.Perm (A1 ++ B1) ∧ Up lx R1 ∧ RowI wx g n c (P ++ (R1 ++ (A2 ++ (B2 ++ S)))) ∧ Touch g (g + 1) w wx)
              case first => as_aux_lemma =>
                cases q2
                · have hz : (A1 = [] ∨ B1 = []) := by
                    rcases Nat.lt_or_ge a s with h1 | h1
                    · right
                      refine List.eq_nil_of_length_eq_zero ?_
                      have := LB1.out
                      have : ¬ (s < mid) := fun h2 => by have := hq.2 ⟨h1, h2⟩; cases this
                      omega
                    · left
                      refine List.eq_nil_of_length_eq_zero ?_
                      have := LA1.out
                      omega
                  have HZ := Lib.hid hz
                  clear hz hq
                  go_wp2_with fail
                  go_meet
                  case rel =>
                    have h := HRR.out
                    rcases HZ.out with hz | hz
                    · rw [hz] at h ⊢
                      exact ⟨rfl, B1, by rw [List.nil_append], UB1.out, by simpa using h, hT1⟩
                    · rw [hz] at h ⊢
                      exact ⟨rfl, A1, by rw [List.append_nil], UA1.out, by simpa using h, hT1⟩
                · obtain ⟨h1, h2⟩ := hq.1 rfl
                  clear hq
                  go_wp2_with fail
                  refine (IH.out a s mid P A1 B1 (A2 ++ (B2 ++ S)) (by have := LA1.out; have := LB1.out; have := HN.out; have := HM.out; have := HB.out; omega) HA.out (by have := LA1.out; omega) (by have := LB1.out; omega) (by have := LA1.out; omega) (by have := LB1.out; omega) UA1.out UB1.out T1.out D1.out _ (H0.out.trans hT1) HRR.out).mono ?_
                  rintro e' w' ⟨R1, rfl, u1, p1, hR', hT'⟩
                  have HQ' := Lib.hid hR'
                  have U1 := Lib.hid u1
                  have P1 := Lib.hid p1
                  clear hR' u1 p1
                  go_wp2_with fail
                  go_meet
                  case rel => exact ⟨rfl, R1, P1.out, U1.out, HQ'.out, hT1.trans hT'⟩
              case rest => as_aux_lemma =>
                obtain ⟨rfl, R1, p1, u1, hR, hT2⟩ := hcut
                have hlR : R1.length = mid - a := by
                  rw [p1.length_eq, List.length_append, LA1.out, LB1.out]
                  omega
                have HLR := Lib.hid hlR
                have HRR2 : Hid (RowI wc g n c ((P ++ R1) ++ (A2 ++ (B2 ++ S)))) := by
                  unfold Hid
                  simpa using hR
                have U1 := Lib.hid u1
                have P1 := Lib.hid p1
                clear hR p1 u1 hlR HRR hT1 hq
                rcases Nat.lt_or_ge mid e with h1 | h1
                · have h1z : (mid : Int) < (e : Int) := by omega
                  rcases Nat.lt_or_ge e b with h2 | h2
                  · have h2z : (e : Int) < (b : Int) := by omega
                    go_wp2_with fail
                    refine (IH.out mid e b (P ++ R1) A2 B2 S (by have := LA2.out; have := LB2.out; have := HN.out; have := HM.out; have := HB.out; have := HE.out; omega) (by have := HLR.out; have := HA.out; simp; omega) (by have := LA2.out; have := HE.out; omega) (by have := LB2.out; omega) (by have := LA2.out; have := HE.out; omega) (by have := LB2.out; omega) UA2.out UB2.out T2.out D2.out _ (H0.out.trans hT2) HRR2.out).mono ?_
                    rintro e' w' ⟨R2, rfl, u2, p2, hR', hT'⟩
                    have HQ' := Lib.hid hR'
                    have HF := Lib.hid (HM2.out R1 R2 P1.out p2 U1.out u2)
                    clear hR' u2 p2
                    go_wp2
                    go_end0
                    exact ⟨R1 ++ R2, rfl, HF.out.1, HF.out.2, by simpa using HQ'.out, hT2.trans hT'⟩
                  · have h2z : ¬ (e : Int) < (b : Int) := by omega
                    have hz : B2 = [] := List.eq_nil_of_length_eq_zero (by have := LB2.out; omega)
                    have HF := Lib.hid (HM2.out R1 A2 P1.out (by rw [hz, List.append_nil]) U1.out UA2.out)
                    have HZ := Lib.hid hz
                    clear hz
                    go_wp2
                    go_end0
                    refine ⟨R1 ++ A2, rfl, HF.out.1, HF.out.2, ?_, hT2⟩
                    have h := HRR2.out
                    rw [HZ.out] at h
                    simpa using h
                · have h1z : ¬ (mid : Int) < (e : Int) := by omega
                  have hz : A2 = [] := List.eq_nil_of_length_eq_zero (by have := LA2.out; have := HE.out; omega)
                  have HF := Lib.hid (HM2.out R1 B2 P1.out (by rw [hz, List.nil_append]) U1.out UB2.out)
                  have HZ := Lib.hid hz
                  clear hz
                  go_wp2
                  go_end0
                  refine ⟨R1 ++ B2, rfl, HF.out.1, HF.out.2, ?_, hT2⟩
                  have h := HRR2.out
                  rw [HZ.out] at h
                  simpa using h

theorem sym_any (lx : Int → Int → Bool) (htr : ∀ a b c, lx a b = true → lx b c = true → lx a c = true) (cf : Int → Int → Int) (K : Nat) (cb : Array Value) (D : List Int) (g n c : Nat) (W0 : World)
    (hK : ∀ (args : Array Value) (w : World), (callFunc K args).run Tryz.prog w = .ok (.enter K args) w) (hC : CmpOk K cb cf D g W0) (hn : n ≤ 1000000) : ∀ N, SymAt lx cf K cb D g n c N W0
  | 0 => by
    intro a m b P A B S hN _ _ _ hA1
    omega
  | N + 1 => sym_step lx htr cf K cb D g n c N W0 hK hC hn (sym_any lx htr cf K cb D g n c W0 hK hC hn N)
end Go.Proofs.YtjajlddnhmbekaaGreat
