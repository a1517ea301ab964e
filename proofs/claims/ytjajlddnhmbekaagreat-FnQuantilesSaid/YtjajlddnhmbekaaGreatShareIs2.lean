/-
  Shares by value: laws.szShare, toShare, eqShare, markShare, heldShare.
  A share is one: spec.l05Is, spec.ValidShare, impl.ValidShare.
-/
import Derived.Test.YtjajlddnhmbekaaGreatSl
import Derived.Test.YtjajlddnhmbekaaGreatF32s
namespace Go.Proofs.YtjajlddnhmbekaaGreat
section
open Go.RowKit

/-- A Share as a value. -/
abbrev shV (s0 s1 : Value) : Value := .agg #[s0, s1]

end

section
open Go.RowKit
attribute [local go_sem] run_fl_add run_fl_sub run_fl_mul run_fl_quo

/-- The value at place i is greater than the one before it. -/
def pairB (xs : List Nat) (i : Nat) : Bool := i == 0 || !leB (xs.getD i 0) (xs.getD (i - 1) 0)
def riseTo (xs : List Nat) (k : Nat) : Bool := (List.range k).all (pairB xs)
theorem riseTo_succ (xs : List Nat) (k : Nat) : riseTo xs (k + 1) = (riseTo xs k && pairB xs k) := by simp [riseTo, List.range_succ]
theorem riseTo_false {xs : List Nat} {k : Nat} (hk : k < xs.length) (h : pairB xs k = false) : riseTo xs xs.length = false := by
  unfold riseTo
  rw [List.all_eq_false]
  exact ⟨k, by simp [hk], by simp [h]⟩
def shareB (v c : List Nat) : Bool := decide (1 ≤ v.length ∧ v.length ≤ 64) && decide (c.length = v.length) && v.all finB && riseTo v v.length && (c.all leastB && nearA (sumF (absL c)))
theorem shareB_f1 {v c : List Nat} (h : ¬ (1 ≤ v.length ∧ v.length ≤ 64)) : shareB v c = false := by unfold shareB; rw [decide_eq_false h]; rfl
theorem shareB_f2 {v c : List Nat} (h : ¬ c.length = v.length) : shareB v c = false := by unfold shareB; rw [decide_eq_false h]; simp
theorem shareB_f3 {v c : List Nat} (h : v.all finB = false) : shareB v c = false := by unfold shareB; rw [h]; simp
theorem shareB_f4 {v c : List Nat} (h : riseTo v v.length = false) : shareB v c = false := by unfold shareB; rw [h]; simp
theorem shareB_f5 {v c : List Nat} (h : c.all leastB = false) : shareB v c = false := by unfold shareB; rw [h]; simp
theorem shareB_t {v c : List Nat} (h1 : 1 ≤ v.length ∧ v.length ≤ 64) (h2 : c.length = v.length) (h3 : v.all finB = true) (h4 : riseTo v v.length = true) : shareB v c = (c.all leastB && nearA (sumF (absL c))) := by
  unfold shareB
  rw [decide_eq_true h1, decide_eq_true h2, h3, h4]; rfl
theorem shareB_len {v c : List Nat} (h : shareB v c = true) : (1 ≤ v.length ∧ v.length ≤ 64) ∧ c.length = v.length := by
  unfold shareB at h
  simp only [Bool.and_eq_true, decide_eq_true_eq] at h
  exact ⟨h.1.1.1.1, h.1.1.1.2⟩
theorem getD_of {α : Type} {xs : List α} {k : Nat} {x d : α} (h : xs[k]? = some x) : xs.getD k d = x := by simp [h]
theorem near_lt (b c : Nat) (_hc : (FloatKind.f32.decode c).isNaN = false) : ∃ t, ∀ W, (FloatKind.f32.format.order (flR .sub .f32 b 1065353216 W) c == some .lt) = t :=
  ⟨_, fun W => by rw [ord_abs .f32, abs_flR .sub rfl]⟩
theorem near_eq (b c : Nat) (_hc : (FloatKind.f32.decode c).isNaN = false) : ∃ t, ∀ W, (FloatKind.f32.format.order (flR .sub .f32 b 1065353216 W) c == some .eq) = t :=
  ⟨_, fun W => by rw [ord_abs .f32, abs_flR .sub rfl]⟩
theorem near_gt (b c : Nat) (_hc : (FloatKind.f32.decode c).isNaN = false) : ∃ t, ∀ W, (FloatKind.f32.format.order (flR .sub .f32 b 1065353216 W) c == some .gt) = t :=
  ⟨_, fun W => by rw [ord_abs .f32, abs_flR .sub rfl]⟩
theorem quietR {P : Program} {f : FuncId} {args : Array Value} {v : Value} (h : ∀ w, Calls P f args w fun e w' => e = .returned v ∧ ∃ n, w.drewN n = w') (w : World) (n : Nat) :
    Calls P f args (w.drewN n) fun e w'' => e = .returned v ∧ ∃ m, w'' = w.drewN m :=
  (h _).mono fun e w' ⟨he, m, hm⟩ => ⟨he, n + m, by rw [← hm, World.drewN_drewN]⟩

set_option maxHeartbeats 3200000 in
theorem l05Is_any (a : Nat) (s0 s1 : Value) (x0 x1 : List Nat) (hn0 : x0.length ≤ 1099511627776) (_hn1 : x1.length ≤ 1099511627776) (w : World) (ha : BoxAt w a [s0, s1]) (hr0 : Rd fV w s0 x0) (hr1 : Rd fV w s1 x1) :
    Calls Tryz.prog 36 #[.pointer (some ⟨a, 0, none⟩)] w fun e w' => e = .returned (.bool (shareB x0 x1)) ∧ Below w.heap.size w w' := by
  have HR0 := Lib.hid hr0
  obtain ⟨A0, cap0, rfl, hcap0, hA0⟩ := hr0
  have HA0 := Lib.hid hA0
  obtain ⟨A1, cap1, rfl, hcap1, hA1⟩ := hr1
  have HA1 := Lib.hid hA1
  clear hA0 hA1
  have c0 := ha.cell 0 _ rfl
  have c1 := ha.cell 1 _ rfl
  by_cases h1 : 1 ≤ x0.length
  · by_cases h2 : x0.length ≤ 64
    · by_cases h3 : x1.length = x0.length
      · have H3 := Lib.hid h3
        rw [h3] at c1 ha hcap1
        clear h3
        go_enter Tryz.func36, Tryz.ntmps36
        go_wp2
        go_loopw [4, 31] (fun ss si wr => ∃ (k b : Nat), k ≤ x0.length ∧ si = .int .i64 k ∧ ss = fV b ∧ Hid (absF .f32 b = sumF (absL (x1.take k))) ∧ Hid ((x0.take k).all finB = true) ∧ Hid (riseTo x0 k = true) ∧ Hid ((x1.take k).all leastB = true) ∧ Below w.heap.size w wr) (fun _ si _ => x0.length - (intOf si).toNat)
        case atStart => exact ⟨0, 0, by omega, rfl, rfl, rfl, rfl, rfl, rfl, Below.refl _ _⟩
        case round =>
          obtain ⟨k, b, hk, rfl, rfl, hs, hf, hri, hle, hb⟩ := hrel
          have B := ha.below hb
          have d0 := B.cell 0 _ rfl
          have d1 := B.cell 1 _ rfl
          by_cases hlt : k < x0.length
          · obtain ⟨x, hx⟩ := get_of_lt hlt
            obtain ⟨c, hc⟩ := get_of_lt (xs := x1) (k := k) (by rw [H3.out]; exact hlt)
            obtain ⟨ad, rfl, hbl, hcell⟩ := HA0.out k x hx
            obtain ⟨ad1, rfl, hbl1, hcell1⟩ := HA1.out k c hc
            have e0 : wr.cell? (ad.add k) = some (fV x) := by rw [hb.cell (by rw [add_block]; exact hbl)]; exact hcell
            have e1 : wr.cell? (ad1.add k) = some (fV c) := by rw [hb.cell (by rw [add_block]; exact hbl1)]; exact hcell1
            have HX := Lib.hid hx
            have HC := Lib.hid hc
            have hk0 : (0 : Int) ≤ (k : Int) := by omega
            have hk1 : (k : Int) < (x0.length : Int) := by omega
            clear hx hc hcell hcell1 c0 c1
            cases hfin : finB x
            · have HF := Lib.hid hfin
              have C1 := Lib.hid (quietR (fun w => (hfin ▸ l01Finite_any x w : Calls Tryz.prog 37 #[fV x] w fun e w' => e = .returned (.bool false) ∧ ∃ n, w.drewN n = w')) wr)
              clear hfin
              go_wp2
              go_quiet (exact C1.out _)
              go_wp2
              go_ret
              exact ⟨ret_bool (shareB_f3 (all_false_of HX.out HF.out)).symm, below_drewN_ hb⟩
            · have HF := Lib.hid hfin
              have C1 := Lib.hid (quietR (fun w => (hfin ▸ l01Finite_any x w : Calls Tryz.prog 37 #[fV x] w fun e w' => e = .returned (.bool true) ∧ ∃ n, w.drewN n = w')) wr)
              clear hfin
              cases hlst : leastB c <;> (have HL := Lib.hid hlst)
              all_goals
                have C2 := Lib.hid (quietR (fun w => (hlst ▸ l02Least_any c w : Calls Tryz.prog 61 #[fV c] w fun e w' => e = .returned (.bool _) ∧ ∃ n, w.drewN n = w')) wr)
                clear hlst
                rcases Nat.eq_zero_or_pos k with hz | hz
                · have hzi : decide ((0 : Int) < (k : Int)) = false := by simp; omega
                  have hzj : decide (0 < k) = false := by simp; omega
                  have HP : Hid (pairB x0 k = true) := by unfold Hid pairB; simp [hz]
                  clear hz
                  go_wp2
                  go_quiet (first | (go_at_call 37; exact C1.out _) | (go_at_call 61; exact C2.out _))
                  go_wp2
                  first
                    | (go_ret; exact ⟨ret_bool (shareB_f5 (all_false_of HC.out HL.out)).symm, below_drewN_ hb⟩)
                    | (go_roundw
                       case rel => exact ⟨k + 1, _, by omega, by go_num, rfl, by unfold Hid; rw [absL_snoc HC.out, sumF_snoc, abs_flR .add rfl, hs.out], by unfold Hid; rw [take_snoc HX.out, List.all_append, hf.out]; simp [HF.out], by unfold Hid; rw [riseTo_succ, hri.out, HP.out]; rfl, by unfold Hid; rw [take_snoc HC.out, List.all_append, hle.out]; simp [HL.out], below_drewN_ hb⟩
                       case measure => simp [intOf]; omega)
                · obtain ⟨y, hy⟩ := get_of_lt (xs := x0) (k := k - 1) (by omega)
                  obtain ⟨_, e, _, hcy⟩ := HA0.out (k - 1) y hy
                  cases e
                  have e2 : wr.cell? (ad.add (k - 1)) = some (fV y) := by rw [hb.cell (by rw [add_block]; exact hbl)]; exact hcy
                  have HP : Hid (pairB x0 k = !leB x y) := by unfold Hid pairB; rw [getD_of HX.out, getD_of hy]; simp; omega
                  have hsub : IntKind.i64.wrap ((k : Int) - 1) = ((k - 1 : Nat) : Int) := by rw [IntWalk.i64_in _ (by omega)]; omega
                  have hp0 : (0 : Int) ≤ ((k - 1 : Nat) : Int) := by omega
                  have hp1 : ((k - 1 : Nat) : Int) < (x0.length : Int) := by omega
                  have hzi : decide ((0 : Int) < (k : Int)) = true := by simp; omega
                  clear hy hcy
                  cases hl1 : (FloatKind.f32.format.order x y == some .lt) <;> cases hl2 : (FloatKind.f32.format.order x y == some .eq)
                  all_goals
                    have HL1 := Lib.hid hl1
                    have HL2 := Lib.hid hl2
                    go_wp2
                    go_quiet (first | (go_at_call 37; exact C1.out _) | (go_at_call 61; exact C2.out _))
                    go_wp2
                    first
                      | (go_ret; exact ⟨ret_bool (shareB_f4 (riseTo_false hlt (by rw [HP.out, leB, ord32, HL1.out, HL2.out]; rfl))).symm, below_drewN_ hb⟩)
                      | (go_ret; exact ⟨ret_bool (shareB_f5 (all_false_of HC.out HL.out)).symm, below_drewN_ hb⟩)
                      | (go_roundw
                         case rel => exact ⟨k + 1, _, by omega, by go_num, rfl, by unfold Hid; rw [absL_snoc HC.out, sumF_snoc, abs_flR .add rfl, hs.out], by unfold Hid; rw [take_snoc HX.out, List.all_append, hf.out]; simp [HF.out], by unfold Hid; rw [riseTo_succ, hri.out, HP.out, leB, ord32, HL1.out, HL2.out]; rfl, by unfold Hid; rw [take_snoc HC.out, List.all_append, hle.out]; simp [HL.out], below_drewN_ hb⟩
                         case measure => simp [intOf]; omega)
          · have hke : k = x0.length := by omega
            have HK := Lib.hid hke
            clear hke c0 c1
            have HT : Hid (shareB x0 x1 = nearA (absF .f32 b)) := by
              unfold Hid
              have e1 := hf.out; have e2 := hri.out; have e3 := hle.out; have e4 := hs.out
              rw [HK.out, List.take_length] at e1
              rw [HK.out] at e2
              rw [HK.out, ← H3.out, List.take_length] at e3 e4
              rw [shareB_t ⟨h1, h2⟩ H3.out e1 e2, e3, e4]; rfl
            obtain ⟨t1, r1⟩ := near_lt b 981668463 (by decide)
            obtain ⟨t2, r2⟩ := near_eq b 981668463 (by decide)
            obtain ⟨t3, r3⟩ := near_gt b 3129152111 (by decide)
            obtain ⟨t4, r4⟩ := near_eq b 3129152111 (by decide)
            have HN : Hid (nearA (absF .f32 b) = ((t1 || t2) && (t3 || t4))) := by
              unfold Hid
              rw [← near_bits (d := flR .sub .f32 b 1065353216 wr) rfl (abs_flR .sub rfl .f32 _ _ _)]
              unfold leB geB ord32
              rw [r1, r2, r3, r4]
            clear hs hf hri hle
            cases t1 <;> cases t2 <;> cases t3 <;> cases t4
            all_goals
              go_wp2
              go_ret
              exact ⟨ret_bool (by rw [HT.out, HN.out]; rfl), by first | exact hb | exact below_drewN_ hb⟩
      · have H3 := Lib.hid h3
        have h3' : ((x1.length : Int) != (x0.length : Int)) = true := by simp; omega
        clear h3
        go_enter Tryz.func36, Tryz.ntmps36
        go_wp2
        go_ret
        exact ⟨ret_bool (shareB_f2 H3.out).symm, Below.refl _ _⟩
    · go_enter Tryz.func36, Tryz.ntmps36
      go_wp2
      go_ret
      exact ⟨ret_bool (shareB_f1 (by omega)).symm, Below.refl _ _⟩
  · go_enter Tryz.func36, Tryz.ntmps36
    go_wp2
    go_ret
    exact ⟨ret_bool (shareB_f1 (by omega)).symm, Below.refl _ _⟩
end
end Go.Proofs.YtjajlddnhmbekaaGreat
