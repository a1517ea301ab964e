/-
  A mixture is one: spec.l05Mixture, both ValidMixture.
-/
import Derived.Test.YtimpabceellihaaShareIs
import Derived.Test.YtimpabceellihaaMixture
namespace Go.Proofs.Ytimpabceellihaa
open Go.RowKit
attribute [local go_sem] run_fl_add run_fl_sub run_fl_mul run_fl_quo

def mixB (v m s : List Nat) : Bool := decide (1 ≤ v.length ∧ v.length ≤ 8) && decide (m.length = v.length) && decide (s.length = v.length) && m.all finB && (v.all leastB && nearA (sumF (absL v))) && s.all aboveB
theorem mixB_f1 {v m s : List Nat} (h : ¬ (1 ≤ v.length ∧ v.length ≤ 8)) : mixB v m s = false := by unfold mixB; rw [decide_eq_false h]; rfl
theorem mixB_f2 {v m s : List Nat} (h : ¬ m.length = v.length) : mixB v m s = false := by unfold mixB; rw [decide_eq_false h]; simp
theorem mixB_f3 {v m s : List Nat} (h : ¬ s.length = v.length) : mixB v m s = false := by unfold mixB; rw [decide_eq_false h]; simp
theorem mixB_f4 {v m s : List Nat} (h : m.all finB = false) : mixB v m s = false := by unfold mixB; rw [h]; simp
theorem mixB_f5 {v m s : List Nat} (h : v.all leastB = false) : mixB v m s = false := by unfold mixB; rw [h]; simp
theorem mixB_f6 {v m s : List Nat} (h : s.all aboveB = false) : mixB v m s = false := by unfold mixB; rw [h]; simp
theorem mixB_t {v m s : List Nat} (h1 : 1 ≤ v.length ∧ v.length ≤ 8) (h2 : m.length = v.length) (h3 : s.length = v.length) (h4 : m.all finB = true) : mixB v m s = ((v.all leastB && nearA (sumF (absL v))) && s.all aboveB) := by
  unfold mixB
  rw [decide_eq_true h1, decide_eq_true h2, decide_eq_true h3, h4]; rfl
theorem mixB_len {v m s : List Nat} (h : mixB v m s = true) : (1 ≤ v.length ∧ v.length ≤ 8) ∧ m.length = v.length ∧ s.length = v.length := by
  unfold mixB at h
  simp only [Bool.and_eq_true, decide_eq_true_eq] at h
  exact ⟨h.1.1.1.1.1, h.1.1.1.1.2, h.1.1.1.2⟩

set_option maxHeartbeats 3200000 in
theorem l05Mixture_any (a : Nat) (s0 s1 s2 : Value) (x0 x1 x2 : List Nat) (hn0 : x0.length ≤ 1099511627776) (hn1 : x1.length ≤ 1099511627776) (_hn2 : x2.length ≤ 1099511627776) (w : World) (ha : BoxAt w a [s0, s1, s2]) (hr0 : Rd fV w s0 x0) (hr1 : Rd fV w s1 x1) (hr2 : Rd fV w s2 x2) :
    Calls Try.prog 23 #[.pointer (some ⟨a, 0, none⟩)] w fun e w' => e = .returned (.bool (mixB x0 x1 x2)) ∧ Below w.heap.size w w' := by
  have HR0 := Lib.hid hr0
  obtain ⟨A0, cap0, rfl, hcap0, hA0⟩ := hr0
  have HA0 := Lib.hid hA0
  clear hA0
  have HR1 := Lib.hid hr1
  obtain ⟨A1, cap1, rfl, hcap1, hA1⟩ := hr1
  have HA1 := Lib.hid hA1
  clear hA1
  have HR2 := Lib.hid hr2
  obtain ⟨A2, cap2, rfl, hcap2, hA2⟩ := hr2
  have HA2 := Lib.hid hA2
  clear hA2
  have c0 := ha.cell 0 _ rfl
  have c1 := ha.cell 1 _ rfl
  have c2 := ha.cell 2 _ rfl
  by_cases h1 : 1 ≤ x0.length
  · by_cases h2 : x0.length ≤ 8
    · by_cases h3 : x1.length = x0.length
      · by_cases h4 : x2.length = x0.length
        · have H3 := Lib.hid h3
          have H4 := Lib.hid h4
          have HN1 := Lib.hid hn1
          rw [h3] at c1 hcap1
          rw [h4] at c2 hcap2
          rw [h3, h4] at ha
          have HR1' : Hid (Rd fV w (.slice A1 x0.length cap1) x1) := by have := HR1.out; rw [h3] at this; exact this
          clear h3 h4 hn1 _hn2 HR1
          go_enter Try.func23, Try.ntmps23
          go_wp2_with fail
          refine (l02Finite_any _ x1 HN1.out _ HR1'.out).mono ?_
          rintro e w1 ⟨rfl, hd⟩
          have hT := below_of_drew hd
          clear hd
          have B := ha.below hT
          cases hf : x1.all finB
          · have Hf := Lib.hid hf
            clear hf
            go_wp2
            go_ret
            exact ⟨ret_bool (mixB_f4 Hf.out).symm, hT⟩
          · have HF := Lib.hid hf
            clear hf c0 c1 c2
            have c0 := B.cell 0 _ rfl
            have c1 := B.cell 1 _ rfl
            have c2 := B.cell 2 _ rfl
            go_wp2
            go_loopw [4, 48] (fun ss si wr => ∃ (k b : Nat), k ≤ x0.length ∧ si = .int .i64 k ∧ ss = fV b ∧ Hid (absF .f32 b = sumF (absL (x0.take k))) ∧ Hid ((x0.take k).all leastB = true) ∧ Hid ((x2.take k).all aboveB = true) ∧ Below w1.heap.size w1 wr) (fun _ si _ => x0.length - (intOf si).toNat)
            case atStart => exact ⟨0, 0, by omega, rfl, rfl, rfl, rfl, rfl, Below.refl _ _⟩
            case round =>
              obtain ⟨k, b, hk, rfl, rfl, hs, hle, hab, hb⟩ := hrel
              have B' := B.below hb
              have hb0 := hb
              replace hb := below_to hT hb hT.size
              clear c0 c1 c2
              have d0 := B'.cell 0 _ rfl
              have d1 := B'.cell 1 _ rfl
              have d2 := B'.cell 2 _ rfl
              by_cases hlt : k < x0.length
              · obtain ⟨x, hx⟩ := get_of_lt hlt
                obtain ⟨z, hz⟩ := get_of_lt (xs := x2) (k := k) (by rw [H4.out]; exact hlt)
                obtain ⟨ad, rfl, hbl, hcell⟩ := HA0.out k x hx
                obtain ⟨ad2, rfl, hbl2, hcell2⟩ := HA2.out k z hz
                have e0 : wr.cell? (ad.add k) = some (fV x) := by rw [hb.cell (by rw [add_block]; exact hbl)]; exact hcell
                have e2 : wr.cell? (ad2.add k) = some (fV z) := by rw [hb.cell (by rw [add_block]; exact hbl2)]; exact hcell2
                have HX := Lib.hid hx
                have HZ := Lib.hid hz
                clear hx hz hcell hcell2
                go_wp2_with fail
                refine (l02Least_any _ _).mono ?_
                rintro e w' ⟨rfl, n, rfl⟩
                cases hl : leastB x
                · have HL := Lib.hid hl
                  clear hl
                  go_wp2
                  go_ret
                  exact ⟨ret_bool (mixB_f5 (all_false_of HX.out HL.out)).symm, below_drewN_ hb⟩
                · have HL := Lib.hid hl
                  clear hl
                  go_wp2_with fail
                  refine (l02Above_any _ _).mono ?_
                  rintro e w' ⟨rfl, m, rfl⟩
                  cases hl : aboveB z
                  · have HL2 := Lib.hid hl
                    clear hl
                    go_wp2
                    go_ret
                    exact ⟨ret_bool (mixB_f6 (all_false_of HZ.out HL2.out)).symm, below_drewN_ hb⟩
                  · have HL2 := Lib.hid hl
                    clear hl
                    go_wp2
                    go_roundw
                    case rel => exact ⟨k + 1, _, by omega, by go_num, rfl, by unfold Hid; rw [absL_snoc HX.out, sumF_snoc, abs_flR .add rfl, hs.out], by unfold Hid; rw [take_snoc HX.out, List.all_append, hle.out]; simp [HL.out], by unfold Hid; rw [take_snoc HZ.out, List.all_append, hab.out]; simp [HL2.out], below_drewN_ hb0⟩
                    case measure => simp [intOf]; omega
              · have hke : k = x0.length := by omega
                have HK := Lib.hid hke
                clear hke
                have HT : Hid (mixB x0 x1 x2 = nearA (absF .f32 b)) := by
                  unfold Hid
                  have e2 := hab.out; have e3 := hle.out; have e4 := hs.out
                  rw [HK.out, List.take_length] at e3 e4
                  rw [HK.out, ← H4.out, List.take_length] at e2
                  rw [mixB_t ⟨h1, h2⟩ H3.out H4.out HF.out, e2, e3, e4]; simp
                obtain ⟨t1, r1⟩ := near_lt b 981668463 (by decide)
                obtain ⟨t2, r2⟩ := near_eq b 981668463 (by decide)
                obtain ⟨t3, r3⟩ := near_gt b 3129152111 (by decide)
                obtain ⟨t4, r4⟩ := near_eq b 3129152111 (by decide)
                have HN : Hid (nearA (absF .f32 b) = ((t1 || t2) && (t3 || t4))) := by
                  unfold Hid
                  rw [← near_bits (d := flR .sub .f32 b 1065353216 wr) rfl (abs_flR .sub rfl .f32 _ _ _)]
                  unfold leB geB ord32
                  rw [r1, r2, r3, r4]
                clear hs hab hle
                cases t1 <;> cases t2 <;> cases t3 <;> cases t4
                all_goals
                  go_wp2
                  go_ret
                  exact ⟨ret_bool (by rw [HT.out, HN.out]; rfl), by first | exact hb | exact below_drewN_ hb⟩
        · have H4 := Lib.hid h4
          have h4' : ((x2.length : Int) != (x0.length : Int)) = true := by simp; omega
          rw [h3] at c1
          clear h4
          go_enter Try.func23, Try.ntmps23
          go_wp2
          go_ret
          exact ⟨ret_bool (mixB_f3 H4.out).symm, Below.refl _ _⟩
      · have H3 := Lib.hid h3
        have h3' : ((x1.length : Int) != (x0.length : Int)) = true := by simp; omega
        clear h3
        go_enter Try.func23, Try.ntmps23
        go_wp2
        go_ret
        exact ⟨ret_bool (mixB_f2 H3.out).symm, Below.refl _ _⟩
    · go_enter Try.func23, Try.ntmps23
      go_wp2
      go_ret
      exact ⟨ret_bool (mixB_f1 (by omega)).symm, Below.refl _ _⟩
  · go_enter Try.func23, Try.ntmps23
    go_wp2
    go_ret
    exact ⟨ret_bool (mixB_f1 (by omega)).symm, Below.refl _ _⟩

set_option maxHeartbeats 1600000 in
theorem implValidMixture_any (s0 : Value) (x0 : List Nat) (s1 : Value) (x1 : List Nat) (s2 : Value) (x2 : List Nat) (hn0 : x0.length ≤ 1099511627776) (hn1 : x1.length ≤ 1099511627776) (hn2 : x2.length ≤ 1099511627776) (w : World) (hr0 : Rd fV w s0 x0) (hr1 : Rd fV w s1 x1) (hr2 : Rd fV w s2 x2) :
    Calls Try.prog 19 #[mxV s0 s1 s2] w fun e w' => e = .returned (.bool (mixB x0 x1 x2)) ∧ Below w.heap.size w w' := by
  have HR0 := Lib.hid hr0
  obtain ⟨A0, cap0, rfl, hcap0, hA0⟩ := hr0
  have HA0 := Lib.hid hA0
  clear hA0
  have HR1 := Lib.hid hr1
  obtain ⟨A1, cap1, rfl, hcap1, hA1⟩ := hr1
  have HA1 := Lib.hid hA1
  clear hA1
  have HR2 := Lib.hid hr2
  obtain ⟨A2, cap2, rfl, hcap2, hA2⟩ := hr2
  have HA2 := Lib.hid hA2
  clear hA2
  have hb0 := below_alloc w (.cells ([.slice A0 x0.length cap0, .slice A1 x1.length cap1, .slice A2 x2.length cap2] : List Value).toArray 26)
  by_cases h1 : 1 ≤ x0.length
  · by_cases h2 : x0.length ≤ 8
    · by_cases h3 : x1.length = x0.length
      · by_cases h4 : x2.length = x0.length
        · have H3 := Lib.hid h3
          have H4 := Lib.hid h4
          have HN1 := Lib.hid hn1
          have HN2 := Lib.hid hn2
          have HR1' : Hid (Rd fV w (.slice A1 x0.length cap1) x1) := by have := HR1.out; rw [h3] at this; exact this
          have HR2' : Hid (Rd fV w (.slice A2 x0.length cap2) x2) := by have := HR2.out; rw [h4] at this; exact this
          rw [h3] at hcap1
          rw [h4] at hcap2
          rw [h3, h4]
          clear h3 h4 hn1 hn2 HR1 HR2 hb0
          go_enter Try.func19, Try.ntmps19
          go_wp2_with fail
          have B := BoxAt.new w [.slice A0 x0.length cap0, .slice A1 x0.length cap1, .slice A2 x0.length cap2] 26
          have hT := below_alloc w (.cells ([.slice A0 x0.length cap0, .slice A1 x0.length cap1, .slice A2 x0.length cap2] : List Value).toArray 26)
          generalize hg : World.alloc w _ = W0 at *
          clear hg
          refine (areChances_any _ x0 hn0 _ (HR0.out.below hT)).mono ?_
          rintro e w1 ⟨rfl, hd⟩
          have hb := below_of_drew hd
          clear hd
          replace B := B.below hb
          replace hT := below_to hT hb hT.size
          clear hb
          cases hc : (x0.all leastB && nearA (sumF (absL x0)))
          · have HC := Lib.hid hc
            clear hc
            go_wp2
            go_ret
            exact ⟨ret_bool (by unfold mixB; rw [HC.out]; simp), hT⟩
          · have HC := Lib.hid hc
            clear hc
            have d0 := B.cell 0 _ rfl
            have d1 := B.cell 1 _ rfl
            have d2 := B.cell 2 _ rfl
            go_wp2_with fail
            refine (areFinite_any _ x1 HN1.out _ (HR1'.out.below hT)).mono ?_
            rintro e w2 ⟨rfl, hd⟩
            have hb := below_of_drew hd
            clear hd d0 d1 d2
            replace B := B.below hb
            replace hT := below_to hT hb hT.size
            clear hb
            cases hc : x1.all finB
            · have HC2 := Lib.hid hc
              clear hc
              go_wp2
              go_ret
              exact ⟨ret_bool (mixB_f4 HC2.out).symm, hT⟩
            · have HC2 := Lib.hid hc
              clear hc
              have d0 := B.cell 0 _ rfl
              have d1 := B.cell 1 _ rfl
              have d2 := B.cell 2 _ rfl
              go_wp2_with fail
              refine (arePositive_any _ x2 HN2.out _ (HR2'.out.below hT)).mono ?_
              rintro e w3 ⟨rfl, hd⟩
              have hb := below_of_drew hd
              clear hd d0 d1 d2
              replace B := B.below hb
              replace hT := below_to hT hb hT.size
              clear hb
              go_wp2
              go_ret
              exact ⟨ret_bool (by rw [mixB_t ⟨h1, h2⟩ H3.out H4.out HC2.out, HC.out]; simp), hT⟩
        · have H4 := Lib.hid h4
          have h4' : ((x2.length : Int) == (x0.length : Int)) = false := by simp; omega
          have HB0 := Lib.hid hb0
          rw [h3] at HB0 ⊢
          clear h4 hb0
          go_enter Try.func19, Try.ntmps19
          go_wp2
          go_ret
          exact ⟨ret_bool (mixB_f3 H4.out).symm, HB0.out⟩
      · have H3 := Lib.hid h3
        have h3' : ((x1.length : Int) == (x0.length : Int)) = false := by simp; omega
        clear h3
        go_enter Try.func19, Try.ntmps19
        go_wp2
        go_ret
        exact ⟨ret_bool (mixB_f2 H3.out).symm, hb0⟩
    · go_enter Try.func19, Try.ntmps19
      go_wp2
      go_ret
      exact ⟨ret_bool (mixB_f1 (by omega)).symm, hb0⟩
  · go_enter Try.func19, Try.ntmps19
    go_wp2
    go_ret
    exact ⟨ret_bool (mixB_f1 (by omega)).symm, hb0⟩
end Go.Proofs.Ytimpabceellihaa
