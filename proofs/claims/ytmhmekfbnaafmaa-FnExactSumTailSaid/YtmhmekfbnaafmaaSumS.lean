/-
  The walk of spec.SumTail.
-/
import Derived.Test.YtmhmekfbnaafmaaSumT
import Derived.Lib.RabinKarpLaws
namespace Go.Proofs.Ytmhmekfbnaafmaa
open Go.RowKit Go.Maps

theorem bit_of (m k : Nat) (hm : m < 4096) : (bits BinOp.and IntKind.i64 ((m : Int) / 2 ^ k) 1 == 1) = m.testBit k := by
  have hle := Nat.div_le_self m (2 ^ k)
  rw [show ((m : Int) / 2 ^ k) = ((m / 2 ^ k : Nat) : Int) by push_cast; rfl, and_one _ (by omega), Nat.testBit_eq_decide_div_mod_eq]
  rcases Nat.mod_two_eq_zero_or_one (m / 2 ^ k) with h | h <;> simp [h]
theorem cB_le (m : Nat) : ∀ k, cB m k ≤ k
  | 0 => Nat.le_refl _
  | k + 1 => by have := cB_le m k; unfold cB; split <;> omega

set_option maxRecDepth 100000 in
set_option maxHeartbeats 1000000 in
theorem specSum_any (u : Value) (xa : List Int) (ha : xa.length ≤ 1099511627776) (v : Value) (xb : List Int) (hb : xb.length ≤ 1099511627776) (w : World) (hr : Rd iV w u xa) (hs : Rd iV w v xb) :
    Calls Try.prog 19 #[u, v] w (RetSum xa xb w) := by
  have HA := Lib.hid hr
  have HB := Lib.hid hs
  obtain ⟨A1, c1, rfl, hc1, hA1⟩ := hr
  obtain ⟨A2, c2, rfl, hc2, hA2⟩ := hs
  clear hA1 hA2
  cases h : bothB 40 xa xb
  · go_enter Try.func19, Try.ntmps19
    go_wp2_with (go_at_call 32; refine (l06Both_any _ _ xa xb ha hb _ HA.out HB.out).mono ?_; rintro e w' ⟨rfl, n, rfl⟩; rw [h])
    go_ret3
    have e : sumB xa xb = false := by
      cases h2 : sumB xa xb with
      | false => rfl
      | true =>
        obtain ⟨g1, g2, g3⟩ := both_parts h2
        rw [both_of g1 g2 (by omega)] at h
        cases h
    exact ⟨by unfold sumP sumA; rw [e]; rfl, below_of_drew ⟨_, rfl⟩⟩
  obtain ⟨g1, g2, g40⟩ := both_parts h
  by_cases g3 : xa.length + xb.length ≤ 12
  case neg =>
    go_enter Try.func19, Try.ntmps19
    go_wp2_with (go_at_call 32; refine (l06Both_any _ _ xa xb ha hb _ HA.out HB.out).mono ?_; rintro e w' ⟨rfl, n, rfl⟩; rw [h])
    go_ret3
    have e : sumB xa xb = false := both_of3 g3
    exact ⟨by unfold sumP sumA; rw [e]; rfl, below_of_drew ⟨_, rfl⟩⟩
  case pos =>
    have hsb : sumB xa xb = true := both_of g1 g2 g3
    have HSB := Lib.hid hsb
    have hd12 : decide ((12 : Int) < (xa.length : Int) + (xb.length : Int)) = false := decide_eq_false (by omega)
    have hin : ∀ x ∈ xa ++ xb, -1000 ≤ x ∧ x ≤ 1000 := fun x hx => by
      rcases List.mem_append.1 hx with h | h
      · exact smp_in g1 x h
      · exact smp_in g2 x h
    have HIN := Lib.hid hin
    clear hsb hin
    go_enter Try.func19, Try.ntmps19
    go_wp2_with (go_at_call 32; refine (l06Both_any _ _ xa xb ha hb _ HA.out HB.out).mono ?_; rintro e w' ⟨rfl, n, rfl⟩; rw [h])
    go_wp2_with fail
    obtain ⟨w1, hw1⟩ : ∃ w1, w1 = w.drewN n := ⟨_, rfl⟩
    have hb1 : Below w.heap.size w w1 := by rw [hw1]; exact below_of_drew ⟨_, rfl⟩
    rw [← hw1]
    clear hw1
    refine (l06Joined_any _ _ xa xb (by omega) w1 (HA.out.below hb1) (HB.out.below hb1)).mono ?_
    rintro e w2 ⟨v2, rfl, o2, b2⟩
    have hb2 : Below w.heap.size w w2 := below_to hb1 b2 hb1.size
    obtain ⟨l, hl⟩ : ∃ l, l = xa ++ xb := ⟨_, rfl⟩
    have hll : l.length = xa.length + xb.length := by rw [hl, List.length_append]
    have HL := Lib.hid hl
    rw [← hl] at o2
    obtain ⟨g, c, e, hcc, hg1, hg2⟩ := o2.form (by have := smp_len g1; omega)
    obtain ⟨q, hq⟩ : ∃ q, q = l.length := ⟨_, rfl⟩
    have hget : ∀ (k : Nat) (x : Int), l[k]? = some x → w2.cell? ⟨g, k, none⟩ = some (iV x) := by
      obtain ⟨A', cap', e', _, hA'⟩ := o2.rd
      rw [e] at e'
      intro k x hx
      obtain ⟨ad, ea, _, hc⟩ := hA' k x hx
      injection e' with e1 e2 e3
      rw [ea] at e1
      cases e1
      have ea : (⟨g, 0, none⟩ : Addr).add k = ⟨g, k, none⟩ := by simp [Addr.add]; omega
      rw [← ea]; exact hc
    rw [← hq] at e hll hcc
    subst e
    have hq12 : q ≤ 12 := by omega
    have hqa : xa.length ≤ q := by omega
    have HGET := Lib.hid hget
    have HQ := Lib.hid hq
    clear hl hq hget o2 hll
    go_wp2_with fail
    refine (l06First_any _ xa xa.length (by omega) (by omega) w2 (HA.out.below hb2)).mono ?_
    rintro e w' ⟨rfl, rfl⟩
    obtain ⟨own, hown⟩ : ∃ own, own = sumW (xa.take xa.length) := ⟨_, rfl⟩
    have hown2 : own = sumW xa := by rw [hown, List.take_length]
    rw [← hown]
    have HOWN := Lib.hid hown2
    clear hown hown2
    have hsh : IntKind.i64.wrap (2 ^ q) = 2 ^ q := by
      have h2 : (2 : Int) ^ q ≤ 2 ^ 12 := by exact_mod_cast (Nat.pow_le_pow_right (by omega : 0 < 2) hq12)
      have h3 : (0 : Int) < 2 ^ q := by exact_mod_cast Nat.two_pow_pos q
      exact IntWalk.i64_in _ (by omega)
    go_wp2_with fail
    go_loopw [9, 10, 11] (fun sp sa sm wr => ∃ m : Nat, m ≤ 2 ^ q ∧ sm = .int .i64 m ∧ sp = .int .i64 ((sumR (fun m => if (cB m q == xa.length && decide (own ≤ sB l m q)) = true then 1 else 0) m : Nat) : Int) ∧ sa = .int .i64 ((sumR (fun m => if (cB m q == xa.length) = true then 1 else 0) m : Nat) : Int) ∧ wr = w2)
      (fun _ _ sm _ => 2 ^ q - (intOf sm).toNat)
    case atStart => exact ⟨0, Nat.zero_le _, rfl, rfl, rfl, rfl⟩
    case round =>
      obtain ⟨m, hm, rfl, rfl, rfl, rfl⟩ := hrel
      obtain ⟨pt, hpt⟩ : ∃ pt : Nat, pt = sumR (fun m => if (cB m q == xa.length && decide (own ≤ sB l m q)) = true then 1 else 0) m := ⟨_, rfl⟩
      obtain ⟨al, hal⟩ : ∃ al : Nat, al = sumR (fun m => if (cB m q == xa.length) = true then 1 else 0) m := ⟨_, rfl⟩
      rw [← hpt, ← hal]
      have hM : 2 ^ q ≤ 2 ^ 12 := Nat.pow_le_pow_right (by omega) hq12
      have hptm : pt ≤ m := by rw [hpt]; exact sumR_le (fun k => by split <;> omega) m
      have halm : al ≤ m := by rw [hal]; exact sumR_le (fun k => by split <;> omega) m
      have HPT := Lib.hid hpt
      have HAL := Lib.hid hal
      clear hpt hal
      obtain ⟨M, hMM⟩ : ∃ M : Nat, M = 2 ^ q := ⟨_, rfl⟩
      have hMi : (2 : Int) ^ q = (M : Int) := by rw [hMM]; push_cast; rfl
      rw [← hMM] at hm hM
      have HMM := Lib.hid hMM
      rw [hMi] at hsh
      have HMI := Lib.hid hMi
      clear hMM
      by_cases hlt : m < M
      · go_wp2_with fail
        go_loop [12, 13, 14] (fun sc ss si => ∃ k : Nat, k ≤ q ∧ si = .int .i64 k ∧ sc = .int .i64 ((cB m k : Nat) : Int) ∧ ss = .int .i64 (sB l m k)) (fun _ _ si => q - (intOf si).toNat)
        case atStart => exact ⟨0, Nat.zero_le _, rfl, rfl, rfl⟩
        case round =>
          obtain ⟨k, hk, rfl, rfl, rfl⟩ := hrel
          by_cases hlk : k < q
          · obtain ⟨x, hx⟩ := get_of_lt (xs := l) (k := k) (by rw [← HQ.out]; exact hlk)
            have hcx := HGET.out k x hx
            have hsbd := sB_bd (xs := l) (C := 1000) (by rw [HL.out]; exact HIN.out) (by omega) m k
            have hxin := HIN.out x (by rw [← HL.out]; exact List.mem_of_getElem? hx)
            have HX := Lib.hid hx
            clear hx
            have hcb := cB_le m k
            have hbit := bit_of m k (by omega)
            cases hbt : m.testBit k
            · have ec : cB m (k + 1) = cB m k := by simp only [cB, hbt]; simp
              have es : sB l m (k + 1) = sB l m k := by simp only [sB, hbt]; simp
              rw [hbt] at hbit
              have HEC := Lib.hid ec
              have HES := Lib.hid es
              clear ec es hbt
              go_wp2
              go_round
              case rel => exact ⟨k + 1, by omega, by go_num, by rw [HEC.out], by rw [HES.out]⟩
              case measure => simp [intOf]; omega
            · have ec : cB m (k + 1) = cB m k + 1 := by simp only [cB, hbt]; simp
              have es : sB l m (k + 1) = sB l m k + x := by simp only [sB, hbt, HX.out]; simp
              rw [hbt] at hbit
              have HEC := Lib.hid ec
              have HES := Lib.hid es
              clear ec es hbt
              go_wp2
              go_round
              case rel => exact ⟨k + 1, by omega, by go_num, by rw [HEC.out]; go_num, by rw [HES.out]⟩
              case measure => simp [intOf]; omega
          · have hke : k = q := by omega
            obtain ⟨cc, hcc'⟩ : ∃ cc, cc = cB m k := ⟨_, rfl⟩
            obtain ⟨ss, hss⟩ : ∃ ss, ss = sB l m k := ⟨_, rfl⟩
            have hcq : cc ≤ q := by rw [hcc', ← hke]; exact cB_le m k
            rw [← hcc', ← hss]
            have HCC := Lib.hid (show cc = cB m q by rw [hcc', hke])
            have HSS := Lib.hid (show ss = sB l m q by rw [hss, hke])
            clear hcc' hss hke
            by_cases hca : cc = xa.length
            · have hd1 : ((cc : Int) == (xa.length : Int)) = true := by rw [hca]; simp
              have hd2 : ((cc : Int) != (xa.length : Int)) = false := by rw [hca]; simp
              have e1 : (cB m q == xa.length) = true := by rw [← HCC.out, hca]; simp
              have E1 := Lib.hid e1
              have HCA := Lib.hid hca
              clear e1 hca
              by_cases hos : own ≤ ss
              · have e2 : decide (own ≤ sB l m q) = true := by rw [← HSS.out]; exact decide_eq_true hos
                have E2 := Lib.hid e2
                clear e2
                go_wp2
                go_roundw
                case rel => exact ⟨m + 1, by rw [← HMM.out]; omega, by go_num, by simp only [sumR, E1.out, E2.out, ← HPT.out]; go_num, by simp only [sumR, E1.out, ← HAL.out]; go_num, trivial⟩
                case measure => rw [← HMM.out]; simp [intOf]; omega
              · have e2 : decide (own ≤ sB l m q) = false := by rw [← HSS.out]; exact decide_eq_false hos
                have E2 := Lib.hid e2
                clear e2
                go_wp2
                go_roundw
                case rel => exact ⟨m + 1, by rw [← HMM.out]; omega, by go_num, by simp only [sumR, E1.out, E2.out, ← HPT.out]; rfl, by simp only [sumR, E1.out, ← HAL.out]; go_num, trivial⟩
                case measure => rw [← HMM.out]; simp [intOf]; omega
            · have hd2 : ((cc : Int) != (xa.length : Int)) = true := by simp; omega
              have hd1 : ((cc : Int) == (xa.length : Int)) = false := by simp; omega
              have e1 : (cB m q == xa.length) = false := by rw [← HCC.out]; simp [hca]
              have E1 := Lib.hid e1
              have HCA := Lib.hid hca
              clear e1 hca
              go_wp2
              go_roundw
              case rel => exact ⟨m + 1, by rw [← HMM.out]; omega, by go_num, by simp only [sumR, E1.out, ← HPT.out]; rfl, by simp only [sumR, E1.out, ← HAL.out]; rfl, trivial⟩
              case measure => rw [← HMM.out]; simp [intOf]; omega
      · have hmM : m = M := by omega
        have hpart : (pt : Int) = sumP xa xb := by
          unfold sumP
          rw [HSB.out, HPT.out, hmM, HMM.out, ← HOWN.out, ← HL.out, ← HQ.out]
          rfl
        have hall : (al : Int) = sumA xa xb := by
          unfold sumA
          rw [HSB.out, HAL.out, hmM, HMM.out, ← HL.out, ← HQ.out]
          rfl
        have HP := Lib.hid hpart
        have HA' := Lib.hid hall
        clear hpart hall hmM
        go_wp2
        go_ret3
        exact ⟨ret_iib HP.out HA'.out HSB.out.symm, hb2⟩
end Go.Proofs.Ytmhmekfbnaafmaa
