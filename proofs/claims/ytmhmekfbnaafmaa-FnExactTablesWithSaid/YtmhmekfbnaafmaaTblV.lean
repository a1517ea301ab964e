/-
  Tables with sums told: the walk of spec.TablesWith.
-/
import Derived.Test.YtmhmekfbnaafmaaTblU
import Derived.Deep.DeepCutAuto
import Derived.Deep.RegionHeld3
namespace Go.Proofs.Ytmhmekfbnaafmaa
open Go.RowKit

theorem tabI_zero (N : Nat) : List.replicate N (0 : Int) = tabI N (fun _ => 0) := by
  apply List.ext_getElem?
  intro t
  by_cases h : t < N
  · rw [tabI_at _ h]
    simp [List.getElem?_replicate, h]
    unfold wrap64; omega
  · have h2 : (tabI N (fun _ => 0))[t]? = none := List.getElem?_eq_none (by rw [tabI_len]; omega)
    rw [h2]
    simp [List.getElem?_replicate, h]
theorem tabI_one {N : Nat} (B : List Nat) : (tabI N (fun _ => 0)).set (code B) 1 = tabI N (wOne B) := by
  refine tabI_set ?_ (fun k hk => ?_)
  · unfold wOne; rw [if_pos rfl]; unfold wrap64; omega
  · unfold wOne; rw [if_neg hk]
theorem split_all {C N m key r : Nat} (hC1 : 1 ≤ C) (hC : C ≤ 4) (hN : N = 25 ^ C) (hm : m ≤ 25 ^ 12) (hr : r ≤ 1000) (X : Nat → Nat) (g gc cc B : Nat) (w : World) (hne : g ≠ gc) (hB : B ≤ g) (hB2 : B ≤ gc)
    (hX : RowI w g N N (tabI N X)) (hR : RowI w gc C cc (iL (digs C key))) :
    Calls Try.prog 52 #[.slice (some ⟨g, 0, none⟩) N N, .slice (some ⟨gc, 0, none⟩) C cc, .int .i64 0, .int .i64 r, .int .i64 (m : Int)] w fun e w' =>
      e = .returned (.tuple #[]) ∧ RowI w' g N N (tabI N (fun k => X k + m * wA [] (digs C key) r k)) ∧ Below B w w' := by
  have h := split_ok C N m hC hN (digs C key) (by rw [digs_len]; exact hC1) digs_lt [] r X g gc cc B w (by rw [digs_len]; simp) (fun x hx => by cases hx) hr hne hB hB2 hX hR
  rw [show wrap64 ((m : Nat) : Int) = (m : Int) from IntWalk.wrap64_in _ (by omega)] at h
  exact h.mono (fun e w' h => ⟨h.1, h.2.1, h.2.2.2⟩)

/-- The two lists, the longer one first. -/
def Two (xs ys : List Int) (w wx : World) (sa sb : Value) : Prop := ∃ A B : List Nat, Own iV 2 wx w.heap.size sa (iL A) ∧ Own iV 2 wx w.heap.size sb (iL B) ∧ Below w.heap.size w wx ∧
  (1 ≤ B.length ∧ B.length ≤ A.length ∧ A.length ≤ 4 ∧ B.length ≤ 3 ∧ B.length * A.length ≤ 12) ∧ (∀ x ∈ A, x < 25) ∧ (∀ x ∈ B, x < 25) ∧ Hid (tabP xs ys = wrap64 ((wT A B : Nat) : Int))

set_option maxRecDepth 100000 in
set_option maxHeartbeats 1600000 in
theorem specTab_any (u v : Value) (xs ys : List Int) (hx : xs.length ≤ 1099511627776) (hy : ys.length ≤ 1099511627776) (w : World) (hr : Rd iV w u xs) (hs : Rd iV w v ys) :
    Calls Try.prog 24 #[u, v] w (RetTab xs ys w) := by
  have HR := Lib.hid hr
  have HS := Lib.hid hs
  obtain ⟨A1, c1, rfl, hc1, hA1⟩ := hr
  obtain ⟨A2, c2, rfl, hc2, hA2⟩ := hs
  clear hA1 hA2
  unfold RetTab
  cases hb : smallB xs ys
  · have HT : Hid (tabP xs ys = 0) := by unfold tabP; rw [hb]; exact Lib.hid rfl
    go_enter Try.func24, Try.ntmps24
    go_wp2_with (go_at_call 50; refine (l06Small_any _ _ xs ys hx hy _ HR.out HS.out).mono ?_; rintro e w' ⟨rfl, rfl⟩; rw [hb])
    go_ret2
    exact ⟨by rw [HT.out]; rfl, Below.refl _ _⟩
  · have hparts : ((1 ≤ xs.length ∧ xs.length ≤ 4) ∧ (1 ≤ ys.length ∧ ys.length ≤ 4) ∧ xs.length * ys.length ≤ 12) ∧ sml xs = true ∧ sml ys = true := by
      unfold smallB at hb
      rw [Bool.and_eq_true, Bool.and_eq_true] at hb
      exact ⟨of_decide_eq_true hb.1, hb.2⟩
    obtain ⟨⟨⟨h1, h2⟩, ⟨h3, h4⟩, h5⟩, h6, h7⟩ := hparts
    have HT : Hid (tabP xs ys = wrap64 ((wT (nats xs) (nats ys) : Nat) : Int)) := Lib.hid (by unfold tabP; rw [if_pos hb])
    have H5 := Lib.hid h5
    have H6 := Lib.hid h6
    have H7 := Lib.hid h7
    clear h5 h6 h7
    go_enter Try.func24, Try.ntmps24
    go_wp2_with (first
      | (go_at_call 50; refine (l06Small_any _ _ xs ys hx hy _ HR.out HS.out).mono ?_; rintro e w' ⟨rfl, rfl⟩; rw [hb])
      | (at_builtin; go_loud (refine elI_.app one_iV _ rfl (.tmp 19) (.tmp 20) rfl w.heap.size _ [] rfl (own_nil_new iV w _) _ xs rfl (HR.out.alloc _) (by omega) (by simp; omega) (by simp) ?_)))
    intro v1 w1 ho1 hg1 hb1 _
    have hbw : Below w.heap.size w w1 := ((Below.refl _ _).alloc (Nat.le_refl _) _).trans hb1
    have hb2 : Below w.heap.size w w1 := hbw
    have ho1' : Own iV 2 (w1.alloc (.cells #[] 2)) w.heap.size v1 xs := ho1.alloc _
    go_wp2_with (at_builtin; go_loud (refine elI_.app one_iV _ rfl (.tmp 22) (.tmp 23) rfl w1.heap.size _ [] rfl (own_nil_new iV w1 _) _ ys rfl ((HS.out.below hb2).alloc _) (by omega) (by simp; omega) (by simp) ?_))
    intro v2 w2 ho2 hg2 hb3 _
    have hbw2 : Below w.heap.size w w2 := below_to hbw (((Below.refl _ _).alloc (Nat.le_refl _) _).trans hb3) hbw.size
    have hoa : Own iV 2 w2 w.heap.size v1 xs := (ho1.alloc _).kept hg2 (.inr (fun e => Nat.lt_irrefl _ (ho1.lt _ e).2))
    have hob : Own iV 2 w2 w.heap.size v2 ys := ho2.base_ hbw.size
    obtain ⟨ga, ca, rfl, hca, hga1, hga2⟩ := hoa.form (by omega)
    obtain ⟨gb, cb, rfl, hcb, hgb1, hgb2⟩ := hob.form (by omega)
    clear ho1 ho2 ho1' hg2 hb3 hb2 hbw hg1 hb1
    go_upto_if 29 with fail
    go_cut [6, 7, 8] from 30 to 32 (fun sa sb sx wx => Two xs ys w wx sa sb)
    case first =>
      by_cases hsw : xs.length < ys.length
      · go_wp2
        go_meet
        have h5 := H5.out
        refine ⟨nats ys, nats xs, by rw [iL_nats H7.out]; exact hob, by rw [iL_nats H6.out]; exact hoa, hbw2, ⟨by rw [nats_len]; omega, by rw [nats_len, nats_len]; omega, by rw [nats_len]; omega, ?_, by rw [nats_len, nats_len]; omega⟩, nats_lt H7.out, nats_lt H6.out, ?_⟩
        · rw [nats_len]; omega
        · rw [wT_symm]; exact HT
      · go_wp2
        go_meet
        have h5 := H5.out
        refine ⟨nats xs, nats ys, by rw [iL_nats H6.out]; exact hoa, by rw [iL_nats H7.out]; exact hob, hbw2, ⟨by rw [nats_len]; omega, by rw [nats_len, nats_len]; omega, by rw [nats_len]; omega, ?_, by rw [nats_len, nats_len]; rw [Nat.mul_comm]; omega⟩, nats_lt H6.out, nats_lt H7.out, HT⟩
        · rw [nats_len]
          rcases Nat.lt_or_ge 3 ys.length with h | h
          · have : 4 * 4 ≤ xs.length * ys.length := Nat.mul_le_mul (by omega) (by omega)
            omega
          · exact h
    case rest =>
      obtain ⟨sa, rfl⟩ : ∃ s, s = u6 := ⟨_, rfl⟩
      obtain ⟨sb, rfl⟩ : ∃ s, s = u7 := ⟨_, rfl⟩
      obtain ⟨w0, rfl⟩ : ∃ W, W = wc := ⟨_, rfl⟩
      clear hoa hob hbw2 HR HS H5 H6 H7 HT hgb1 hgb2 hga1 hga2
      obtain ⟨A, B, oa, ob, hbw, ⟨q1, q2, q3, q4, q5⟩, qa, qb, HT⟩ := hcut
      obtain ⟨Ga, Ca, rfl, hCa, hGa1, hGa2⟩ := oa.form (by rw [iL_len]; omega)
      obtain ⟨Gb, Cb, rfl, hCb, hGb1, hGb2⟩ := ob.form (by rw [iL_len]; omega)
      have ra := row_of_own oa
      have rb := row_of_own ob
      rw [iL_len] at ra rb hCa hCb ⊢
      rw [iL_len]
      obtain ⟨L, hL⟩ : ∃ L, L = A.length := ⟨_, rfl⟩
      obtain ⟨C, hC⟩ : ∃ C, C = B.length := ⟨_, rfl⟩
      rw [← hL] at ra hCa q2 q3 q5 ⊢
      rw [← hC] at rb hCb q1 q2 q4 q5 ⊢
      have HL := Lib.hid hL
      have HC := Lib.hid hC
      have RA := Lib.hid ra
      have RB := Lib.hid rb
      have QA := Lib.hid qa
      have QB := Lib.hid qb
      have Q5 := Lib.hid q5
      have hsz := hbw.size
      clear oa ob hL hC ra rb qa qb q5
      go_wp2
      go_loop [9, 10] (fun sz sj => ∃ j : Nat, j ≤ C ∧ sj = .int .i64 j ∧ sz = .int .i64 ((25 ^ j : Nat) : Int)) (fun _ sj => C - (intOf sj).toNat)
      case atStart => exact ⟨0, Nat.zero_le _, rfl, rfl⟩
      case round =>
        obtain ⟨j, hj, rfl, rfl⟩ := hrel
        have hN3 : 25 ^ j ≤ 25 ^ 3 := Nat.pow_le_pow_right (by omega) (by omega)
        have hNs : 25 ^ (j + 1) = 25 ^ j * 25 := Nat.pow_succ _ _
        obtain ⟨N, hN⟩ : ∃ N, N = 25 ^ j := ⟨_, rfl⟩
        rw [← hN] at hN3 hNs ⊢
        have HNS := Lib.hid hNs
        have HN := Lib.hid hN
        clear hNs hN
        by_cases hlt : j < C
        · go_wp2
          go_round
          case rel => exact ⟨j + 1, by omega, by go_num, by rw [HNS.out]; push_cast; go_num⟩
          case measure => simp [intOf]; omega
        · have hjC : j = C := by omega
          have HN2 : Hid (N = 25 ^ C) := Lib.hid (by rw [← hjC]; exact HN.out)
          clear hjC HN HNS
          go_wp2_with (at_make; go_loud (refine elI_.make _ rfl _ _ rfl .i64 .i64 _ _ N rfl rfl rfl rfl (by omega) (by omega) ?_))
          intro w1 ho1 hb1 hz1
          have hR0 : RowI w1 w0.heap.size N N (tabI N (fun _ => 0)) := by
            rw [← tabI_zero]
            exact row_of_own (xs := List.replicate N 0) (by unfold Own; rw [List.length_replicate, List.map_replicate]; exact ho1)
          obtain ⟨g, hg⟩ : ∃ g, g = w0.heap.size := ⟨_, rfl⟩
          rw [← hg] at hR0 hGa2 hGb2 hb1 hsz ⊢
          have RA1 : RowI w1 Ga L Ca (iL A) := RA.out.below hb1 hGa2
          have RB1 : RowI w1 Gb C Cb (iL B) := RB.out.below hb1 hGb2
          have hbw1 : Below w.heap.size w w1 := below_to hbw (by rw [← hg]; exact hb1) (by omega)
          have hg1 : g < w1.heap.size := by omega
          have hcB : code B < N := by rw [HN2.out]; exact code_lt HC.out.symm QB.out
          have RW1 := Lib.hid hR0
          clear ho1 hz1 hb1 RA RB hbw hg hR0 hlt hj
          go_wp2_with fail
          refine (l06Key_any _ B (by have := HC.out; omega) QB.out w1 (own_of_row RB1 (Nat.zero_le _)).rd).mono ?_
          rintro e w' ⟨rfl, rfl⟩
          obtain ⟨n, hn⟩ : ∃ n, n = code B := ⟨_, rfl⟩
          rw [← hn] at hcB ⊢
          have HNB := Lib.hid hn
          have c1 := RW1.out.at (tabI_at _ hcB)
          have f1 := RW1.out.free n
          have hW2 := RW1.out.put n 1
          rw [hn, tabI_one, ← hn] at hW2
          have hA2 := RA1.other (p := ⟨g, n, none⟩) (by show g ≠ Ga; omega) (jV 1)
          have hB2 := RB1.other (p := ⟨g, n, none⟩) (by show g ≠ Gb; omega) (jV 1)
          have hbw2 : Below w.heap.size w (w1.setCell ⟨g, n, none⟩ (jV 1)) := below_set _ hbw1 hsz
          have HW2 := Lib.hid hW2
          have HA2 := Lib.hid hA2
          have HB2 := Lib.hid hB2
          clear RW1 RA1 RB1 hW2 hA2 hB2 hbw1 hn
          go_wp2
          generalize hw2 : w1.setCell ⟨g, n, none⟩ (jV 1) = w2 at *
          have hg2 : g < w2.heap.size := by rw [← hw2]; simpa using hg1
          clear hw2 c1 f1
          obtain ⟨S, hS⟩ : ∃ S, S = w2.heap.size := ⟨_, rfl⟩
          have HS := Lib.hid hS
          rw [← hS] at hg2
          clear hS
          go_loopw [11, 12, 13, 14] (fun sw si _ _ wr => ∃ (i gw : Nat), i ≤ L ∧ si = .int .i64 i ∧ sw = .slice (some ⟨gw, 0, none⟩) N N ∧ g ≤ gw ∧ gw < wr.heap.size ∧ RowI wr gw N N (tabI N (wAll C (A.take i) (wOne B))) ∧ RowI wr Ga L Ca (iL A) ∧ RowI wr Gb C Cb (iL B) ∧ Below w.heap.size w wr)
            (fun _ si _ _ _ => L - (intOf si).toNat)
          case atStart => exact ⟨0, g, Nat.zero_le _, rfl, rfl, Nat.le_refl _, by rw [← HS.out]; exact hg2, HW2.out, HA2.out, HB2.out, hbw2⟩
          case round =>
            clear HW2 HA2 HB2 hbw2
            obtain ⟨i, gw, hi, rfl, rfl, hgg, hgs, hW, hA, hB, hb⟩ := hrel
            by_cases hlt : i < L
            · obtain ⟨r, hr⟩ := get_of_lt (xs := A) (k := i) (by rw [← HL.out]; exact hlt)
              have hr25 := QA.out r (List.mem_of_getElem? hr)
              obtain ⟨W, hW0⟩ : ∃ W, W = wAll C (A.take i) (wOne B) := ⟨_, rfl⟩
              have hWb : ∀ n, n < N → W n ≤ 25 ^ 12 := fun n hn => by
                rw [hW0]
                have h1 := wAll_le (C := C) (A.take i) HC.out.symm QB.out (n := n) (by rw [← HN2.out]; exact hn)
                refine Nat.le_trans h1 (Nat.pow_le_pow_right (by omega) ?_)
                have h2 : C * (A.take i).length ≤ C * L := Nat.mul_le_mul_left _ (by rw [List.length_take]; omega)
                have := Q5.out
                omega
              have hWn : wAll C (A.take (i + 1)) (wOne B) = wNext C r W := by rw [take_snoc hr, wAll_snoc, ← hW0]
              rw [← hW0] at hW
              have ca := hA.at (iL_get hr)
              have HWB := Lib.hid hWb
              have HWN := Lib.hid hWn
              have HW := Lib.hid hW
              have HA := Lib.hid hA
              have HB := Lib.hid hB
              have HAR := Lib.hid hr
              have hwz : w.heap.size ≤ wr.heap.size := hb.size
              clear hWb hWn hW hA hB hW0 hr
              obtain ⟨wo, rfl⟩ : ∃ wo : World, wo = wr := ⟨_, rfl⟩
              go_wp2_with (at_make; go_loud (refine elI_.make _ rfl _ _ rfl .i64 .i64 _ _ N rfl rfl rfl rfl (by omega) (by omega) ?_))
              intro w3 ho3 hb3 hz3
              have hR3 : RowI w3 wo.heap.size N N (tabI N (fun n => sN (fun k => W k * wA [] (digs C k) r n) 0)) := by
                have e : (fun n => sN (fun k => W k * wA [] (digs C k) r n) 0) = fun _ => 0 := rfl
                rw [e, ← tabI_zero]
                exact row_of_own (xs := List.replicate N 0) (by unfold Own; rw [List.length_replicate, List.map_replicate]; exact ho3)
              obtain ⟨g3, hg3⟩ : ∃ g3, g3 = wo.heap.size := ⟨_, rfl⟩
              rw [← hg3] at hR3 hb3 hz3 hgs ⊢
              have HG3 := Lib.hid hg3
              have HR3 := Lib.hid hR3
              have hc3 : Below w.heap.size w w3 := below_to hb (by rw [← hg3]; exact hb3) hwz
              clear ho3 hR3 hg3
              go_wp2
              go_loopw [14] (fun sk wq => ∃ key : Nat, key ≤ N ∧ sk = .int .i64 key ∧ RowI wq g3 N N (tabI N (fun n => sN (fun k => W k * wA [] (digs C k) r n) key)) ∧ g3 < wq.heap.size ∧ Below g3 wo wq)
                (fun sk _ => N - (intOf sk).toNat)
              case atStart => exact ⟨0, Nat.zero_le _, rfl, HR3.out, by omega, hb3⟩
              case round =>
                clear HR3 hb3 hz3 hc3
                obtain ⟨key, hk, rfl, hX, hgq, hbq⟩ := hrel
                by_cases hlk : key < N
                · have hWq := HW.out.below hbq (by omega)
                  have hAq := HA.out.below hbq (by omega)
                  have hBq := HB.out.below hbq (by omega)
                  have cw := hWq.at (tabI_at W hlk)
                  have ca2 := hAq.at (iL_get HAR.out)
                  have hwb := HWB.out key hlk
                  have hwrap : wrap64 ((W key : Nat) : Int) = ((W key : Nat) : Int) := IntWalk.wrap64_in _ (by omega)
                  rw [hwrap] at cw
                  obtain ⟨m, hm⟩ : ∃ m, m = W key := ⟨_, rfl⟩
                  rw [← hm] at cw hwb
                  have hst : (fun n => sN (fun k => W k * wA [] (digs C k) r n) key + m * wA [] (digs C key) r n) = fun n => sN (fun k => W k * wA [] (digs C k) r n) (key + 1) := by
                    funext n
                    rw [hm]
                    rfl
                  have HST := Lib.hid hst
                  clear hst
                  clear hwrap hm hWq hAq hBq
                  by_cases hpos : 0 < m
                  · go_wp2_with fail
                    go_region_held3 (fun w' => w'.cell? ⟨Ga, i, none⟩ = some (jV (r : Int)) ∧ w'.cell? ⟨gw, key, none⟩ = some (jV (m : Int)))
                      (first
                        | go_keep
                        | (refine ⟨?_, ?_⟩ <;> (rw [Below.cell hc5 (by dsimp only; omega)]; assumption))
                        | (refine ⟨?_, ?_⟩ <;> (rw [Below.cell hc4 (by dsimp only; omega)]; assumption)))
                      (first
                        | (go_at_call 53; refine (l06Unkey_any key C (by omega) (by rw [← HN2.out]; exact hlk) _).mono ?_; rintro e w4 ⟨rfl, hU4, hb4⟩; have hc4 : Below g3 wr w4 := (Below.trans (Below.refl _ _).drew (hb4.mono (Nat.le_of_lt hgq))))
                        | (go_at_call 52; refine (split_all (key := key) q1 (by omega) HN2.out hwb (by omega) _ g3 wr.heap.size C g3 w4 (by omega) (by omega) (by omega) (hX.drew.below hb4 hgq) hU4).mono ?_; rintro e w5 ⟨rfl, hX5, hb5⟩; have hc5 : Below g3 wr w5 := hc4.trans hb5))
                    have HX5 : Hid (RowI w5 g3 N N (tabI N (fun n => sN (fun k => W k * wA [] (digs C k) r n) (key + 1)))) := Lib.hid (by rw [← HST.out]; exact hX5)
                    have hb6 : Below g3 wo w5 := hbq.trans hc5
                    have hs6 : g3 < w5.heap.size := Nat.lt_of_lt_of_le hgq hc5.size
                    clear hX5 hb5 hc5 hc4 hb4 hU4 hX
                    go_wp2_with fail
                    go_roundw
                    case rel => exact ⟨key + 1, by omega, by go_num, HX5.out, hs6, hb6⟩
                    case measure => simp [intOf]; omega
                  · have hm0 : m = 0 := by omega
                    have HX5 : Hid (RowI wr g3 N N (tabI N (fun n => sN (fun k => W k * wA [] (digs C k) r n) (key + 1)))) := Lib.hid (by
                      rw [← HST.out, hm0]
                      have : (fun n => sN (fun k => W k * wA [] (digs C k) r n) key + 0 * wA [] (digs C key) r n) = fun n => sN (fun k => W k * wA [] (digs C k) r n) key := by funext n; rw [Nat.zero_mul]; rfl
                      rw [this]
                      exact hX)
                    clear hX hm0
                    go_wp2
                    go_roundw
                    case rel => exact ⟨key + 1, by omega, by go_num, HX5.out, hgq, hbq⟩
                    case measure => simp [intOf]; omega
                · have hkN : key = N := by omega
                  have HX5 : Hid (RowI wr g3 N N (tabI N (wAll C (A.take (i + 1)) (wOne B)))) := Lib.hid (by
                    rw [HWN.out]
                    have : (fun n => sN (fun k => W k * wA [] (digs C k) r n) key) = wNext C r W := by funext n; unfold wNext; rw [hkN, HN2.out]
                    rw [← this]
                    exact hX)
                  have hA5 := Lib.hid (HA.out.below hbq (by omega))
                  have hB5 := Lib.hid (HB.out.below hbq (by omega))
                  have hb5 : Below w.heap.size w wr := below_to hb (by rw [← HG3.out]; exact hbq) hwz
                  clear hX hkN
                  go_wp2
                  go_roundw
                  case rel => exact ⟨i + 1, g3, by omega, by go_num, rfl, by omega, hgq, HX5.out, hA5.out, hB5.out, hb5⟩
                  case measure => simp [intOf]; omega
            · have hie : i = L := by omega
              have hN0 : 0 < N := by rw [HN2.out]; exact Nat.pow_pos (by omega)
              have hv : wrap64 ((wAll C (A.take i) (wOne B) 0 : Nat) : Int) = tabP xs ys := by
                rw [HT.out, hie, HL.out, List.take_length, wAll_zero A HC.out.symm QB.out]
              have c0 := hW.at (tabI_at _ hN0)
              rw [hv] at c0
              clear hW hv hie
              go_wp2
              go_ret2
              exact ⟨rfl, hb⟩
end Go.Proofs.Ytmhmekfbnaafmaa
