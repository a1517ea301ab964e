/-
  Tables with sums told: the walk of impl.TablesWith.
-/
import Derived.Test.YtmhmekfbnaafmaaTblL
namespace Go.Proofs.Ytmhmekfbnaafmaa
open Go.RowKit Go.Maps

theorem run_slice4 {h : Nat} (hh : h ≤ 4) (g : Nat) (W : World) : (Instr.sliceAt 63 (.pointer (some ⟨g, 0, none⟩)) none (some (.int .i64 (h : Int))) none).run Try.prog W = .ok (.slice (some ⟨g, 0, none⟩) h 4) W := by
  have ht : Try.prog.underlying 63 = some (.array (Try.prog.arrayLen 63) (Try.prog.elem 63)) := by kernel_rfl
  have hlen : Try.prog.arrayLen 63 = 4 := by kernel_rfl
  have hsz : (sizeOf (Try.prog.elem 63)).run Try.prog W = .ok 1 W := by kernel_rfl
  rw [run_sliceAt_array_h W 63 ⟨g, 0, none⟩ ht .i64 (h : Int) (by omega) (by rw [hlen]; omega), hsz, hlen]
  show Result.ok (slicedAt ⟨g, 0, none⟩ 0 h 4 1) W = _
  simp [slicedAt, Addr.add]

set_option maxRecDepth 100000 in
set_option maxHeartbeats 1600000 in
theorem implTab_any (u v : Value) (xs ys : List Int) (hx : xs.length ≤ 1099511627776) (hy : ys.length ≤ 1099511627776) (w : World) (hr : Rd iV w u xs) (hs : Rd iV w v ys) :
    Calls Try.prog 25 #[u, v] w (RetTab xs ys w) := by
  have HR := Lib.hid hr
  have HS := Lib.hid hs
  obtain ⟨A1, c1, rfl, hc1, hA1⟩ := hr
  obtain ⟨A2, c2, rfl, hc2, hA2⟩ := hs
  have HA1 := Lib.hid hA1
  have HA2 := Lib.hid hA2
  clear hA1 hA2
  unfold RetTab
  cases e1 : aS xs
  · have hb : Hid (smallB xs ys = false) := Lib.hid (by rw [small_as, e1]; rfl)
    have HT : Hid (tabP xs ys = 0) := Lib.hid (by unfold tabP; rw [hb.out]; rfl)
    go_enter Try.func25, Try.ntmps25
    go_wp2_with (go_at_call 54; refine (areSums_any _ xs hx _ HR.out).mono ?_; rintro e w1 ⟨rfl, hb1⟩; rw [e1])
    go_ret2
    exact ⟨by rw [HT.out, hb.out]; rfl, hb1⟩
  cases e2 : aS ys
  · have hb : Hid (smallB xs ys = false) := Lib.hid (by rw [small_as, e1, e2]; rfl)
    have HT : Hid (tabP xs ys = 0) := Lib.hid (by unfold tabP; rw [hb.out]; rfl)
    have HE1 := Lib.hid e1
    have HE2 := Lib.hid e2
    clear e1 e2
    go_enter Try.func25, Try.ntmps25
    go_wp2_with fail
    refine (areSums_any (.slice A1 xs.length c1) xs hx _ HR.out).mono ?_
    rintro e w1 ⟨rfl, hb1⟩
    rw [HE1.out]
    go_wp2_with fail
    refine (areSums_any (.slice A2 ys.length c2) ys hy _ (HS.out.below hb1)).mono ?_
    rintro e w2 ⟨rfl, hb2⟩
    rw [HE2.out]
    go_wp2_with fail
    go_ret2
    exact ⟨by rw [HT.out, hb.out]; rfl, below_to hb1 hb2 hb1.size⟩
  have hp1 : (1 ≤ xs.length ∧ xs.length ≤ 4) ∧ sml xs = true := by unfold aS at e1; rw [Bool.and_eq_true] at e1; exact ⟨of_decide_eq_true e1.1, e1.2⟩
  have hp2 : (1 ≤ ys.length ∧ ys.length ≤ 4) ∧ sml ys = true := by unfold aS at e2; rw [Bool.and_eq_true] at e2; exact ⟨of_decide_eq_true e2.1, e2.2⟩
  obtain ⟨⟨h1, h2⟩, h3⟩ := hp1
  obtain ⟨⟨h4, h5⟩, h6⟩ := hp2
  obtain ⟨P, hP⟩ : ∃ P, P = xs.length * ys.length := ⟨_, rfl⟩
  have hP16 : P ≤ 16 := by rw [hP]; exact Nat.mul_le_mul h2 h5
  have hw : IntKind.i64.wrap ((xs.length : Int) * (ys.length : Int)) = (P : Int) := by rw [← Int.natCast_mul, ← hP]; exact IntWalk.i64_in _ (by omega)
  have HP := Lib.hid hP
  have H3 := Lib.hid h3
  have H6 := Lib.hid h6
  clear hP h3 h6
  by_cases hP12 : P ≤ 12
  case neg =>
    have hb : Hid (smallB xs ys = false) := Lib.hid (by rw [small_as, e1, e2, decide_eq_false (by rw [← HP.out]; exact hP12)]; rfl)
    have HT : Hid (tabP xs ys = 0) := Lib.hid (by unfold tabP; rw [hb.out]; rfl)
    have HE1 := Lib.hid e1
    have HE2 := Lib.hid e2
    clear e1 e2
    go_enter Try.func25, Try.ntmps25
    go_wp2_with fail
    refine (areSums_any (.slice A1 xs.length c1) xs hx _ HR.out).mono ?_
    rintro e w1 ⟨rfl, hb1⟩
    rw [HE1.out]
    go_wp2_with fail
    refine (areSums_any (.slice A2 ys.length c2) ys hy _ (HS.out.below hb1)).mono ?_
    rintro e w2 ⟨rfl, hb2⟩
    rw [HE2.out]
    go_wp2_with fail
    go_ret2
    exact ⟨by rw [HT.out, hb.out]; rfl, below_to hb1 hb2 hb1.size⟩
  have HSB : Hid (smallB xs ys = true) := Lib.hid (by rw [small_as, e1, e2, decide_eq_true (by rw [← HP.out]; exact hP12)]; rfl)
  have HT : Hid (tabP xs ys = wrap64 ((wT (nats xs) (nats ys) : Nat) : Int)) := Lib.hid (by unfold tabP; rw [if_pos HSB.out])
  have HE1 := Lib.hid e1
  have HE2 := Lib.hid e2
  clear e1 e2
  go_enter Try.func25, Try.ntmps25
  go_wp2_with fail
  refine (areSums_any (.slice A1 xs.length c1) xs hx _ HR.out).mono ?_
  rintro e w1 ⟨rfl, hb1⟩
  rw [HE1.out]
  go_wp2_with fail
  refine (areSums_any (.slice A2 ys.length c2) ys hy _ (HS.out.below hb1)).mono ?_
  rintro e w2 ⟨rfl, hb2⟩
  rw [HE2.out]
  obtain ⟨y0, hy0⟩ := get_of_lt h4
  obtain ⟨ad2, rfl, -, -⟩ := HA2.out 0 y0 hy0
  clear hy0
  have hg0 : (w2.alloc (.cells #[.int .i64 0, .int .i64 0, .int .i64 0, .int .i64 0] 63)).heap[w2.heap.size]? = some (.cells [iV 0, iV 0, iV 0, iV 0].toArray 63 (0, 0)) := by rw [heap_alloc_new]
  have hb3 : Below w.heap.size w w2 := below_to hb1 hb2 hb1.size
  have hb4 : Below w.heap.size w (w2.alloc (.cells #[.int .i64 0, .int .i64 0, .int .i64 0, .int .i64 0] 63)) := hb3.alloc hb3.size _
  have hsrc : ∀ j u, (ys.map iV)[j]? = some u → (w2.alloc (.cells #[.int .i64 0, .int .i64 0, .int .i64 0, .int .i64 0] 63)).cell? (ad2.add j) = some u := fun j u hu => by
    rw [List.getElem?_map] at hu
    cases hj : ys[j]? with
    | none => rw [hj] at hu; simp at hu
    | some y =>
      rw [hj] at hu
      simp at hu
      subst hu
      obtain ⟨ad, e, hbl, hc⟩ := HA2.out j y hj
      cases e
      rw [hb4.cell (by rw [add_block]; exact hbl)]; exact hc
  have HSRC := Lib.hid hsrc
  have hone : Hid (∀ u ∈ ys.map iV, u.oneCell' = true) := Lib.hid (by intro u hu; obtain ⟨y, _, rfl⟩ := List.mem_map.1 hu; rfl)
  clear hsrc
  go_wp2_with (refine wpList_copy_splice rfl (.tmp 30) (.tmp 31) 22 22 rfl 2 Try.underlying22 (by kernel_rfl) _ _ _ _ _ _ rfl rfl w2.heap.size 0 [iV 0, iV 0, iV 0, iV 0] 63 hg0 (ys.map iV) (by simp [Nat.min_def]; omega) (fun _ => ⟨rfl, ad2, rfl, HSRC.out⟩) (by simp; omega) hone.out w.heap.size w hb4 hb3.size ?_)
  intro w3 hg3 hb5
  obtain ⟨C, hC⟩ : ∃ C, C = ys.length := ⟨_, rfl⟩
  have hC4 : C ≤ 4 := by omega
  have hC1 : 1 ≤ C := by omega
  have hB0 : BoxAt w3 w2.heap.size (nVs (padZ C (nats ys))) := by
    have := hg3.out
    rw [start_is H6.out hC.symm hC4] at this
    exact boxAt_of_heap this
  obtain ⟨b, hbn⟩ : ∃ b, b = nats ys := ⟨_, rfl⟩
  have hbl : b.length = C := by rw [hbn, nats_len, hC]
  have hbx : ∀ x ∈ b, x < 25 := by rw [hbn]; exact nats_lt H6.out
  rw [← hbn] at hB0 HT
  rw [← hC] at hw HP hc2 ⊢
  obtain ⟨a, han⟩ : ∃ a, a = nats xs := ⟨_, rfl⟩
  rw [← han] at HT
  have hal : a.length = xs.length := by rw [han, nats_len]
  have HAX : Hid (∀ x ∈ a, x < 25) := Lib.hid (by rw [han]; exact nats_lt H3.out)
  have HXA : Hid (xs = iL a) := Lib.hid (by rw [han, iL_nats H3.out])
  have HCC := Lib.hid hC
  have hCP : Hid (C * xs.length ≤ 12) := Lib.hid (by rw [Nat.mul_comm, ← HP.out]; exact hP12)
  obtain ⟨b0, hb0⟩ : ∃ b0, b0 = w2.heap.size := ⟨_, rfl⟩
  rw [← hb0] at hB0 ⊢
  obtain ⟨l0, l1, l2, l3, hLe⟩ := four_of (padZ_len hC4 hbl)
  have c0 := hB0.cell 0 (iV l0) (by rw [hLe]; rfl)
  have k1 := hB0.cell 1 (iV l1) (by rw [hLe]; rfl)
  have k2 := hB0.cell 2 (iV l2) (by rw [hLe]; rfl)
  have k3 := hB0.cell 3 (iV l3) (by rw [hLe]; rfl)
  have hb0l := hB0.lt
  have hagg : aV (padZ C b) = .agg #[iV (l0 : Int), iV (l1 : Int), iV (l2 : Int), iV (l3 : Int)] := by rw [hLe]; rfl
  have hmk := World.ownsMap_made (H := Unit) w3 Try.prog 63 (plainElem Try.prog 2)
  obtain ⟨w4, hrun4, ho4, hg4⟩ := hmk.update lawA Try.underlying64 (by unfold maxLen; omega) (keyOf4 (padZ_len hC4 hbl) (padZ_lt hbx)) (plainElem_int Try.underlying2 (wf_of_inI (show inI 1 by unfold inI; omega)))
  rw [hagg] at hrun4
  have HB0 := Lib.hid hbx
  have HHC := Lib.hid han
  have hb6 : Below w.heap.size w w4 := (hb5.alloc hb5.size _).grown hg4 (by simp; have := hb5.size; omega) (fun k hk => by cases hk; exact hb5.size)
  have ho5 : ownsA w4 w3.heap.size 1 ((DataW.map [] : DataW Unit).put (K4 (padZ C b)) (.lit (.int .i64 1))) := ho4
  have HOM := Lib.hid ho5
  have hbs3 : w.heap.size ≤ w3.heap.size := hb5.size
  clear hmk ho4 hg4 hg3 hB0 hone HSRC hg0 hb1 hb2 hb4 hC hbn han hb0 hagg hbx ho5 hb5 HA2 HS HE1 HE2 H3 H6 HR
  have hmm := @run_makeMap Try.prog
  go_wp2_with fail
  clear c0 k1 k2 k3 hrun4 hmm hb0l hLe
  go_loopw [7, 38] (fun sl si wr => ∃ (i bl n : Nat) (D : DataW Unit), i ≤ xs.length ∧ si = .int .i64 i ∧ sl = .map (some bl) ∧ w.heap.size ≤ bl ∧ ownsA wr bl n D ∧ n ≤ 25 ^ (C * i) ∧ MapT C D (wAll C (a.take i) (wOne b)) ∧ KeysT C D ∧ Below w.heap.size w wr)
    (fun _ si _ => xs.length - (intOf si).toNat)
  case atStart => exact ⟨0, w3.heap.size, 1, _, Nat.zero_le _, rfl, rfl, hbs3, HOM.out, by simp, one_isT hC4 hbl HB0.out, one_keysT hbl HB0.out _, hb6⟩
  case round =>
    clear HOM hb6
    obtain ⟨i, bm, n, D, hi, rfl, rfl, hbm, hO, hn, hD, hK, hb⟩ := hrel
    by_cases hlt : i < xs.length
    · obtain ⟨r, hr⟩ := get_of_lt (xs := a) (k := i) (by omega)
      have hr25 := HAX.out r (List.mem_of_getElem? hr)
      have hxr : xs[i]? = some (r : Int) := by rw [HXA.out]; exact iL_get hr
      obtain ⟨ad, rfl, hbl1, hc⟩ := HA1.out i _ hxr
      have hcr : wr.cell? (ad.add i) = some (iV (r : Int)) := by rw [hb.cell (by rw [add_block]; exact hbl1)]; exact hc
      obtain ⟨W, hW⟩ : ∃ W, W = wAll C (a.take i) (wOne b) := ⟨_, rfl⟩
      have h12 : C * i + C ≤ 12 := by
        have h1 : C * (i + 1) ≤ C * xs.length := Nat.mul_le_mul_left _ hlt
        have h2 := hCP.out
        rw [Nat.mul_add, Nat.mul_one] at h1
        omega
      have hWb : ∀ k, k < 25 ^ C → W k ≤ 25 ^ 12 := fun k hk => by
        rw [hW]
        refine Nat.le_trans (wAll_le (C := C) (a.take i) hbl HB0.out hk) (Nat.pow_le_pow_right (by omega) ?_)
        have : C * (a.take i).length ≤ C * i := Nat.mul_le_mul_left _ (by rw [List.length_take]; omega)
        omega
      have hWn : wAll C (a.take (i + 1)) (wOne b) = wNext C r W := by rw [take_snoc hr, wAll_snoc, ← hW]
      rw [← hW] at hD
      have hn1 : n * 25 ^ C ≤ 25 ^ (C * (i + 1)) := by
        rw [Nat.mul_add, Nat.mul_one, Nat.pow_add]
        exact Nat.mul_le_mul_right _ hn
      have hn2 : 25 ^ (C * (i + 1)) ≤ 25 ^ 12 := Nat.pow_le_pow_right (by omega) (by rw [Nat.mul_add, Nat.mul_one]; exact h12)
      have HWB := Lib.hid hWb
      have HWN := Lib.hid hWn
      have HD := Lib.hid hD
      have HK := Lib.hid hK
      have HO := Lib.hid hO
      have HN1 := Lib.hid hn1
      have HN2 := Lib.hid hn2
      have hzl := hO.lt
      obtain ⟨wo, rfl⟩ : ∃ wo : World, wo = wr := ⟨_, rfl⟩
      obtain ⟨S, hS⟩ : ∃ S, S = wo.heap.size := ⟨_, rfl⟩
      have hOa : ownsA ((wo.alloc (.map #[] 0)).alloc (.cells #[.map (some wo.heap.size)] 64)) bm n D := (hO.alloc _).alloc _
      clear hWb hWn hD hK hO hW hr hxr hc hn1 hn2
      have hmm := @run_makeMap Try.prog
      go_wp2_with (first
        | (at_range; refine wpList_range_own _ rfl _ 64 rfl 63 2 lawA Try.underlying64 _ bm n _ rfl hOa ?_; intro w6 hrg0 hg6 hs6)
        | go_in)
      have hs2 : ((wo.alloc (.map #[] 0)).alloc (.cells #[.map (some wo.heap.size)] 64)).heap.size = S + 2 := by rw [hS]; simp
      rw [hs2] at hrg0 hs6
      have hOn : ownsA w6 S 0 (DataW.map [] : DataW Unit) := by rw [hS]; exact ((World.ownsMap_made wo _ _ _).alloc _).kept hg6 (by simp)
      have hBn : BoxAt w6 (S + 1) [.map (some S)] := by
        have := (BoxAt.new (wo.alloc (.map #[] 0)) [.map (some wo.heap.size)] 64).grown hg6 (by simp)
        rw [size_alloc, ← hS] at this
        exact this
      have hbS : Below S wo w6 := by rw [hS]; exact (((Below.refl _ _).alloc (Nat.le_refl _) _).alloc (by simp) _).grown hg6 (by simp; omega) (fun k hk => by cases hk)
      have hs6' : S + 3 ≤ w6.heap.size := by omega
      have hm0 : MapT C (DataW.map [] : DataW Unit) (fun j => sN (fun k => dnK C (has D) W k * wA [] (digs C k) r j) (25 ^ C)) := by
        have e : (fun j => sN (fun k => dnK C (has D) W k * wA [] (digs C k) r j) (25 ^ C)) = fun _ => 0 := by
          funext j
          exact sN_zero (fun k hk => by rw [dnK_start HD.out hk (HWB.out k hk), Nat.zero_mul])
        rw [e]; exact none_isT C
      have HM0 := Lib.hid hm0
      have HSS := Lib.hid hS
      have hbmS : bm < S := by omega
      have hwS : w.heap.size ≤ S := by omega
      try go_frame
      simp only [hs2]
      simp only [← hS]
      clear hm0 hOa hg6 hmm hs2 hs6 hS hzl
      try go_frame
      go_loopw [45] (fun _ wq => ∃ (left : Lit → Bool) (cnt nn : Nat) (Dn : DataW Unit), wq.ranges Try.prog 63 (plainElem Try.prog 2) bm (S + 2) n D left cnt ∧ cnt ≤ size D ∧ ownsA wq S nn Dn ∧ nn ≤ (size D - cnt) * 25 ^ C ∧
          MapT C Dn (fun j => sN (fun k => dnK C left W k * wA [] (digs C k) r j) (25 ^ C)) ∧ KeysT C Dn ∧ BoxAt wq (S + 1) [.map (some S)] ∧ Below S wo wq ∧ S + 3 ≤ wq.heap.size)
        (fun _ wq => wq.rangeLeft bm (S + 2))
      case atStart => exact ⟨_, _, 0, _, hrg0, Nat.le_refl _, hOn, Nat.zero_le _, HM0.out, none_keysT C, hBn, hbS, hs6'⟩
      case round =>
        clear hrg0 hOn HM0 hBn hbS hs6'
        obtain ⟨left, cnt, nn, Dn, hrg, hcs, hOn, hnn, hDn, hKn, hBn, hbS, hs6⟩ := hrel
        have hsD := HO.out.size_le
        have HDN := Lib.hid hDn
        have HKN := Lib.hid hKn
        have HON := Lib.hid hOn
        have HBN := Lib.hid hBn
        have c1 := hBn.cell 0 _ rfl
        clear hDn hKn hOn hBn
        go_wp2_with (first
          | (at_next; go_loud (refine wpList_next_ranges _ rfl _ rfl 63 lawA (plainElem Try.prog 2) (fun x : Value => x) (fun c : Int => Value.int .i64 c) (fun key kl _ => ⟨key, rfl⟩) (fun v y hv => by obtain ⟨c, rfl, _⟩ := plainElem_int_inv Try.underlying2 hv; exact ⟨c, rfl⟩) bm (S + 2) n _ _ _ rfl hrg ?_ ?_))
          | go_in)
        · intro hc0 hl0
          have hD2 : MapT C Dn (wAll C (a.take (i + 1)) (wOne b)) := by
            rw [HWN.out]
            have e : (fun j => sN (fun k => dnK C left W k * wA [] (digs C k) r j) (25 ^ C)) = wNext C r W := by
              funext j
              exact sN_congr (fun k _ => by rw [dnK_end hl0])
            rw [← e]; exact HDN.out
          have hnb : nn ≤ 25 ^ (C * (i + 1)) := Nat.le_trans (Nat.le_trans hnn (Nat.mul_le_mul_right _ (by omega))) HN1.out
          have hbw : Below w.heap.size w wr := hb.trans (hbS.mono hwS)
          have HFIN := Lib.hid (And.intro HON.out (And.intro hnb (And.intro hD2 (And.intro HKN.out hbw))))
          clear hD2 hnb hbw hrg hbS HDN HKN HON HBN hnn
          go_wp2_with fail
          go_roundw
          case rel => exact ⟨i + 1, S, nn, Dn, by omega, by go_num, rfl, hwS, HFIN.out⟩
          case measure => simp [intOf]; omega
        · intro x c kl yd yp w7 cnt1 hkey hlk hRv hat hrg1 hlt1 hg7 hs7 hen
          obtain ⟨u, hu, hux, rfl⟩ := HK.out kl (has_true_of_atKey hat)
          have hxe := lawA.inj hkey (keyOf4 (padZ_len hC4 hu) (padZ_lt hux))
          obtain ⟨m0, m1, m2, m3, hme⟩ := four_of (padZ_len hC4 hu)
          have hag : aV (padZ C u) = .agg #[iV (m0 : Int), iV (m1 : Int), iV (m2 : Int), iV (m3 : Int)] := by rw [hme]; rfl
          rw [hag] at hxe
          subst hxe
          have hcw : c = wrap64 ((W (code u) : Nat) : Int) := by
            obtain ⟨c', e1, e2, _⟩ := plainElem_int_inv Try.underlying2 hRv
            cases e1
            have e3 := hat (.lit (.int .i64 0))
            injection e2 with e2
            rw [HD.out u hu hux, e2] at e3
            injection e3 with e3
            injection e3 with _ e3
            exact e3.symm
          subst hcw
          have hlen : Try.prog.arrayLen 63 = 4 := by kernel_rfl
          have hCl : (C : Int) ≤ Try.prog.arrayLen 63 := by rw [hlen]; omega
          have hsl := fun (g : Nat) (W : World) => run_slice4 (h := C) hC4 g W
          go_wp2_with fail
          have hz7 : (w7.alloc (.cells #[.int .i64 (m0 : Int), .int .i64 (m1 : Int), .int .i64 (m2 : Int), .int .i64 (m3 : Int)] 63)).heap.size = wr.heap.size + 1 := by rw [size_alloc, hs7]
          have hX1 : BoxAt ((w7.alloc (.cells #[.int .i64 (m0 : Int), .int .i64 (m1 : Int), .int .i64 (m2 : Int), .int .i64 (m3 : Int)] 63)).alloc (.cells #[.int .i64 (wrap64 ((W (code u) : Nat) : Int))] 2)) wr.heap.size (nVs (padZ C u)) := by
            rw [hme, ← hs7]
            exact (BoxAt.new w7 [iV (m0 : Int), iV (m1 : Int), iV (m2 : Int), iV (m3 : Int)] _).alloc _
          have hX2 : BoxAt ((w7.alloc (.cells #[.int .i64 (m0 : Int), .int .i64 (m1 : Int), .int .i64 (m2 : Int), .int .i64 (m3 : Int)] 63)).alloc (.cells #[.int .i64 (wrap64 ((W (code u) : Nat) : Int))] 2)) (wr.heap.size + 1) [iV (wrap64 ((W (code u) : Nat) : Int))] := by
            rw [← hz7]
            exact BoxAt.new _ _ _
          have hg9 : w7.grownBy ((w7.alloc (.cells #[.int .i64 (m0 : Int), .int .i64 (m1 : Int), .int .i64 (m2 : Int), .int .i64 (m3 : Int)] 63)).alloc (.cells #[.int .i64 (wrap64 ((W (code u) : Nat) : Int))] 2)) none :=
            grown_trans1 (World.grownBy_alloc _ _ _) (World.grownBy_alloc _ _ _)
          have hB9 := (HBN.out.grown hg7 (fun e => by have := Option.some.inj e; omega)).grown hg9 (by simp)
          have hO9 := (HON.out.kept hg7 (fun e => by have := Option.some.inj e; omega)).kept hg9 (by simp)
          have hR9 := hrg1.kept hg9 (by simp) (by simp)
          have hb9 : Below S wo ((w7.alloc (.cells #[.int .i64 (m0 : Int), .int .i64 (m1 : Int), .int .i64 (m2 : Int), .int .i64 (m3 : Int)] 63)).alloc (.cells #[.int .i64 (wrap64 ((W (code u) : Nat) : Int))] 2)) :=
            (hbS.grown hg7 (by omega) (fun k hk => by cases hk; omega)).grown hg9 (by omega) (fun k hk => by cases hk)
          have hz9 : S + 5 ≤ ((w7.alloc (.cells #[.int .i64 (m0 : Int), .int .i64 (m1 : Int), .int .i64 (m2 : Int), .int .i64 (m3 : Int)] 63)).alloc (.cells #[.int .i64 (wrap64 ((W (code u) : Nat) : Int))] 2)).heap.size := by rw [size_alloc, hz7]; omega
          have hcl : code u < 25 ^ C := code_lt hu hux
          have hw1 : wS u r (fun _ => 1) ≤ 25 ^ C := by have := wS_one_le (ls := u) (s := r) hux; rwa [hu] at this
          have hnn2 : nn + wS u r (fun _ => 1) ≤ (size D - cnt1) * 25 ^ C := by
            have h1 : (size D - cnt) * 25 ^ C + 25 ^ C ≤ (size D - cnt1) * 25 ^ C := by
              rw [← Nat.succ_mul]
              exact Nat.mul_le_mul_right _ (by omega)
            omega
          have hnn3 : (size D - cnt1) * 25 ^ C ≤ 25 ^ 12 := Nat.le_trans (Nat.mul_le_mul_right _ (by omega)) (Nat.le_trans HN1.out HN2.out)
          have HW7 := Lib.hid (And.intro hO9 (And.intro hR9 hb9))
          clear hO9 hR9 hb9 hrg1 hg7
          generalize (w7.alloc (.cells #[.int .i64 (m0 : Int), .int .i64 (m1 : Int), .int .i64 (m2 : Int), .int .i64 (m3 : Int)] 63)).alloc (.cells #[.int .i64 (wrap64 ((W (code u) : Nat) : Int))] 2) = w9 at *
          refine (eachRow_any C hC4 r (by omega) u hu hux wr.heap.size (S + 1) (wr.heap.size + 1) S nn (W (code u)) Dn _ (by unfold maxLen; omega) w9 hX1 hB9 hX2 ⟨by omega, by omega, by omega⟩ HW7.out.1 HDN.out HKN.out).mono ?_
          rintro e w10 ⟨rfl, D10, hO10, hD10, hK10, hg10⟩
          have hD11 : MapT C D10 (fun j => sN (fun k => dnK C (fun z => left z && !z.sameKey (K4 (padZ C u))) W k * wA [] (digs C k) r j) (25 ^ C)) := by
            have e : (fun j => sN (fun k => dnK C left W k * wA [] (digs C k) r j) (25 ^ C) + W (code u) * wA [] u r j) = fun j => sN (fun k => dnK C (fun z => left z && !z.sameKey (K4 (padZ C u))) W k * wA [] (digs C k) r j) (25 ^ C) := by
              funext j
              exact sum_step hC4 hu hux hlk j
            rw [e] at hD10
            exact hD10
          have hR11 := HW7.out.2.1.kept hg10 (fun e => by have := Option.some.inj e; omega) (fun e => by have := Option.some.inj e; omega)
          have hB11 := hB9.grown hg10 (fun e => by have := Option.some.inj e; omega)
          have hb11 : Below S wo w10 := HW7.out.2.2.grown hg10 (by omega) (fun k hk => by cases hk; exact Nat.le_refl _)
          have HFIN := Lib.hid (And.intro hR11 (And.intro (show cnt1 ≤ size D by omega) (And.intro hO10 (And.intro hnn2 (And.intro hD11 (And.intro hK10 (And.intro hB11 (And.intro hb11 (Nat.le_trans (Nat.le_trans (Nat.le_add_right (S + 3) 2) hz9) hg10.size)))))))))
          have hle2 := hR11.left_eq
          have hle1 := hrg.left_eq
          have HLE := Lib.hid (show w10.rangeLeft bm (S + 2) < wr.rangeLeft bm (S + 2) by rw [hle2, hle1]; exact hlt1)
          clear hR11 hO10 hD10 hD11 hK10 hB11 hb11 hnn2 hle1 hle2 hX1 hX2 hB9 hg9 hz9 hz7 hcl hw1 hnn3 HW7 hrg hsl hbS
          go_wp2_with fail
          go_roundw
          case rel => exact ⟨_, cnt1, _, D10, HFIN.out⟩
          case measure => exact HLE.out
    · have hie : i = xs.length := by omega
      have hv : wrap64 ((wAll C (a.take i) (wOne b) 0 : Nat) : Int) = tabP xs ys := by
        rw [HT.out, hie, ← hal, List.take_length, wAll_zero a hbl HB0.out]
      have hat := hD (List.replicate C 0) (by simp) (fun x hx => by rw [List.eq_of_mem_replicate hx]; omega)
      have hc0 : code (List.replicate C 0) = 0 := by
        have : C = 1 ∨ C = 2 ∨ C = 3 ∨ C = 4 := by omega
        rcases this with h | h | h | h <;> (rw [h]; rfl)
      have hpz : padZ C (List.replicate C 0) = [0, 0, 0, 0] := by
        have : C = 1 ∨ C = 2 ∨ C = 3 ∨ C = 4 := by omega
        rcases this with h | h | h | h <;> (rw [h]; rfl)
      rw [hc0, hpz, hv] at hat
      obtain ⟨c', hlk, hat', _⟩ := hO.lookup_int lawA Try.underlying64 Try.underlying2 (zeroA wr) (keyOf4 (l := [0, 0, 0, 0]) rfl (by decide))
      rw [hat] at hat'
      injection hat' with hat'
      injection hat' with _ hat'
      subst hat'
      have hlk2 : (Instr.lookup 64 (.map (some bm)) (.agg #[.int .i64 0, .int .i64 0, .int .i64 0, .int .i64 0]) false).run Try.prog wr = .ok (.int .i64 (tabP xs ys)) wr := hlk
      have HBW := Lib.hid hb
      clear hat hlk hO hD hK hv hie
      go_wp2
      go_ret2
      exact ⟨by rw [HSB.out]; rfl, HBW.out⟩
end Go.Proofs.Ytmhmekfbnaafmaa
