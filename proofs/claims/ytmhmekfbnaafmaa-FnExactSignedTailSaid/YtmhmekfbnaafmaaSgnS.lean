/-
  The walk of spec.SignedTail.
-/
import Derived.Test.YtmhmekfbnaafmaaSgnQ
import Derived.Test.YtmhmekfbnaafmaaBools
import Derived.Test.YtmhmekfbnaafmaaFq
import Derived.Deep.RegionHeld3
namespace Go.Proofs.Ytmhmekfbnaafmaa
open Go.RowKit Go.Maps

set_option maxRecDepth 100000 in
set_option maxHeartbeats 2000000 in
theorem specSigned_any (v : Value) (xs : List Int) (hn : xs.length ≤ 1099511627776) (w : World) (hr : Rd iV w v xs) :
    Calls Try.prog 22 #[v] w (RetSgn xs w) := by
  have HR := Lib.hid hr
  obtain ⟨A, cap, rfl, hcap, hA⟩ := hr
  have HA := Lib.hid hA
  clear hA
  cases hs : smpB xs
  · go_enter Try.func22, Try.ntmps22
    go_wp2_with (go_at_call 42; go_loud (refine (l06Sample_any _ xs hn w HR.out).mono ?_); rintro e w' ⟨rfl, rfl⟩; rw [hs])
    go_ret3
    have e : sgnB xs = false := by unfold sgnB; rw [hs]; rfl
    exact ⟨by unfold sgnP sgnA; rw [e]; rfl, Below.refl _ _⟩
  have hl1 : 1 ≤ xs.length := by
    simp only [smpB, Bool.and_eq_true, decide_eq_true_eq] at hs; omega
  have hl2 : xs.length ≤ 40 := by
    simp only [smpB, Bool.and_eq_true, decide_eq_true_eq] at hs; omega
  have hin : ∀ x ∈ xs, -1000 ≤ x ∧ x ≤ 1000 := by
    simp only [smpB, Bool.and_eq_true, decide_eq_true_eq, List.all_eq_true] at hs
    intro x hx
    have := hs.2 x hx
    simpa [inB] using this
  have HIN := Lib.hid hin
  have HSM := Lib.hid hs
  clear hin
  go_enter Try.func22, Try.ntmps22
  go_wp2_with (go_at_call 42; go_loud (refine (l06Sample_any _ xs hn w HR.out).mono ?_); rintro e w' ⟨rfl, rfl⟩; rw [hs])
  have o00 := (own_nil_new iV w 2).alloc (.cells #[] 4)
  have o01 : Own bV 4 ((w.alloc (.cells #[] 2)).alloc (.cells #[] 4)) w.heap.size (.slice (some ⟨w.heap.size + 1, 0, none⟩) 0 0) [] := by
    have h := own_base (own_nil_new bV (w.alloc (.cells #[] 2)) 4) (base' := w.heap.size) (by simp)
    have e : (w.alloc (.cells #[] 2)).heap.size = w.heap.size + 1 := by simp
    rw [e] at h
    exact h
  have b00 : Below w.heap.size w ((w.alloc (.cells #[] 2)).alloc (.cells #[] 4)) := ((Below.refl _ _).alloc (Nat.le_refl _) _).alloc (by simp) _
  go_wp2_with fail
  go_loopw [5, 6, 7] (fun so mo si wr => ∃ i : Nat, i ≤ xs.length ∧ si = .int .i64 i ∧ Own iV 2 wr w.heap.size so (szs (xs.take i)) ∧ Own bV 4 wr w.heap.size mo (mor (xs.take i)) ∧ Hid (so.ownBlock = none ∨ so.ownBlock ≠ mo.ownBlock) ∧ Below w.heap.size w wr)
    (fun _ _ si _ => xs.length - (intOf si).toNat)
  case atStart => exact ⟨0, by omega, rfl, o00, o01, .inr (by simp [Value.ownBlock]), b00⟩
  case round =>
    obtain ⟨i, hi, rfl, ho0, ho1, hap, hb⟩ := hrel
    by_cases hlt : i < xs.length
    · obtain ⟨x, hx⟩ := get_of_lt hlt
      obtain ⟨ad, rfl, hbl, hc⟩ := HA.out i x hx
      have hxin := HIN.out x (List.mem_of_getElem? hx)
      have hci : wr.cell? (ad.add i) = some (iV x) := by rw [hb.cell (by rw [add_block]; exact hbl)]; exact hc
      have hsz := szs_snoc (xs.take i) x
      have hmo := mor_snoc (xs.take i) x
      rw [← take_snoc hx] at hsz hmo
      have HSZ := Lib.hid hsz
      have HMO := Lib.hid hmo
      have hzr := hb.size
      have hl0 : (szs (xs.take i)).length ≤ 40 := by rw [szs_len]; have := nz_len (xs.take i); simp at this; omega
      have hl1 : (mor (xs.take i)).length ≤ 40 := by rw [mor_len]; have := nz_len (xs.take i); simp at this; omega
      clear hx hc hsz hmo
      by_cases hx0 : x = 0
      · have HX0 := Lib.hid hx0
        have hne : (x == 0) = true := by simp [hx0]
        clear hx0
        go_wp2
        go_roundw
        case rel => exact ⟨i + 1, by omega, by go_num, by rw [HSZ.out, if_pos HX0.out]; exact ho0, by rw [HMO.out, if_pos HX0.out]; exact ho1, hap, hb⟩
        case measure => simp [intOf]; omega
      · have HX0 := Lib.hid hx0
        have hne : (x == 0) = false := by simp [hx0]
        clear hx0
        have hi0 : (0 : Int) ≤ (i : Int) := by omega
        have hi1 : (i : Int) < (xs.length : Int) := by omega
        go_wp2
        go_region_held3 (fun w' => w'.cell? (ad.add i) = some (iV x)) (first | go_keep | (rw [hb6.cell (by rw [add_block]; exact hbl)]; assumption))
          ((go_loud (refine elI_.app_step one_iV _ (by rfl) _ _ (by rfl) w.heap.size _ (szs (xs.take i)) (by rfl) (World.ownsRow.drew (World.ownsRow.alloc ho0 _)) _ [if x < IntKind.i64.wrap (-x) then IntKind.i64.wrap (-x) else x] (by rfl) (rd_one_drew iV _ _ _) (by omega) (by simp; omega) (by simp; omega) ?_); intro v' w' hown6 hgr6 hb6 hp6))
        have hmx : (if x < IntKind.i64.wrap (-x) then IntKind.i64.wrap (-x) else x) = max x (-x) := by
          rw [IntWalk.i64_in _ (by omega), Int.max_def]
          split <;> split <;> omega
        rw [hmx] at hown6
        obtain ⟨wa, hwa⟩ : ∃ wa, wa = (wr.alloc (.cells #[.int .i64 (if x < IntKind.i64.wrap (-x) then IntKind.i64.wrap (-x) else x)] 2)).drew := ⟨_, rfl⟩
        have hba : Below w.heap.size w wa := by rw [hwa]; exact (hb.alloc hzr _).drew
        have o1a : Own bV 4 wa w.heap.size u6 (mor (xs.take i)) := by rw [hwa]; exact World.ownsRow.drew (World.ownsRow.alloc ho1 _)
        rw [← hwa] at hgr6 hb6 hp6
        have o16 := row_beside o1a hap.out hgr6
        have hb6' := hba.trans hb6
        have hci6 : w'.cell? (ad.add i) = some (iV x) := by assumption
        have HOW6 := Lib.hid hown6
        have HGR6 := Lib.hid hgr6
        have HP6 := Lib.hid hp6
        have O1A := Lib.hid o1a
        have hz7 := hb6'.size
        clear hmx hwa hown6 hgr6 hp6 hb6 o1a hba ho0 ho1 hb hci
        go_wp2_with (at_builtin; refine elB_.app (fun _ => rfl) _ rfl _ _ rfl w.heap.size _ (mor (xs.take i)) rfl (World.ownsRow.alloc o16 _) _ [decide (0 < x)] rfl (rd_one bV _ _ _) (by omega) (by simp; omega) (by simp; omega) ?_)
        all_goals
          intro v'' w'' hown7 hgr7 hb7 hp7
          obtain ⟨hrow, hap7⟩ := rows_in_turn O1A.out hap.out HOW6.out HGR6.out HP6.out ((Below.refl _ _).alloc (Nat.le_refl _) _) hown7 hgr7 (by rw [World.size_alloc]; exact hp7)
          have hb8 : Below w.heap.size w w'' := (hb6'.alloc hz7 _).trans hb7
          clear hgr7 hp7 hb7 O1A HOW6 HGR6 HP6 o16
          go_wp2
          go_roundw
          case rel => exact ⟨i + 1, by omega, by go_num, by rw [HSZ.out, if_neg HX0.out]; exact hrow, by rw [HMO.out, if_neg HX0.out]; exact hown7, hap7, hb8⟩
          case measure => simp [intOf]; omega
    · have hie : i = xs.length := by omega
      have htk : xs.take i = xs := by rw [hie, List.take_length]
      rw [htk] at ho0 ho1
      have hm40 : (nz xs).length ≤ 40 := Nat.le_trans (nz_len xs) hl2
      obtain ⟨m, hm⟩ : ∃ m, m = (nz xs).length := ⟨_, rfl⟩
      have HM := Lib.hid hm
      have hsl : (szs xs).length = m := by rw [szs_len, hm]
      have hml : (mor xs).length = m := by rw [mor_len, hm]
      have HO0 := Lib.hid ho0
      have HO1 := Lib.hid ho1
      obtain ⟨A0, c0, rfl, hc0, hA0⟩ := ho0.rd
      obtain ⟨A1, c1, rfl, hc1, hA1⟩ := ho1.rd
      have HA1 := Lib.hid hA1
      rw [hsl] at hc0 ⊢
      rw [hml] at hc1 ⊢
      rw [← hm] at hm40
      have HSL := Lib.hid hsl
      have HML := Lib.hid hml
      have hz1 := hb.size
      clear hA0 hA1 ho0 ho1 htk hm hap hsl hml
      by_cases hm0 : m = 0
      · subst hm0
        go_wp2
        go_ret3
        have e : sgnB xs = false := by unfold sgnB; rw [List.length_eq_zero_iff.1 HM.out.symm]; simp
        exact ⟨by unfold sgnP sgnA; rw [e]; rfl, hb⟩
      have hsb : sgnB xs = true := by
        unfold sgnB
        rw [HSM.out]
        cases h : nz xs with
        | nil => exact absurd (by rw [HM.out, h]; rfl) hm0
        | cons a l => rfl
      have HSB := Lib.hid hsb
      clear hsb
      go_wp2_with fail
      refine (l06Ranks_any _ (szs xs) (by rw [HSL.out]; omega) wr (by have := HO0.out.rd; rw [HSL.out] at this; exact this)).mono ?_
      rintro e w2 ⟨v2, rfl, ho2, hb2⟩
      have hlr : (rnk xs).length = m := by rw [rnk_len, HM.out]
      change Own iV 2 w2 wr.heap.size v2 (rnk xs) at ho2
      obtain ⟨gr, cr, rfl, hcr, hr1, hr2⟩ := ho2.form (by omega)
      have hgetR : ∀ (k : Nat) (r : Int), (rnk xs)[k]? = some r → w2.cell? ⟨gr, k, none⟩ = some (iV r) := by
        obtain ⟨A', cap', e, _, hA'⟩ := ho2.rd
        intro k x hx
        obtain ⟨ad, ea, _, hc⟩ := hA' k x hx
        injection e with e1 e2 e3
        rw [ea] at e1
        cases e1
        have ea : (⟨gr, 0, none⟩ : Addr).add k = ⟨gr, k, none⟩ := by simp [Addr.add]; omega
        rw [← ea]; exact hc
      have HGR := Lib.hid hgetR
      have HO2 := Lib.hid ho2
      have HLR := Lib.hid hlr
      have hrb : ∀ r ∈ rnk xs, 1 ≤ r ∧ r ≤ 81 := fun r h => rnk_bd hl2 h
      have HRB := Lib.hid hrb
      have hb2' : Below w.heap.size w w2 := below_to hb hb2 hz1
      rw [hlr] at hcr ⊢
      clear hgetR ho2 hlr hrb
      go_wp2_with fail
      go_loop [9, 10] (fun so si => ∃ k : Nat, k ≤ m ∧ si = .int .i64 k ∧ so = .int .i64 (ownTo (mor xs) (rnk xs) k)) (fun _ si => m - (intOf si).toNat)
      case atStart => exact ⟨0, by omega, rfl, rfl⟩
      case round =>
        obtain ⟨k, hk, rfl, rfl⟩ := hrel
        by_cases hlk : k < m
        · obtain ⟨b, hbk⟩ := get_of_lt (xs := mor xs) (k := k) (by rw [HML.out]; exact hlk)
          obtain ⟨r, hrk⟩ := get_of_lt (xs := rnk xs) (k := k) (by rw [HLR.out]; exact hlk)
          obtain ⟨am, rfl, hamb, hcm⟩ := HA1.out k b hbk
          have hcm2 : w2.cell? (am.add k) = some (.bool b) := by rw [hb2.cell (by rw [add_block]; exact hamb)]; exact hcm
          have hcr2 := HGR.out k r hrk
          have HRK := Lib.hid hrk
          clear hcm hrk
          cases b
          · have hon := ownTo_no (rs := rnk xs) hbk
            have HON := Lib.hid hon
            clear hon hbk
            go_wp2
            go_round
            case rel => exact ⟨k + 1, by omega, by go_num, by rw [HON.out]⟩
            case measure => simp [intOf]; omega
          · have hon := ownTo_yes hbk HRK.out
            have HON := Lib.hid hon
            clear hon hbk
            go_wp2
            go_round
            case rel => exact ⟨k + 1, by omega, by go_num, by rw [HON.out]⟩
            case measure => simp [intOf]; omega
        · have hke : k = m := by omega
          obtain ⟨own, hown⟩ : ∃ own, own = ownTo (mor xs) (rnk xs) k := ⟨_, rfl⟩
          have hownE : own = sgnOwn xs := by rw [hown]; unfold sgnOwn; rw [HLR.out, hke]
          rw [← hown]
          have HOWN := Lib.hid hownE
          have hsb0 := sumW_bd HRB.out (by rw [HLR.out]; exact hm40)
          have hos := own_le_sum (ms := mor xs) HRB.out (by rw [HLR.out]; exact hm40)
          change sgnOwn xs ≤ _ at hos
          rw [← hownE] at hos
          have hbd := sgnOwn_bd (xs := xs) hl2
          rw [HLR.out, ← hownE] at hbd
          rw [HLR.out] at hsb0
          obtain ⟨M, hM⟩ : ∃ M : Nat, (M : Int) = sumW (rnk xs) := ⟨(sumW (rnk xs)).toNat, by omega⟩
          rw [← hM] at hsb0 hos
          have HMS := Lib.hid hM
          have htk : (rnk xs).take m = rnk xs := by rw [← HLR.out, List.take_length]
          have HTKM := Lib.hid htk
          clear hown hownE hM htk
          go_wp2_with fail
          refine (l06First_any _ (rnk xs) m (by rw [HLR.out]; omega) (by rw [HLR.out]; omega) w2 (by have := HO2.out.rd; rw [HLR.out] at this; exact this)).mono ?_
          rintro e w' ⟨rfl, rfl⟩
          rw [HTKM.out, ← HMS.out]
          have hM1 : IntKind.i64.wrap ((M : Int) + 1) = ((M + 1 : Nat) : Int) := by rw [IntWalk.i64_in _ (by omega)] <;> omega
          go_wp2_with (at_make; go_loud (refine elI_.make _ rfl _ _ rfl .i64 .i64 _ _ (M + 1) rfl rfl rfl rfl (by omega) (by omega) ?_))
          intro w3 hown3 hb3 hs3
          have hrg : gr < w2.heap.size := by omega
          have hz2 : w.heap.size ≤ w2.heap.size := by have := hb2'.size; omega
          rw [show List.replicate (M + 1) (Value.int .i64 0) = (List.replicate (M + 1) (0 : Int)).map iV by rw [List.map_replicate]] at hown3
          have k0 := hown3.cellAt 0 (by simp)
          have f0 := hown3.frozenAt 0
          rw [List.getElem?_map, List.getElem?_replicate, if_pos (by omega), Option.map_some] at k0
          have hst := (hown3.stored 0 (iV 1)).1
          rw [← List.map_set, dpA_start] at hst
          have hb4 : Below w2.heap.size w2 (w3.setCell ⟨w2.heap.size, 0, none⟩ (iV 1)) := hb3.setCell (p := ⟨w2.heap.size, 0, none⟩) (Nat.le_refl _) _
          have HST := Lib.hid hst
          clear hst hM1 hown3
          go_wp2_with fail
          go_loopw [13] (fun si wr => ∃ i : Nat, i ≤ m ∧ si = .int .i64 i ∧ wr.ownsRow w2.heap.size 2 1 (.slice (some ⟨w2.heap.size, 0, none⟩) (M + 1) (M + 1)) (M + 1) ((dpA (wayF ((rnk xs).take i)) M).map iV) ∧ Below w2.heap.size w2 wr)
            (fun si _ => m - (intOf si).toNat)
          case atStart => exact ⟨0, by omega, rfl, by rw [List.take_zero, wayF_nil]; exact HST.out, hb4⟩
          case round =>
            clear k0 f0 HST hb4
            obtain ⟨i, hi, rfl, hrow, hbw⟩ := hrel
            by_cases hli : i < m
            · obtain ⟨r, hr⟩ := get_of_lt (xs := rnk xs) (k := i) (by rw [HLR.out]; exact hli)
              have hrb := HRB.out r (List.mem_of_getElem? hr)
              have htk : (rnk xs).take (i + 1) = (rnk xs).take i ++ [r] := take_snoc hr
              have hcr2 := HGR.out i r hr
              obtain ⟨f, hf⟩ : ∃ f, f = wayF ((rnk xs).take i) := ⟨_, rfl⟩
              have hfz : ∀ s, s < 0 → f s = 0 := fun s hs => by
                rw [hf]
                exact wayF_zero rfl (fun r h => HRB.out r (List.mem_of_mem_take h)) s (.inl hs)
              have hfi : ∀ s, inI (f s) := fun s => by rw [hf]; exact wayF_in _ s
              have hfs : wayF ((rnk xs).take (i + 1)) = stepF f r := by rw [htk, wayF_snoc, hf]
              rw [← hf, ← dpI_start f r] at hrow
              have HFZ := Lib.hid hfz
              have HFI := Lib.hid hfi
              have HFS := Lib.hid hfs
              clear hr htk hf hfz hfi hfs
              go_wp2_with fail
              go_loopw [14] (fun sx wq => ∃ x : Nat, x ≤ M ∧ sx = .int .i64 x ∧ wq.ownsRow w2.heap.size 2 1 (.slice (some ⟨w2.heap.size, 0, none⟩) (M + 1) (M + 1)) (M + 1) ((dpI f r M x).map iV) ∧ Below w2.heap.size w2 wq)
                (fun sx _ => (intOf sx).toNat)
              case atStart => exact ⟨M, Nat.le_refl _, rfl, hrow, hbw⟩
              case round =>
                obtain ⟨x, hx, rfl, hrx, hbx⟩ := hrel
                clear hrow hbw
                have hcr3 : wr.cell? ⟨gr, i, none⟩ = some (iV r) := by rw [hbx.cell (by simp only; exact hrg)]; exact hcr2
                by_cases hxr : r ≤ (x : Int)
                · obtain ⟨y, hxy⟩ : ∃ y, x = y + 1 := ⟨x - 1, by omega⟩
                  obtain ⟨z, hz⟩ : ∃ z : Nat, (z : Int) = (x : Int) - r := ⟨((x : Int) - r).toNat, by omega⟩
                  have hzx : z ≤ x := by omega
                  have o1 := hrx.cellAt x (by simp; omega)
                  have o2 := hrx.cellAt z (by simp; omega)
                  rw [List.getElem?_map, dpI_at (by omega) hx, Option.map_some] at o1 o2
                  have f1 := hrx.frozenAt x
                  have hsub : IntKind.i64.wrap ((x : Int) - r) = (z : Int) := by rw [IntWalk.i64_in _ (by omega), hz]
                  have hdec : IntKind.i64.wrap ((x : Int) - 1) = (y : Int) := by rw [IntWalk.i64_in _ (by omega)]; omega
                  have hset : (dpI f r M x).set x (wrap64 (f x + f z)) = dpI f r M y := by
                    have h := dpI_step (f := f) (r := r) (M := M) (x := y) (by omega)
                    rw [← hxy] at h
                    rw [← h]
                    unfold stepF
                    rw [show (y : Int) + 1 = (x : Int) by omega, hz]
                  have hz0 : (0 : Int) ≤ (z : Int) := Int.natCast_nonneg _
                  have hz1' : (z : Int) < (M : Int) + 1 := by omega
                  have hx0 : (0 : Int) ≤ (x : Int) := Int.natCast_nonneg _
                  have hx1 : (x : Int) < (M : Int) + 1 := by omega
                  have hi0 : (0 : Int) ≤ (i : Int) := Int.natCast_nonneg _
                  have hi1 : (i : Int) < (m : Int) := by omega
                  have HSET := Lib.hid hset
                  have HXY := Lib.hid hxy
                  have HRX := Lib.hid hrx
                  clear hset hxy hz hrx
                  go_wp2
                  refine wp_region_fq 15 (fun _ _ _ => True) (by kernel_rfl) (by kernel_rfl) ?_
                  simp only [List.take, List.drop]
                  repeat (first | (refine wpFq_one (by rfl) ?_; go_big_quiet_step (fail); refine wpQuiet_nil ?_) | (refine wpFq_nilc (by rfl) _ rfl _ (by rfl) ?_; simp only [Act.put, List.setIfInBounds_toArray, List.set_cons_zero, List.set_cons_succ]) | (refine wpFq_fl (by rfl) _ _ _ _ _ rfl (by rfl) _ _ _ (by rfl) (by rfl) ?_; intro fb hfb; simp only [Act.put, List.setIfInBounds_toArray, List.set_cons_zero, List.set_cons_succ]) | (refine wpFq_up (by rfl) _ _ _ rfl (by kernel_rfl) (by kernel_rfl) _ (by rfl) ?_; intro fb hfb; simp only [Act.put, List.setIfInBounds_toArray, List.set_cons_zero, List.set_cons_succ]))
                  refine wpFq_nil ?_
                  intro nq
                  go_wp2
                  have hst := ((World.ownsRow.drewN' HRX.out nq).stored x (iV (wrap64 (f x + f z)))).1
                  rw [← List.map_set, HSET.out] at hst
                  have hbx2 : Below w2.heap.size w2 ((wr.drewN nq).setCell ⟨w2.heap.size, x, none⟩ (iV (wrap64 (f x + f z)))) := (below_drewN_ hbx).setCell (p := ⟨w2.heap.size, x, none⟩) (Nat.le_refl _) _
                  go_roundw
                  case rel => exact ⟨y, by have := HXY.out; omega, rfl, hst, hbx2⟩
                  case measure => have := HXY.out; simp [intOf]; omega
                · have he : dpI f r M x = dpA (stepF f r) M := dpI_end (by omega) HFZ.out HFI.out
                  rw [he, ← HFS.out] at hrx
                  clear he
                  go_wp2
                  go_roundw
                  case rel => exact ⟨i + 1, by omega, by go_num, hrx, hbx⟩
                  case measure => simp [intOf]; omega
            · have hie : i = m := by omega
              rw [hie, HTKM.out] at hrow
              have HROW := Lib.hid hrow
              clear hrow
              go_wp2_with fail
              go_loop [15, 16] (fun sp sx => ∃ x : Nat, (x : Int) ≤ own + 1 ∧ sx = .int .i64 x ∧ sp = .int .i64 (wrap64 (sumTo (wayF (rnk xs)) x))) (fun _ sx => (own + 1).toNat - (intOf sx).toNat)
              case atStart => exact ⟨0, by omega, rfl, congrArg (Value.int .i64) (by show (0 : Int) = wrap64 0; unfold wrap64; omega)⟩
              case round =>
                obtain ⟨x, hx, rfl, rfl⟩ := hrel
                by_cases hxo : (x : Int) ≤ own
                · have o1 := HROW.out.cellAt x (by simp; omega)
                  rw [List.getElem?_map, dpA_at (by omega), Option.map_some] at o1
                  have hsm : wrap64 (wrap64 (sumTo (wayF (rnk xs)) x) + wayF (rnk xs) x) = wrap64 (sumTo (wayF (rnk xs)) (x + 1)) := by
                    show _ = wrap64 (sumTo (wayF (rnk xs)) x + wayF (rnk xs) x)
                    unfold wrap64; omega
                  have HSMM := Lib.hid hsm
                  have hx0 : (0 : Int) ≤ (x : Int) := Int.natCast_nonneg _
                  have hx1 : (x : Int) < (M : Int) + 1 := by omega
                  clear hsm
                  go_wp2
                  go_round
                  case rel => exact ⟨x + 1, by omega, by go_num, by rw [← HSMM.out]⟩
                  case measure => simp [intOf]; omega
                · have hxe : x = (sgnOwn xs).toNat + 1 := by have := HOWN.out; omega
                  have hpart : wrap64 (sumTo (wayF (rnk xs)) x) = sgnP xs := by rw [hxe]; unfold sgnP; rw [HSB.out]; rfl
                  obtain ⟨pt, hpt⟩ : ∃ pt, pt = wrap64 (sumTo (wayF (rnk xs)) x) := ⟨_, rfl⟩
                  rw [← hpt] at hpart ⊢
                  have hsh : IntKind.i64.wrap (2 ^ m) = 2 ^ m := by
                    have h2 : (2 : Int) ^ m ≤ 2 ^ 40 := by exact_mod_cast (Nat.pow_le_pow_right (by omega : 0 < 2) hm40)
                    have h3 : (0 : Int) < 2 ^ m := by exact_mod_cast Nat.two_pow_pos m
                    exact IntWalk.i64_in _ (by omega)
                  have HSH := Lib.hid hsh
                  have hall : (2 : Int) ^ m = sgnA xs := by unfold sgnA; rw [HSB.out, ← HM.out]; rfl
                  have HP := Lib.hid hpart
                  have HALL := Lib.hid hall
                  clear hpt hpart hall hsh hxe
                  go_wp2
                  go_ret3
                  exact ⟨ret_iib HP.out ((IntWalk.i64_left _).symm.trans (HSH.out.trans HALL.out)) HSB.out.symm, hb2'.trans (hbw.mono hz2)⟩
end Go.Proofs.Ytmhmekfbnaafmaa
