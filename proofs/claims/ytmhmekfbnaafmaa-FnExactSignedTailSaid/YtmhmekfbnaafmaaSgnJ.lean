/-
  The walk of impl.SignedTail, whole.
-/
import Derived.Test.YtmhmekfbnaafmaaSgnI
import Derived.Deep.RegionWith
namespace Go.Proofs.Ytmhmekfbnaafmaa
open Go.RowKit Go.Maps

set_option maxRecDepth 100000 in
set_option maxHeartbeats 2000000 in
theorem implSigned_any (v : Value) (xs : List Int) (hn : xs.length ≤ 1099511627776) (w : World) (hr : Rd iV w v xs) :
    Calls Try.prog 23 #[v] w (RetSgn xs w) := by
  have HR := Lib.hid hr
  obtain ⟨A, cap, rfl, hcap, hA⟩ := hr
  clear hA
  have hmm := @run_makeMap Try.prog
  cases hs : smpB xs
  · go_enter Try.func23, Try.ntmps23
    go_wp2_with (go_at_call 44; go_loud (refine (isSample_any _ xs hn w HR.out).mono ?_); rintro e w' ⟨rfl, q, rfl⟩; rw [hs])
    go_ret3
    have e : sgnB xs = false := by unfold sgnB; rw [hs]; rfl
    exact ⟨by unfold sgnP sgnA; rw [e]; rfl, below_of_drew ⟨_, rfl⟩⟩
  have hl1 : 1 ≤ xs.length := by
    simp only [smpB, Bool.and_eq_true, decide_eq_true_eq] at hs; omega
  have hl2 : xs.length ≤ 40 := by
    simp only [smpB, Bool.and_eq_true, decide_eq_true_eq] at hs; omega
  have hin : ∀ x ∈ xs, -1000 ≤ x ∧ x ≤ 1000 := by
    simp only [smpB, Bool.and_eq_true, decide_eq_true_eq, List.all_eq_true] at hs
    intro x hx
    have := hs.2 x hx
    simpa [inB] using this
  have HIN := Lib.hid hin
  have HSM := Lib.hid hs
  clear hin
  go_enter Try.func23, Try.ntmps23
  go_wp2_with (go_at_call 44; go_loud (refine (isSample_any _ xs hn w HR.out).mono ?_); rintro e w' ⟨rfl, q, rfl⟩; rw [hs])
  go_wp2_with fail
  obtain ⟨w0, hw0⟩ : ∃ w0, w0 = w.drewN q := ⟨_, rfl⟩
  have hb0 : Below w.heap.size w w0 := by rw [hw0]; exact below_of_drew ⟨_, rfl⟩
  have HR0 : Hid (Rd iV w0 (.slice A xs.length cap) xs) := Lib.hid (HR.out.below hb0)
  rw [← hw0]
  refine (cloneSgn_any _ xs hn w0 HR0.out).mono ?_
  rintro e w1 ⟨v1, rfl, ho1, hb1⟩
  replace hb1 := below_to hb0 hb1 hb0.size
  have hbz : w.heap.size ≤ w0.heap.size := hb0.size
  replace ho1 := own_base ho1 hbz
  clear hw0 hb0 HR0 hbz HR
  go_wp2_with fail
  refine (del0_any xs hl1 hl2 w1 w.heap.size hb1.size v1 ho1).mono ?_
  rintro e w2 ⟨g, c, rfl, hg0, hg1, hgc, ho2, hb2⟩
  replace hb2 := hb1.trans hb2
  clear hb1 ho1
  have hm40 : (nz xs).length ≤ 40 := Nat.le_trans (nz_len xs) hl2
  obtain ⟨m, hm⟩ : ∃ m, m = (nz xs).length := ⟨_, rfl⟩
  have HM := Lib.hid hm
  rw [← hm] at hm40 ho2 hgc ⊢
  clear hm
  have hget : ∀ (i : Nat) (x : Int), (nz xs)[i]? = some x → w2.cell? ⟨g, i, none⟩ = some (iV x) := by
    obtain ⟨A', cap', e, _, hA'⟩ := ho2.rd
    intro i x hx
    obtain ⟨ad, ea, _, hc⟩ := hA' i x hx
    injection e with e1 e2 e3
    rw [ea] at e1
    cases e1
    have ea : (⟨g, 0, none⟩ : Addr).add i = ⟨g, i, none⟩ := by simp [Addr.add]; omega
    rw [← ea]; exact hc
  have HGET := Lib.hid hget
  have hz2 := hb2.size
  clear ho2 hget
  go_wp2_with fail
  go_loopw [6, 25] (fun so si wr => ∃ i : Nat, i ≤ m ∧ si = .int .i64 i ∧ wr.ownsRow w2.heap.size 2 1 so i (((szs xs).take i).map iV) ∧ Below w2.heap.size w2 wr)
    (fun _ si _ => m - (intOf si).toNat)
  case atStart => exact ⟨0, by omega, rfl, own_lit0 _ _, (Below.refl _ _).alloc (Nat.le_refl _) _⟩
  case round =>
    obtain ⟨i, hi, rfl, hown, hb⟩ := hrel
    by_cases hlt : i < m
    · obtain ⟨x, hx⟩ := get_of_lt (xs := nz xs) (k := i) (by rw [← HM.out]; exact hlt)
      have hxin := HIN.out x (nz_mem (List.mem_of_getElem? hx))
      have hci : wr.cell? ⟨g, i, none⟩ = some (iV x) := by
        rw [hb.cell (by simp only; exact hg1)]
        exact HGET.out i x hx
      have hsz : (szs xs).take (i + 1) = (szs xs).take i ++ [max x (-x)] := take_snoc (by unfold szs; rw [List.getElem?_map, hx]; rfl)
      have HSZ := Lib.hid hsz
      have hwz := hb.size
      clear hx hsz
      go_wp2_with (at_builtin; refine elI_.append _ rfl _ _ rfl w2.heap.size _ i (((szs xs).take i).map iV) rfl (World.ownsRow.alloc hown _) ⟨wr.heap.size, 0, none⟩ 1 1 [.int .i64 (max x (-x))] rfl rfl (new_one _ _ _) (one_one rfl) (by omega) (by omega) (by simp; omega) ?_)
      intro v' w' hown6 hgr6 hb6
      have e2 : ((szs xs).map iV).take i ++ [Value.int .i64 (max x (-x))] = ((szs xs).take (i + 1)).map iV := by rw [HSZ.out]; simp
      rw [e2] at hown6
      clear e2
      go_wp2
      go_roundw
      case rel => exact ⟨i + 1, by omega, by go_num, hown6, (hb.alloc (by simpa using hwz) _).trans hb6⟩
      case measure => simp [intOf]; omega
    · have hie : i = m := by omega
      have hszs : (szs xs).take i = szs xs := by rw [hie, HM.out, ← szs_len, List.take_length]
      rw [hszs, hie] at hown
      have HOW := Lib.hid hown
      clear hszs hie hown
      by_cases hm0 : m = 0
      · subst hm0
        go_wp2
        go_ret3
        have e : sgnB xs = false := by unfold sgnB; rw [List.length_eq_zero_iff.1 HM.out.symm]; simp
        exact ⟨by unfold sgnP sgnA; rw [e]; rfl, hb2.trans (hb.mono hz2)⟩
      have hsb : sgnB xs = true := by
        unfold sgnB
        rw [HSM.out]
        cases h : nz xs with
        | nil => exact absurd (by rw [HM.out, h]; rfl) hm0
        | cons a l => rfl
      have HSB := Lib.hid hsb
      clear hsb
      have hz3 := hb.size
      obtain ⟨w3, hrun3, hmap3, hgr3⟩ := way_one wr
      have hgr3' : Below wr.heap.size wr w3 := ((Below.refl _ _).alloc (Nat.le_refl _) _).grown hgr3 (by simp) (fun j hj => by cases hj; exact Nat.le_refl _)
      have hz4 : wr.heap.size + 1 ≤ w3.heap.size := by have := hgr3.size; simpa using this
      have hb3 : Below w.heap.size w w3 := (hb2.trans (hb.mono hz2)).trans (hgr3'.mono (by omega))
      go_wp2_with fail
      obtain ⟨ob, hob⟩ : ∃ ob, ob = w3.heap.size := ⟨_, rfl⟩
      have c4 : CellAt (w3.alloc (.cells #[.int .i64 0] 2)) ob (iV 0) := by rw [hob]; exact CellAt.new _ _ _
      have hb4 : Below w.heap.size w (w3.alloc (.cells #[.int .i64 0] 2)) := hb3.alloc (by have := hb3.size; omega) _
      have hb4' : Below w2.heap.size w2 (w3.alloc (.cells #[.int .i64 0] 2)) := (hb.trans (hgr3'.mono (by omega))).alloc (by omega) _
      have hmap4 := hmap3.alloc (.cells #[.int .i64 0] 2)
      have hrd4 : Rd iV (w3.alloc (.cells #[.int .i64 0] 2)) u6 (szs xs) := by
        have h := HOW.out
        rw [HM.out, ← szs_len] at h
        exact Rd.alloc (Rd.below (Own.rd (f := iV) h) hgr3') _
      have hs4 : (w3.alloc (.cells #[.int .i64 0] 2)).heap.size = ob + 1 := by rw [hob]; simp
      rw [← hob]
      have hz4' : wr.heap.size < ob := by omega
      generalize w3.alloc (.cells #[.int .i64 0] 2) = w4 at c4 hb4 hb4' hmap4 hrd4 hs4 ⊢
      have HR4 := Lib.hid hrd4
      clear hrd4 hrun3 hmap3 hgr3 hgr3' hb3 HOW hlt
      go_wp2_with fail
      refine (ranksOf_any u6 (szs xs) (by rw [szs_len, ← HM.out]; omega) w4 HR4.out).mono ?_
      rintro e w5 ⟨v5, rfl, ho5, hb5⟩
      have hlr : (rnk xs).length = m := by rw [rnk_len, HM.out]
      change Own iV 2 w5 w4.heap.size v5 (rnk xs) at ho5
      obtain ⟨gr, cr, rfl, hcr, hr1, hr2⟩ := ho5.form (by omega)
      have hgetR : ∀ (i : Nat) (x : Int), (rnk xs)[i]? = some x → w5.cell? ⟨gr, i, none⟩ = some (iV x) := by
        obtain ⟨A', cap', e, _, hA'⟩ := ho5.rd
        intro i x hx
        obtain ⟨ad, ea, _, hc⟩ := hA' i x hx
        injection e with e1 e2 e3
        rw [ea] at e1
        cases e1
        have ea : (⟨gr, 0, none⟩ : Addr).add i = ⟨gr, i, none⟩ := by simp [Addr.add]; omega
        rw [← ea]; exact hc
      have HGR := Lib.hid hgetR
      have c5 := c4.below hb5
      have hmap5 := hmap4.kept (below_grown hb5) (by simp)
      have hb5' : Below w.heap.size w w5 := hb4.trans (hb5.mono hb4.size)
      have hg5 : g < w4.heap.size := Nat.lt_of_lt_of_le hg1 hb4'.size
      have hget5 : ∀ (i : Nat) (x : Int), (nz xs)[i]? = some x → w5.cell? ⟨g, i, none⟩ = some (iV x) := fun i x hx => by
        rw [hb5.cell (by simp only; omega), hb4'.cell (by simp only; omega)]; exact HGET.out i x hx
      have HG5 := Lib.hid hget5
      have HLR := Lib.hid hlr
      have hrb : ∀ r ∈ rnk xs, 1 ≤ r ∧ r ≤ 81 := fun r h => rnk_bd hl2 h
      have HRB := Lib.hid hrb
      have hgob : g < ob := by omega
      have hob5 : ob < w5.heap.size := c5.lt
      rw [hlr] at hcr ⊢
      clear hgetR ho5 hget5 hmap4 hlr hrb c4 HR4 hob HGET hb4 hb4'
      go_wp2_with fail
      go_loopw [10, 45] (fun sm si W => ∃ (i b : Nat) (D : DataW Unit), i ≤ m ∧ si = .int .i64 i ∧ sm = .map (some b) ∧ W.ownsMap Try.prog 2 (plainElem Try.prog 2) b (2 ^ i) D ∧ Hid (MapIs D (wayF ((rnk xs).take i))) ∧ Hid (KeysIn D (81 * i)) ∧ CellAt W ob (iV (ownTo (mor xs) (rnk xs) i)) ∧ b ≠ ob ∧ w5.grownBy W (some ob))
        (fun _ si _ => m - (intOf si).toNat)
      case atStart => exact ⟨0, _, _, by omega, rfl, rfl, hmap5, by unfold Hid; rw [List.take_zero, wayF_nil]; exact way_first, by unfold Hid; exact keys_first, c5, by omega, grown_refl _ _⟩
      case round =>
        obtain ⟨i, b, D, hi, rfl, rfl, hmap, hD, hK, cW, hbo, hgW⟩ := hrel
        obtain ⟨own, hown⟩ : ∃ own, own = ownTo (mor xs) (rnk xs) i := ⟨_, rfl⟩
        rw [← hown] at cW
        have hcell := cW.cell
        have hfree := cW.free
        by_cases hlt : i < m
        · obtain ⟨x, hx⟩ := get_of_lt (xs := nz xs) (k := i) (by rw [← HM.out]; exact hlt)
          obtain ⟨r, hr⟩ := get_of_lt (xs := rnk xs) (k := i) (by rw [HLR.out]; exact hlt)
          have hrb := HRB.out r (List.mem_of_getElem? hr)
          have hcx : wr.cell? ⟨g, i, none⟩ = some (iV x) := (World.cell?_of_block (w := w5) (hgW.block g (by have := hb5.size; omega) (fun e => by cases e; omega))).trans (HG5.out i x hx)
          have hcr' : wr.cell? ⟨gr, i, none⟩ = some (iV r) := (World.cell?_of_block (w := w5) (hgW.block gr hr2 (fun e => by cases e; omega))).trans (HGR.out i r hr)
          have htk : (rnk xs).take (i + 1) = (rnk xs).take i ++ [r] := take_snoc hr
          have HTK := Lib.hid htk
          have hmor : (mor xs)[i]? = some (decide (0 < x)) := by unfold mor; rw [List.getElem?_map, hx]; rfl
          have HX := Lib.hid hx
          have HRr := Lib.hid hr
          have HOWN := Lib.hid hown
          have h2i : 2 ^ i ≤ 2 ^ 40 := Nat.pow_le_pow_right (by omega) (by omega)
          have h2s : 2 ^ (i + 1) = 2 * 2 ^ i := by rw [Nat.pow_succ]; omega
          obtain ⟨N, hN⟩ : ∃ N, N = 2 ^ i := ⟨_, rfl⟩
          rw [← hN] at hmap h2i h2s
          have HN := Lib.hid hN
          have H2S := Lib.hid h2s
          have hsd := hmap.size_le
          clear htk hx hr hown hN h2s
          by_cases hpos : 0 < x
          · have hown1 : ownTo (mor xs) (rnk xs) (i + 1) = (wrap64 (own + r)) := by rw [HOWN.out]; exact ownTo_yes (by rw [hmor, decide_eq_true hpos]) HRr.out
            have HOW_ := Lib.hid hown1
            clear hown1 hmor
            have hW1 : CellAt (wr.setCell ⟨ob, 0, none⟩ (iV (wrap64 (own + r)))) ob (iV (wrap64 (own + r))) := cW.set _
            have hg1W : w5.grownBy (wr.setCell ⟨ob, 0, none⟩ (iV (wrap64 (own + r)))) (some ob) := hgW.andThen (row' := some ob) (grown_setCell wr ob _) (fun j hj => by cases hj; exact .inr rfl)
            have hmap1 : (wr.setCell ⟨ob, 0, none⟩ (iV (wrap64 (own + r)))).ownsMap Try.prog 2 (plainElem Try.prog 2) b N D := hmap.setCell hbo _
            have hbl := hmap1.lt
            obtain ⟨bn, hbn⟩ : ∃ bn, bn = wr.heap.size := ⟨_, rfl⟩
            have hbW : bn = (wr.setCell ⟨ob, 0, none⟩ (iV (wrap64 (own + r)))).heap.size := by rw [hbn] <;> simp
            have hm2 : ((wr.setCell ⟨ob, 0, none⟩ (iV (wrap64 (own + r)))).alloc (.map #[] 0)).ownsMap Try.prog 2 (plainElem Try.prog 2) b N D := hmap1.alloc _
            have hn2 : ((wr.setCell ⟨ob, 0, none⟩ (iV (wrap64 (own + r)))).alloc (.map #[] 0)).ownsMap Try.prog 2 (plainElem Try.prog 2) bn 0 (.map [] : DataW Unit) := by rw [hbW]; exact World.ownsMap_made _ _ _ _
            have hc2 := hW1.alloc (.map #[] 0)
            have hs2 : ((wr.setCell ⟨ob, 0, none⟩ (iV (wrap64 (own + r)))).alloc (.map #[] 0)).heap.size = bn + 1 := by rw [hbW]; simp
            have hbob : ob < bn := by rw [hbW]; exact hW1.lt
            have hbb : b < bn := by rw [hbW]; exact hbl
            have hg2W : w5.grownBy ((wr.setCell ⟨ob, 0, none⟩ (iV (wrap64 (own + r)))).alloc (.map #[] 0)) (some ob) := hg1W.andThen (World.grownBy_alloc (wr.setCell ⟨ob, 0, none⟩ (iV (wrap64 (own + r)))) (.map #[] 0) none) (fun j hj => by cases hj)
            have hz5 : w5.heap.size ≤ bn := by rw [hbW]; exact hg1W.size
            go_wp2_with (first
              | (at_range; refine wpList_range_own _ rfl _ 54 rfl 2 2 lawK Try.underlying54 _ b N _ rfl hm2 ?_; intro w6 hrg0 hg0 hs0)
              | go_in)
            try go_frame
            replace hrg0 : w6.ranges Try.prog 2 (plainElem Try.prog 2) b (bn + 1) N D (has D) (size D) := Eq.mp (congrArg (fun z => w6.ranges Try.prog 2 (plainElem Try.prog 2) b z N D (has D) (size D)) hs2) hrg0
            have hs6 : w6.heap.size = bn + 2 := by rw [hs0]; exact congrArg (· + 1) hs2
            have hn6 := hn2.kept hg0 (by simp)
            have hc6 := hc2.grown hg0 (by simp)
            have hg6 : w5.grownBy w6 (some ob) := hg2W.andThen hg0 (fun j hj => by cases hj)
            have e9 : ((wr.setCell ⟨ob, 0, none⟩ (Value.int .i64 (wrap64 (own + r)))).alloc (.map #[] 0)).heap.size = bn + 1 := hs2
            try rw [e9]
            try rw [← hbn]
            obtain ⟨f, hf⟩ : ∃ f, f = wayF ((rnk xs).take i) := ⟨_, rfl⟩
            have HF := Lib.hid hf
            rw [← hf] at hD
            clear e9 hbW hbn hW1 hg1W hmap1 hm2 hn2 hc2 hs2 hg2W hg0 hs0 hf hcell hfree
            go_loopw [14] (fun _ wq => ∃ (left : Lit → Bool) (cnt : Nat) (Dn : DataW Unit), wq.ranges Try.prog 2 (plainElem Try.prog 2) b (bn + 1) N D left cnt ∧ cnt ≤ size D ∧ wq.ownsMap Try.prog 2 (plainElem Try.prog 2) bn (2 * (size D - cnt)) Dn ∧ Hid (MapIs Dn (fun s => wrap64 (dn left f s + dn left f (s - r)))) ∧ Hid (KeysIn Dn (81 * ((i : Int) + 1))) ∧ CellAt wq ob (iV (wrap64 (own + r))) ∧ w5.grownBy wq (some ob))
              (fun _ wq => wq.rangeLeft b (bn + 1))
            case atStart => exact ⟨_, _, .map [], hrg0, Nat.le_refl _, hn6.mono (Nat.zero_le _), way_start hD.out r, (fun s hs => by cases hs), hc6, hg6⟩
            case round =>
              obtain ⟨left, cnt, Dn, hrg, hcs, hnw, hMn, hKn, hcw, hgw⟩ := hrel
              go_wp2_with (first
                | (at_next; refine wpList_next_ranges_ii _ rfl _ rfl 2 2 .i64 .i64 lawK Try.underlying2 Try.underlying2 b (bn + 1) N _ _ _ rfl hrg ?_ ?_)
                | go_in)
              · intro hc0 hl0
                go_wp2_with fail
                go_roundw
                case rel =>
                  have h1 := hMn.out
                  rw [way_end hl0, HF.out, ← wayF_snoc, ← HTK.out] at h1
                  exact ⟨i + 1, bn, Dn, by omega, by go_num, rfl, hnw.mono (by rw [H2S.out]; omega), h1, hKn, by rw [HOW_.out]; exact hcw, by omega, hgw⟩
                case measure => simp [intOf]; omega
              · intro x1 c1 w7 cnt1 hwx hwc hlx hat hrg1 hlt1 hg7 hs7 hen
                have hcx1 : c1 = f x1 := atKey_val hD.out hat
                have HCX := Lib.hid hcx1
                clear hcx1
                have hxb := keys_of hK.out hat
                have hn7 := hnw.kept hg7 (fun e => by have := Option.some.inj e; omega)
                obtain ⟨y, hy⟩ : ∃ y, y = x1 + r := ⟨_, rfl⟩
                have e0 : IntKind.i64.wrap (x1 + r) = y := by rw [hy]; exact IntWalk.i64_in _ (by omega)
                have hwy : (Lit.int .i64 y).wf = true := wf_of_inI (by unfold inI; omega)
                have HY := Lib.hid hy
                clear hy
                go_wp2_with (first
                  | (at_lookup; refine wpList_lookup_own_int _ rfl _ _ 54 rfl 2 2 .i64 lawK Try.underlying54 Try.underlying2 (zeroK _) bn _ _ rfl hn7 _ _ rfl (keyOf_int_mk Try.underlying2 hwx) ?_; intro a1 hat1 hwa1)
                  | (at_mapUpdate; refine wpList_mapUpdate_own _ rfl _ _ _ 54 rfl 2 2 lawK Try.underlying54 _ bn _ _ rfl hn7 (by unfold maxLen; omega) _ _ _ rfl rfl (keyOf_int_mk Try.underlying2 hwx) _ [] (plainElem_int Try.underlying2 (wrap64_wf _)) ?_; intro w8 hn8 hg8)
                  | (at_lookup; refine wpList_lookup_own_int _ rfl _ _ 54 rfl 2 2 .i64 lawK Try.underlying54 Try.underlying2 (zeroK _) bn _ _ rfl hn8 _ _ rfl (keyOf_int_mk Try.underlying2 hwy) ?_; intro a2 hat2 hwa2)
                  | (at_mapUpdate; refine wpList_mapUpdate_own _ rfl _ _ _ 54 rfl 2 2 lawK Try.underlying54 _ bn _ _ rfl hn8 (by unfold maxLen; omega) _ _ _ rfl rfl (keyOf_int_mk Try.underlying2 hwy) _ [] (plainElem_int Try.underlying2 (wrap64_wf _)) ?_; intro w9 hn9 hg9; try go_frame)
                  | go_in)
                have hrg9 := (hrg1.kept hg8 (fun e => by have := Option.some.inj e; omega) (fun e => by have := Option.some.inj e; omega)).kept hg9 (fun e => by have := Option.some.inj e; omega) (fun e => by have := Option.some.inj e; omega)
                go_roundw
                case rel =>
                  exact ⟨_, cnt1, _, hrg9, by omega, hn9.mono (by omega), way_step hnw.isMap hrb.1 HY.out hlx HCX.out hMn.out hat1 hat2, keysIn_put (keysIn_put hKn.out (by omega)) (by have := HY.out; omega),
                    ((hcw.grown hg7 (fun e => by have := Option.some.inj e; omega)).grown hg8 (fun e => by have := Option.some.inj e; omega)).grown hg9 (fun e => by have := Option.some.inj e; omega),
                    ((hgw.andThen hg7 (fun j hj => by cases hj; exact .inl (by omega))).andThen hg8 (fun j hj => by cases hj; exact .inl (by omega))).andThen hg9 (fun j hj => by cases hj; exact .inl (by omega))⟩
                case measure => rw [hrg9.left_eq, hrg.left_eq]; exact hlt1
          · have hown1 : ownTo (mor xs) (rnk xs) (i + 1) = own := by rw [HOWN.out]; exact ownTo_no (by rw [hmor, decide_eq_false hpos])
            have HOW_ := Lib.hid hown1
            clear hown1 hmor
            have hW1 : CellAt (wr) ob (iV own) := cW
            have hg1W : w5.grownBy (wr) (some ob) := hgW
            have hmap1 : (wr).ownsMap Try.prog 2 (plainElem Try.prog 2) b N D := hmap
            have hbl := hmap1.lt
            obtain ⟨bn, hbn⟩ : ∃ bn, bn = wr.heap.size := ⟨_, rfl⟩
            have hbW : bn = (wr).heap.size := by rw [hbn] <;> simp
            have hm2 : ((wr).alloc (.map #[] 0)).ownsMap Try.prog 2 (plainElem Try.prog 2) b N D := hmap1.alloc _
            have hn2 : ((wr).alloc (.map #[] 0)).ownsMap Try.prog 2 (plainElem Try.prog 2) bn 0 (.map [] : DataW Unit) := by rw [hbW]; exact World.ownsMap_made _ _ _ _
            have hc2 := hW1.alloc (.map #[] 0)
            have hs2 : ((wr).alloc (.map #[] 0)).heap.size = bn + 1 := by rw [hbW]; simp
            have hbob : ob < bn := by rw [hbW]; exact hW1.lt
            have hbb : b < bn := by rw [hbW]; exact hbl
            have hg2W : w5.grownBy ((wr).alloc (.map #[] 0)) (some ob) := hg1W.andThen (World.grownBy_alloc (wr) (.map #[] 0) none) (fun j hj => by cases hj)
            have hz5 : w5.heap.size ≤ bn := by rw [hbW]; exact hg1W.size
            go_wp2_with (first
              | (at_range; refine wpList_range_own _ rfl _ 54 rfl 2 2 lawK Try.underlying54 _ b N _ rfl hm2 ?_; intro w6 hrg0 hg0 hs0)
              | go_in)
            try go_frame
            replace hrg0 : w6.ranges Try.prog 2 (plainElem Try.prog 2) b (bn + 1) N D (has D) (size D) := Eq.mp (congrArg (fun z => w6.ranges Try.prog 2 (plainElem Try.prog 2) b z N D (has D) (size D)) hs2) hrg0
            have hs6 : w6.heap.size = bn + 2 := by rw [hs0]; exact congrArg (· + 1) hs2
            have hn6 := hn2.kept hg0 (by simp)
            have hc6 := hc2.grown hg0 (by simp)
            have hg6 : w5.grownBy w6 (some ob) := hg2W.andThen hg0 (fun j hj => by cases hj)
            have e9 : ((wr).alloc (.map #[] 0)).heap.size = bn + 1 := hs2
            try rw [e9]
            try rw [← hbn]
            obtain ⟨f, hf⟩ : ∃ f, f = wayF ((rnk xs).take i) := ⟨_, rfl⟩
            have HF := Lib.hid hf
            rw [← hf] at hD
            clear e9 hbW hbn hW1 hg1W hmap1 hm2 hn2 hc2 hs2 hg2W hg0 hs0 hf hcell hfree
            go_loopw [14] (fun _ wq => ∃ (left : Lit → Bool) (cnt : Nat) (Dn : DataW Unit), wq.ranges Try.prog 2 (plainElem Try.prog 2) b (bn + 1) N D left cnt ∧ cnt ≤ size D ∧ wq.ownsMap Try.prog 2 (plainElem Try.prog 2) bn (2 * (size D - cnt)) Dn ∧ Hid (MapIs Dn (fun s => wrap64 (dn left f s + dn left f (s - r)))) ∧ Hid (KeysIn Dn (81 * ((i : Int) + 1))) ∧ CellAt wq ob (iV own) ∧ w5.grownBy wq (some ob))
              (fun _ wq => wq.rangeLeft b (bn + 1))
            case atStart => exact ⟨_, _, .map [], hrg0, Nat.le_refl _, hn6.mono (Nat.zero_le _), way_start hD.out r, (fun s hs => by cases hs), hc6, hg6⟩
            case round =>
              obtain ⟨left, cnt, Dn, hrg, hcs, hnw, hMn, hKn, hcw, hgw⟩ := hrel
              go_wp2_with (first
                | (at_next; refine wpList_next_ranges_ii _ rfl _ rfl 2 2 .i64 .i64 lawK Try.underlying2 Try.underlying2 b (bn + 1) N _ _ _ rfl hrg ?_ ?_)
                | go_in)
              · intro hc0 hl0
                go_wp2_with fail
                go_roundw
                case rel =>
                  have h1 := hMn.out
                  rw [way_end hl0, HF.out, ← wayF_snoc, ← HTK.out] at h1
                  exact ⟨i + 1, bn, Dn, by omega, by go_num, rfl, hnw.mono (by rw [H2S.out]; omega), h1, hKn, by rw [HOW_.out]; exact hcw, by omega, hgw⟩
                case measure => simp [intOf]; omega
              · intro x1 c1 w7 cnt1 hwx hwc hlx hat hrg1 hlt1 hg7 hs7 hen
                have hcx1 : c1 = f x1 := atKey_val hD.out hat
                have HCX := Lib.hid hcx1
                clear hcx1
                have hxb := keys_of hK.out hat
                have hn7 := hnw.kept hg7 (fun e => by have := Option.some.inj e; omega)
                obtain ⟨y, hy⟩ : ∃ y, y = x1 + r := ⟨_, rfl⟩
                have e0 : IntKind.i64.wrap (x1 + r) = y := by rw [hy]; exact IntWalk.i64_in _ (by omega)
                have hwy : (Lit.int .i64 y).wf = true := wf_of_inI (by unfold inI; omega)
                have HY := Lib.hid hy
                clear hy
                go_wp2_with (first
                  | (at_lookup; refine wpList_lookup_own_int _ rfl _ _ 54 rfl 2 2 .i64 lawK Try.underlying54 Try.underlying2 (zeroK _) bn _ _ rfl hn7 _ _ rfl (keyOf_int_mk Try.underlying2 hwx) ?_; intro a1 hat1 hwa1)
                  | (at_mapUpdate; refine wpList_mapUpdate_own _ rfl _ _ _ 54 rfl 2 2 lawK Try.underlying54 _ bn _ _ rfl hn7 (by unfold maxLen; omega) _ _ _ rfl rfl (keyOf_int_mk Try.underlying2 hwx) _ [] (plainElem_int Try.underlying2 (wrap64_wf _)) ?_; intro w8 hn8 hg8)
                  | (at_lookup; refine wpList_lookup_own_int _ rfl _ _ 54 rfl 2 2 .i64 lawK Try.underlying54 Try.underlying2 (zeroK _) bn _ _ rfl hn8 _ _ rfl (keyOf_int_mk Try.underlying2 hwy) ?_; intro a2 hat2 hwa2)
                  | (at_mapUpdate; refine wpList_mapUpdate_own _ rfl _ _ _ 54 rfl 2 2 lawK Try.underlying54 _ bn _ _ rfl hn8 (by unfold maxLen; omega) _ _ _ rfl rfl (keyOf_int_mk Try.underlying2 hwy) _ [] (plainElem_int Try.underlying2 (wrap64_wf _)) ?_; intro w9 hn9 hg9; try go_frame)
                  | go_in)
                have hrg9 := (hrg1.kept hg8 (fun e => by have := Option.some.inj e; omega) (fun e => by have := Option.some.inj e; omega)).kept hg9 (fun e => by have := Option.some.inj e; omega) (fun e => by have := Option.some.inj e; omega)
                go_roundw
                case rel =>
                  exact ⟨_, cnt1, _, hrg9, by omega, hn9.mono (by omega), way_step hnw.isMap hrb.1 HY.out hlx HCX.out hMn.out hat1 hat2, keysIn_put (keysIn_put hKn.out (by omega)) (by have := HY.out; omega),
                    ((hcw.grown hg7 (fun e => by have := Option.some.inj e; omega)).grown hg8 (fun e => by have := Option.some.inj e; omega)).grown hg9 (fun e => by have := Option.some.inj e; omega),
                    ((hgw.andThen hg7 (fun j hj => by cases hj; exact .inl (by omega))).andThen hg8 (fun j hj => by cases hj; exact .inl (by omega))).andThen hg9 (fun j hj => by cases hj; exact .inl (by omega))⟩
                case measure => rw [hrg9.left_eq, hrg.left_eq]; exact hlt1
        · have hie : i = m := by omega
          have htk : (rnk xs).take i = rnk xs := by rw [hie, ← HLR.out, List.take_length]
          have hD' := hD.out
          rw [htk] at hD'
          have hownE : own = sgnOwn xs := by rw [hown]; unfold sgnOwn; rw [HLR.out, hie]
          have hbd := sgnOwn_bd (xs := xs) hl2
          rw [HLR.out, ← hownE] at hbd
          have hsh : IntKind.i64.wrap (2 ^ m) = 2 ^ m := by
            have h2 : (2 : Int) ^ m ≤ 2 ^ 40 := by exact_mod_cast (Nat.pow_le_pow_right (by omega : 0 < 2) hm40)
            have h3 : (0 : Int) < 2 ^ m := by exact_mod_cast Nat.two_pow_pos m
            exact IntWalk.i64_in _ (by omega)
          have HSH := Lib.hid hsh
          have hpart : whereN (wayF (rnk xs)) (fun s => decide (s ≤ own)) (81 * m) = sgnP xs := by
            rw [where_is hbd.1 (by omega), hownE]; unfold sgnP; rw [HSB.out]; rfl
          have hall : (2 : Int) ^ m = sgnA xs := by unfold sgnA; rw [HSB.out, ← HM.out]; rfl
          have hCW : ∀ V : World, V.heap = wr.heap → Calls Try.prog 37 #[.map (some b), .func (.func 49) #[] #[.pointer (some ⟨ob, 0, none⟩)]] V fun e w' => e = .returned (.int .i64 (whereN (wayF (rnk xs)) (fun s => decide (s ≤ own)) (81 * m))) ∧ Below V.heap.size V w' := fun V hV =>
            countWhere_any (fun s => decide (s ≤ own)) 49 #[.pointer (some ⟨ob, 0, none⟩)] b (2 ^ i) (81 * m) (wayF (rnk xs)) D (fun args w => enter_sgn2 args w) V (by unfold World.ownsMap at hmap ⊢; rw [hV]; exact hmap) hD' (by have := hK.out; rw [hie] at this; exact keysIn_mono this (by omega))
              (fun x V' hb' => (sgn2_any x own ob V' (CellAt.below ⟨by rw [hV]; exact cW.lt, by unfold World.cell? at hcell ⊢; rw [hV]; exact hcell, by unfold World.frozen? at hfree ⊢; rw [hV]; exact hfree⟩ hb')).mono fun _ _ ⟨h1, h2⟩ => ⟨h1, 0, h2⟩)
          have HCW := Lib.hid hCW
          have HP := Lib.hid hpart
          have HA := Lib.hid hall
          have hbW : Below w.heap.size w wr := hb5'.grown hgW hb5'.size (fun j hj => by cases hj; omega)
          clear hsh hCW hpart hall hD' htk hownE hown hD hK hmap
          go_wp2_with fail
          go_region_with (go_at_call 37; refine (HCW.out _ ?_).mono ?_; rfl; rintro e w' ⟨rfl, hbq⟩)
          go_wp2
          go_ret3
          exact ⟨ret_iib HP.out (HSH.out.trans HA.out) HSB.out.symm, (show Below w.heap.size w wr.drew from ⟨hbW.os, hbW.tape, hbW.output, hbW.size, hbW.block⟩).trans (hbq.mono hbW.size)⟩
end Go.Proofs.Ytmhmekfbnaafmaa
