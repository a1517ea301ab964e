/-
  The walk of impl.waysTo.
-/
import Derived.Test.YtmhmekfbnaafmaaSumM
import Derived.Test.YtmhmekfbnaafmaaApp
namespace Go.Proofs.Ytmhmekfbnaafmaa
open Go.RowKit Go.Maps

theorem elM_ : Elem Try.prog 73 54 (.map none) 8 := ⟨Try.underlying73, by kernel_rfl, rfl⟩
/-- The row of maps, i of them made. -/
def mRow (G L i : Nat) : List Value := (List.range L).map fun k => .map (if k < i then some (G + 1 + k) else none)
theorem mRow_len (G L i : Nat) : (mRow G L i).length = L := by simp [mRow]
theorem mRow_zero (G L : Nat) : mRow G L 0 = List.replicate L (.map none) := by
  apply List.ext_getElem?
  intro k
  unfold mRow
  rw [List.getElem?_map, List.getElem?_replicate]
  rcases Nat.lt_or_ge k L with h | h
  · rw [List.getElem?_range h, if_pos h]; simp
  · rw [List.getElem?_eq_none (by simpa using h), if_neg (by omega)]; rfl
theorem mRow_at {G L i k : Nat} (hk : k < L) (hi : k < i) : (mRow G L i)[k]? = some (.map (some (G + 1 + k))) := by
  unfold mRow
  rw [List.getElem?_map, List.getElem?_range (by omega), Option.map_some, if_pos hi]
theorem mRow_next {G L i : Nat} (hk : i < L) : (mRow G L i)[i]? = some (.map none) := by
  unfold mRow
  rw [List.getElem?_map, List.getElem?_range (by omega), Option.map_some, if_neg (by omega)]
theorem mRow_set {G L i : Nat} (hi : i < L) : (mRow G L i).set i (.map (some (G + 1 + i))) = mRow G L (i + 1) := by
  apply List.ext_getElem?
  intro k
  rw [List.getElem?_set, mRow_len]
  unfold mRow
  by_cases h : i = k
  · subst h
    rw [if_pos rfl, if_pos (by omega), List.getElem?_map, List.getElem?_range (by omega), Option.map_some, if_pos (by omega)]
  · rw [if_neg h, List.getElem?_map, List.getElem?_map]
    rcases Nat.lt_or_ge k L with h1 | h1
    · rw [List.getElem?_range h1, Option.map_some, Option.map_some]
      by_cases h2 : k < i
      · rw [if_pos h2, if_pos (by omega)]
      · rw [if_neg h2, if_neg (by omega)]
    · rw [List.getElem?_eq_none (by simpa using h1)]; rfl
/-- The map of number k: it lies in the k-th block behind the row's, and holds the counts f. -/
def MK (W : World) (G k N : Nat) (f : Int → Int) (C : Int) : Prop :=
  ∃ D : DataW Unit, W.ownsMap Try.prog 2 (plainElem Try.prog 2) (G + 1 + k) N D ∧ MapIs D f ∧ KeysIn2 D (-C) C ∧ W.cell? ⟨G, k, none⟩ = some (.map (some (G + 1 + k)))
theorem MK.lt {W : World} {G k N : Nat} {f : Int → Int} {C : Int} (h : MK W G k N f C) : G + 1 + k < W.heap.size := by obtain ⟨D, h1, _⟩ := h; exact h1.lt
theorem MK.grown {W W' : World} {G k N : Nat} {f : Int → Int} {C : Int} {row : Option Nat} (h : MK W G k N f C) (hg : W.grownBy W' row) (h1 : some (G + 1 + k) ≠ row) (h2 : some G ≠ row) : MK W' G k N f C := by
  have hl := h.lt
  obtain ⟨D, a, b, c, d⟩ := h
  exact ⟨D, a.kept hg h1, b, c, (World.cell?_of_block (w := W) (hg.block G (by omega) h2)).trans d⟩
theorem MK.mono {W : World} {G k N N' : Nat} {f : Int → Int} {C C' : Int} (h : MK W G k N f C) (hN : N ≤ N') (hC : C ≤ C') : MK W G k N' f C' := by
  obtain ⟨D, a, b, c, d⟩ := h
  exact ⟨D, a.mono hN, b, keysIn2_mono c (by omega) hC, d⟩
theorem MK.congr {W : World} {G k N : Nat} {f g : Int → Int} {C : Int} (h : MK W G k N f C) (e : ∀ s, f s = g s) : MK W G k N g C := by
  rwa [show g = f from funext fun s => (e s).symm]
theorem fM_in {xs : List Int} {n k : Nat} {s : Int} (hn : n ≤ 40) : inI (fM xs n k s) := by
  have h := fM_bd xs n k s
  have h3 : (2 : Int) ^ n ≤ 2 ^ 40 := by exact_mod_cast (Nat.pow_le_pow_right (by omega : 0 < 2) hn)
  unfold inI; omega
/-- A map of one way: the empty choice. -/
theorem way_into {w : World} {b : Nat} (h : w.ownsMap Try.prog 2 (plainElem Try.prog 2) b 0 (DataW.map [] : DataW Unit)) : ∃ w', (Instr.mapUpdate 54 (.map (some b)) (.int .i64 0) (.int .i64 1)).run Try.prog w = .ok () w' ∧
    w'.ownsMap Try.prog 2 (plainElem Try.prog 2) b 1 ((DataW.map [] : DataW Unit).put (kI 0) (.lit (.int .i64 1))) ∧ w.grownBy w' (some b) :=
  h.update lawK Try.underlying54 (by decide) (key := .int .i64 0) (val := .int .i64 1)
    (keyOf_int_mk Try.underlying2 (wf_of_inI (by unfold inI; omega))) (plainElem_int Try.underlying2 (wf_of_inI (by unfold inI; omega)))
theorem into_is (xs : List Int) : MapIs ((DataW.map [] : DataW Unit).put (kI 0) (.lit (.int .i64 1))) (fM xs 0 0) := fun s => by
  rw [fM_zero]
  by_cases e : s = 0
  · subst e; rw [atKey_put_same isMap_empty (kI_isKey 0)]; simp
  · rw [atKey_put_other (kI_ne e), atKey_of_not_has rfl]; simp [e]
theorem into_keys : KeysIn2 ((DataW.map [] : DataW Unit).put (kI 0) (.lit (.int .i64 1))) (-0) 0 := fun s hs => by
  by_cases e : s = 0
  · omega
  · rw [has_put_other (kI_ne e)] at hs; cases hs
theorem none_is (xs : List Int) (k : Nat) : MapIs (DataW.map [] : DataW Unit) (fM xs 0 (k + 1)) := fun s => by
  rw [fM_zero, if_neg (by omega), atKey_of_not_has rfl]
theorem none_keys : KeysIn2 (DataW.map [] : DataW Unit) (-0) 0 := fun s hs => by cases hs
theorem grown_setAt (w : World) (p : Addr) (u : Value) : w.grownBy (w.setCell p u) (some p.block) :=
  ⟨rfl, rfl, rfl, by simp, fun k _ hk => Below.heap_setCell _ _ _ _ (fun e => hk (by rw [e]))⟩

set_option maxRecDepth 100000 in
set_option maxHeartbeats 2000000 in
theorem waysTo_any (v : Value) (xs : List Int) (K : Nat) (hn : xs.length ≤ 12) (hK : K ≤ 12) (hin : ∀ x ∈ xs, -1000 ≤ x ∧ x ≤ 1000) (w : World) (hr : Rd iV w v xs) :
    Calls Try.prog 38 #[v, .int .i64 K] w fun e w' => ∃ (b N : Nat) (D : DataW Unit), e = .returned (.map (some b)) ∧ w.heap.size ≤ b ∧ w'.ownsMap Try.prog 2 (plainElem Try.prog 2) b N D ∧ MapIs D (fM xs xs.length K) ∧ KeysIn2 D (-(1000 * (xs.length : Int))) (1000 * (xs.length : Int)) ∧ Below w.heap.size w w' := by
  obtain ⟨A, cap, rfl, hcap, hA⟩ := hr
  have HA := Lib.hid hA
  have HIN := Lib.hid hin
  clear hA hin
  have hmm := @run_makeMap Try.prog
  obtain ⟨L, hL1, hL2⟩ : ∃ L : Nat, K < L ∧ L ≤ K + 1 := ⟨K + 1, by omega, by omega⟩
  have hK1 : IntKind.i64.wrap ((K : Int) + 1) = (L : Int) := by rw [IntWalk.i64_in _ (by omega)]; omega
  go_enter Try.func38, Try.ntmps38
  go_wp2_with (at_make; go_loud (refine elM_.make _ rfl _ _ rfl .i64 .i64 _ _ L rfl rfl rfl rfl (by omega) (by omega) ?_))
  intro w1 hown1 hb1 hs1
  obtain ⟨G, hG⟩ : ∃ G, G = w.heap.size := ⟨_, rfl⟩
  rw [← hG] at hown1 hb1 hs1 ⊢
  have HG := Lib.hid hG
  rw [← mRow_zero G] at hown1
  clear hK1 hG
  go_wp2
  go_loopw [17] (fun si wr => ∃ i : Nat, i ≤ L ∧ si = .int .i64 i ∧ wr.ownsRow G 54 1 (.slice (some ⟨G, 0, none⟩) L L) L (mRow G L i) ∧ Hid (∀ k, k < i → wr.ownsMap Try.prog 2 (plainElem Try.prog 2) (G + 1 + k) 0 (DataW.map [] : DataW Unit)) ∧ wr.heap.size = G + 1 + i ∧ Below G w wr)
    (fun si _ => L - (intOf si).toNat)
  case atStart => exact ⟨0, by omega, rfl, hown1, (fun k hk => absurd hk (by omega)), by omega, hb1⟩
  case round =>
    obtain ⟨i, hi, rfl, hrow, hmk, hsz, hb⟩ := hrel
    by_cases hlt : i < L
    · have k0 := (World.ownsRow.alloc hrow (.map #[] 0)).cellAt i (by omega)
      have f0 := (World.ownsRow.alloc hrow (.map #[] 0)).frozenAt i
      rw [mRow_next (by omega)] at k0
      have hrow2 := ((World.ownsRow.alloc hrow (.map #[] 0)).stored i (.map (some (G + 1 + i)))).1
      rw [mRow_set (by omega)] at hrow2
      have hnew : (wr.alloc (.map #[] 0)).ownsMap Try.prog 2 (plainElem Try.prog 2) (G + 1 + i) 0 (DataW.map [] : DataW Unit) := by rw [← hsz]; exact World.ownsMap_made _ _ _ _
      have hmk2 : ∀ k, k < i + 1 → ((wr.alloc (.map #[] 0)).setCell ⟨G, i, none⟩ (.map (some (G + 1 + i)))).ownsMap Try.prog 2 (plainElem Try.prog 2) (G + 1 + k) 0 (DataW.map [] : DataW Unit) := fun k hk => by
        refine World.ownsMap.setCell ?_ (by show G + 1 + k ≠ G; omega) _
        by_cases e : k = i
        · subst e; exact hnew
        · exact (hmk.out k (by omega)).alloc _
      have hs2 : ((wr.alloc (.map #[] 0)).setCell ⟨G, i, none⟩ (.map (some (G + 1 + i)))).heap.size = G + 1 + (i + 1) := by simp [hsz]; omega
      have hb2 : Below G w ((wr.alloc (.map #[] 0)).setCell ⟨G, i, none⟩ (.map (some (G + 1 + i)))) := (hb.alloc (by omega) _).setCell (p := ⟨G, i, none⟩) (Nat.le_refl _) _
      have HR2 := Lib.hid hrow2
      have HM2 := Lib.hid hmk2
      have HS2 := Lib.hid hs2
      clear hrow2 hmk2 hs2 hnew hrow hmk
      go_wp2
      go_roundw
      case rel => exact ⟨i + 1, by omega, by go_num, HR2.out, HM2, HS2.out, hb2⟩
      case measure => simp [intOf]; omega
    · have hie : L = i := by omega
      subst hie
      have hk0 := hrow.cellAt 0 (by omega)
      rw [mRow_at (by omega) (by omega)] at hk0
      obtain ⟨w2, hrun2, hmap2, hgr2⟩ := way_into (hmk.out 0 (by omega))
      have hM0 : ∀ k, k ≤ K → MK w2 G k (2 ^ 0) (fM xs 0 k) (1000 * ((0 : Nat) : Int)) := fun k hk => by
        have hc := hrow.cellAt k (by omega)
        rw [mRow_at (by omega) (by omega)] at hc
        have hc2 : w2.cell? ⟨G, k, none⟩ = some (.map (some (G + 1 + k))) := (World.cell?_of_block (w := wr) (hgr2.block G (by omega) (fun e => by have := Option.some.inj e; omega))).trans hc
        cases k with
        | zero => exact ⟨_, hmap2, into_is xs, into_keys, hc2⟩
        | succ k => exact ⟨_, ((hmk.out (k + 1) (by omega)).kept hgr2 (fun e => by have := Option.some.inj e; omega)).mono (Nat.zero_le _), none_is xs k, none_keys, hc2⟩
      have hb2 : Below G w w2 := hb.grown hgr2 (by omega) (fun j hj => by cases hj; omega)
      have HM0 := Lib.hid hM0
      have hz2 := hgr2.size
      simp only [Nat.add_zero] at hrun2 hk0
      clear hM0 hmap2 hmk hlt hrow hi
      go_wp2_with fail
      go_loopw [30] (fun si wq => ∃ i : Nat, i ≤ xs.length ∧ si = .int .i64 i ∧ Hid (∀ k, k ≤ K → MK wq G k (2 ^ i) (fM xs i k) (1000 * (i : Int))) ∧ Below G w wq)
        (fun si _ => xs.length - (intOf si).toNat)
      case atStart => exact ⟨0, by omega, rfl, HM0, hb2⟩
      case round =>
        clear hk0 hrun2 HM0 hb2 hb hsz hgr2
        obtain ⟨i, hi, rfl, hM, hb⟩ := hrel
        by_cases hlt : i < xs.length
        · obtain ⟨x, hx⟩ := get_of_lt hlt
          obtain ⟨ad, rfl, hbl, hc⟩ := HA.out i x hx
          have hxin := HIN.out x (List.mem_of_getElem? hx)
          have hci : wr.cell? (ad.add i) = some (iV x) := by rw [hb.cell (by rw [add_block, HG.out]; exact hbl)]; exact hc
          have HX := Lib.hid hx
          have h2 : 2 ^ (i + 1) = 2 * 2 ^ i := by rw [Nat.pow_succ]; omega
          have h3 : 2 ^ i ≤ 2 ^ 12 := Nat.pow_le_pow_right (by omega) (by omega)
          obtain ⟨N, hN⟩ : ∃ N, N = 2 ^ i := ⟨_, rfl⟩
          rw [← hN] at hM h2 h3
          obtain ⟨C, hC⟩ : ∃ C : Int, C = 1000 * (i : Int) := ⟨_, rfl⟩
          have hC1 : 1000 * ((i + 1 : Nat) : Int) = C + 1000 := by rw [hC]; push_cast; omega
          have hC2 : C ≤ 12000 := by omega
          have hC0 : 0 ≤ C := by omega
          rw [← hC] at hM
          have HN := Lib.hid h2
          have HC := Lib.hid hC1
          clear hx hc hN hC h2 hC1
          go_wp2_with fail
          go_loopw [9] (fun sk wq => ∃ k : Nat, k ≤ K ∧ sk = .int .i64 k ∧ Hid (∀ j, j ≤ k → MK wq G j N (fM xs i j) C) ∧ Hid (∀ j, k < j → j ≤ K → MK wq G j (2 * N) (fM xs (i + 1) j) (C + 1000)) ∧ Below G w wq)
            (fun sk _ => (intOf sk).toNat)
          case atStart => exact ⟨K, Nat.le_refl _, rfl, (fun j hj => hM.out j hj), (fun j h1 h2 => absurd h1 (by omega)), hb⟩
          case round =>
            clear hM hci hb
            obtain ⟨k, hk, rfl, hlo, hhi, hb⟩ := hrel
            by_cases hk1 : 1 ≤ k
            · obtain ⟨j, hj⟩ : ∃ j, k = j + 1 := ⟨k - 1, by omega⟩
              obtain ⟨D0, a0, m0, y0, c0⟩ := hlo.out j (by omega)
              obtain ⟨D1, a1, m1, y1, c1⟩ := hlo.out k (by omega)
              have hdk : decide ((1 : Int) ≤ (k : Int)) = true := decide_eq_true (by omega)
              have hjk : IntKind.i64.wrap ((k : Int) - 1) = (j : Int) := by rw [IntWalk.i64_in _ (by omega)]; omega
              have hj0 : (0 : Int) ≤ (j : Int) := by omega
              have hj1 : (j : Int) < (L : Int) := by omega
              have hkk0 : (0 : Int) ≤ (k : Int) := by omega
              have hkk1 : (k : Int) < (L : Int) := by omega
              obtain ⟨bj, hbj⟩ : ∃ bj, bj = G + 1 + j := ⟨_, rfl⟩
              obtain ⟨bk, hbk⟩ : ∃ bk, bk = G + 1 + k := ⟨_, rfl⟩
              rw [← hbj] at a0 c0
              rw [← hbk] at a1 c1
              have hlj := a0.lt
              have hlk := a1.lt
              have hsd := a0.size_le
              have hbne : bj ≠ bk := by omega
              have hGj : G < bj := by omega
              have hGk : G < bk := by omega
              have HBJ := Lib.hid hbj
              have HBK := Lib.hid hbk
              have HJ := Lib.hid hj
              clear hbj hbk hj
              obtain ⟨wo, rfl⟩ : ∃ wo : World, wo = wr := ⟨_, rfl⟩
              go_wp2_with (first
                | (at_range; refine wpList_range_own _ rfl _ 54 rfl 2 2 lawK Try.underlying54 _ bj N _ rfl a0 ?_; intro w6 hrg0 hg0 hs0)
                | go_in)
              try go_frame
              have hmst := add_start m0 m1 (fun s => fM_in (by omega)) x
              have HMST := Lib.hid hmst
              have HY0 := Lib.hid y0
              have HM0 := Lib.hid m0
              clear hmst m0 m1
              go_loopw [10] (fun _ wq => ∃ (left : Lit → Bool) (cnt : Nat) (Dn : DataW Unit), wq.ranges Try.prog 2 (plainElem Try.prog 2) bj wo.heap.size N D0 left cnt ∧ cnt ≤ size D0 ∧ wq.ownsMap Try.prog 2 (plainElem Try.prog 2) bk (N + (size D0 - cnt)) Dn ∧ Hid (MapIs Dn (fun s => wrap64 (fM xs i k s + dn left (fM xs i j) (s - x)))) ∧ Hid (KeysIn2 Dn (-(C + 1000)) (C + 1000)) ∧ wo.grownBy wq (some bk))
                (fun _ wq => wq.rangeLeft bj wo.heap.size)
              case atStart => exact ⟨_, _, D1, hrg0, Nat.le_refl _, (a1.kept hg0 (by simp)).mono (by omega), HMST, keysIn2_mono y1 (by omega) (by omega), hg0.but _⟩
              case round =>
                clear hrg0 hg0 hs0 HMST a1 a0
                obtain ⟨left, cnt, Dn, hrg, hcs, hnw, hMn, hKn, hgw⟩ := hrel
                have hck : wr.cell? ⟨G, k, none⟩ = some (.map (some bk)) := (World.cell?_of_block (w := wo) (hgw.block G (by omega) (fun e => by have := Option.some.inj e; omega))).trans c1
                go_wp2_with (first
                  | (at_next; refine wpList_next_ranges_ii _ rfl _ rfl 2 2 .i64 .i64 lawK Try.underlying2 Try.underlying2 bj wo.heap.size N _ _ _ rfl hrg ?_ ?_)
                  | go_in)
                · intro hc0 hl0
                  go_wp2_with fail
                  go_roundw
                  case rel =>
                    have h1 := hMn.out
                    rw [add_end hl0] at h1
                    have h1' : MapIs Dn (fM xs (i + 1) k) := fun s => by
                      have e := fM_succ HX.out j s
                      rw [← HJ.out] at e
                      rw [h1 s]
                      show DataW.lit (Lit.int .i64 (wrap64 (fM xs i k s + fM xs i j (s - x)))) = _
                      rw [← e, IntWalk.wrap64_in _ (fM_in (by omega))]
                    refine ⟨j, by omega, rfl, (fun j' hj' => (hlo.out j' (by have := HJ.out; omega)).grown hgw (fun e => by have := Option.some.inj e; have := HBK.out; have := HJ.out; omega) (fun e => by have := Option.some.inj e; omega)), (fun j' h1 h2 => ?_), hb.grown hgw (by omega) (fun q hq => by cases hq; have := HBK.out; omega)⟩
                    by_cases e : j' = k
                    · subst e
                      exact ⟨Dn, by rw [← HBK.out]; exact hnw.mono (by omega), h1', hKn.out, by rw [← HBK.out]; exact hck⟩
                    · exact (hhi.out j' (by have := HJ.out; omega) h2).grown hgw (fun e => by have := Option.some.inj e; have := HBK.out; omega) (fun e => by have := Option.some.inj e; omega)
                  case measure => have := HJ.out; simp [intOf]; omega
                · intro y c w7 cnt1 hwx hwc hlx hat hrg1 hlt1 hg7 hs7 hen
                  have hcx : c = fM xs i j y := atKey_val HM0.out hat
                  have HCX := Lib.hid hcx
                  have hyb := keys_of2 HY0.out hat
                  have hn7 := hnw.kept hg7 (fun e => by have := Option.some.inj e; omega)
                  have hgw7 := hgw.andThen hg7 (fun q hq => by cases hq; exact .inl (Nat.le_refl _))
                  have hck7 : w7.cell? ⟨G, k, none⟩ = some (.map (some bk)) := (World.cell?_of_block (w := wo) (hgw7.block G (by omega) (fun e => by have := Option.some.inj e; omega))).trans c1
                  obtain ⟨z, hz⟩ : ∃ z, z = y + x := ⟨_, rfl⟩
                  have e0 : IntKind.i64.wrap (y + x) = z := by rw [hz]; exact IntWalk.i64_in _ (by omega)
                  have hwz : (Lit.int .i64 z).wf = true := wf_of_inI (by unfold inI; omega)
                  have HZ := Lib.hid hz
                  clear hz hcx hck
                  go_wp2_with (first
                    | (at_lookup; refine wpList_lookup_own_int _ rfl _ _ 54 rfl 2 2 .i64 lawK Try.underlying54 Try.underlying2 (zeroK _) bk _ _ rfl hn7 _ _ rfl (keyOf_int_mk Try.underlying2 hwz) ?_; intro a1 hat1 hwa1)
                    | (at_mapUpdate; refine wpList_mapUpdate_own _ rfl _ _ _ 54 rfl 2 2 lawK Try.underlying54 _ bk _ _ rfl hn7 (by unfold maxLen; omega) _ _ _ rfl rfl (keyOf_int_mk Try.underlying2 hwz) _ [] (plainElem_int Try.underlying2 (wrap64_wf _)) ?_; intro w8 hn8 hg8; try go_frame)
                    | go_in)
                  have hrg8 := hrg1.kept hg8 (fun e => by have := Option.some.inj e; omega) (fun e => by have := Option.some.inj e; omega)
                  go_roundw
                  case rel =>
                    exact ⟨_, cnt1, _, hrg8, by omega, hn8.mono (by omega), add_step hnw.isMap HZ.out hlx HCX.out hMn.out hat1, keysIn2_put hKn.out (by have := HZ.out; omega), hgw7.andThen hg8 (fun q hq => by cases hq; exact .inr rfl)⟩
                  case measure => rw [hrg8.left_eq, hrg.left_eq]; exact hlt1
            · have hk0 : k = 0 := by omega
              have hall : ∀ q, q ≤ K → MK wr G q (2 ^ (i + 1)) (fM xs (i + 1) q) (1000 * ((i + 1 : Nat) : Int)) := fun q hq => by
                rw [HN.out, HC.out]
                by_cases h0 : q = 0
                · subst h0
                  exact ((hlo.out 0 (by omega)).mono (by omega) (by omega)).congr (fun s => (fM_succ0 HX.out s).symm)
                · exact hhi.out q (by omega) hq
              have HALL := Lib.hid hall
              clear hall
              go_wp2_with fail
              go_roundw
              case rel => exact ⟨i + 1, by omega, by go_num, HALL, hb⟩
              case measure => simp [intOf]; omega
        · have hie : i = xs.length := by omega
          obtain ⟨D, a, m, y, c⟩ := hM.out K (Nat.le_refl _)
          rw [hie] at m y
          have hcK : wr.cell? ⟨G, K, none⟩ = some (.map (some (G + 1 + K))) := c
          go_wp2
          go_ret
          exact ⟨G + 1 + K, _, D, rfl, by have := HG.out; omega, a, m, y, by rw [← HG.out]; exact hb⟩
end Go.Proofs.Ytmhmekfbnaafmaa
