/-
  Slices of slices of integers by value: laws.szInt64SS, toInt64SS, eqInt64SS, markInt64SS; an argument of that type opened.
-/
import Derived.Test.YthdnelfggmlalaaOrdC
import Derived.Test.YthdnelfggmlalaaOpen
import Derived.Deep.RegionWith
namespace Go.Proofs.Ythdnelfggmlalaa
open Go.RowKit

/-! ### how many words -/
theorem szInt64S_any (s : Value) (xs : List Int) (m : Int) (hm0 : 0 ≤ m) (hm : m ≤ 1048576) (w : World) (hr : Rd iV w s xs) (hx : xs.length ≤ 9223372036854775807) : Calls Try.prog 49 #[s, .int .i64 m] w fun e w' => e = .returned (.int .i64 (if m < xs.length then -1 else m - xs.length)) ∧ w = w' := by
  obtain ⟨A, cap, rfl, hcap, hA⟩ := hr
  clear hA
  by_cases h : m < xs.length
  · go_enter Try.func49, Try.ntmps49
    go_wp2
    go_ret
    exact ⟨ret_int (by first | rfl | rw [if_pos h]), rfl⟩
  · go_enter Try.func49, Try.ntmps49
    go_wp2
    go_ret
    exact ⟨ret_int (by first | rfl | rw [if_neg h] | (rw [if_neg (by omega)])), rfl⟩
set_option maxHeartbeats 800000 in
theorem szInt64SS_any (v : Value) (XS : List (List Int)) (m : Int) (hm0 : 0 ≤ m) (hm : m ≤ 1048576) (w : World) (hr : RdSS w v XS) (hl : XS.length ≤ 9223372036854775807) (hx : ∀ c ∈ XS, c.length ≤ 9223372036854775807) :
    Calls Try.prog 18 #[v, .int .i64 m] w fun e w' => ∃ r : Int, e = .returned (.int .i64 r) ∧ (r < 0 ∨ 0 ≤ r ∧ (XS.length : Int) + XS.flatten.length ≤ m) ∧ w = w' := by
  obtain ⟨us, hr, hul, hrs⟩ := hr
  obtain ⟨A, cap, rfl, hcap, hA⟩ := hr
  have HA := Lib.hid hA
  have HRS := Lib.hid hrs
  have HL := Lib.hid hul
  have HX := Lib.hid hx
  have hlu : us.length ≤ 9223372036854775807 := by omega
  clear hA hrs hx
  by_cases h : m < us.length
  · go_enter Try.func18, Try.ntmps18
    go_wp2
    go_ret
    exact ⟨_, rfl, .inl (by omega), rfl⟩
  · clear hul
    go_enter Try.func18, Try.ntmps18
    go_wp2_with fail
    go_loopw [1, 5] (fun sm si wr => ∃ k : Nat, k ≤ us.length ∧ si = .int .i64 k ∧ (∃ q : Int, q = m - us.length - flen XS k ∧ 0 ≤ q ∧ sm = .int .i64 q) ∧ wr = w)
      (fun _ si _ => us.length - (intOf si).toNat)
    case atStart => exact ⟨0, by omega, rfl, ⟨_, by simp [flen], by omega, rfl⟩, rfl⟩
    case round =>
      obtain ⟨k, hk, rfl, ⟨q, hq, hq0, rfl⟩, rfl⟩ := hrel
      have HQ := Lib.hid hq
      have hqm : q ≤ 1048576 := by omega
      clear hq
      by_cases hlt : k < us.length
      · obtain ⟨u, hu⟩ := get_of_lt hlt
        obtain ⟨cy, hcy⟩ := get_of_lt (xs := XS) (k := k) (by rw [← HL.out]; exact hlt)
        obtain ⟨ad, rfl, hbl, hc⟩ := HA.out k u hu
        have hrd := HRS.out k u cy hu hcy
        have hcl := HX.out cy (List.mem_of_getElem? hcy)
        have hfs := flen_snoc hcy
        have HFS := Lib.hid hfs
        clear hu hcy hfs
        go_wp2_with fail
        refine (szInt64S_any u cy q hq0 hqm wr hrd hcl).mono ?_
        rintro e w' ⟨rfl, rfl⟩
        by_cases hqc : q < cy.length
        · rw [if_pos hqc]
          go_wp2
          go_ret
          exact ⟨_, rfl, .inl (by omega), rfl⟩
        · rw [if_neg hqc]
          go_wp2
          go_roundw
          case rel => exact ⟨k + 1, by omega, by go_num, ⟨q - cy.length, by rw [HFS.out, HQ.out]; push_cast; omega, by omega, rfl⟩, trivial⟩
          case measure => simp [intOf]; omega
      · have hke : k = us.length := by omega
        have hfl : flen XS k = XS.flatten.length := by unfold flen; rw [hke, HL.out, List.take_length]
        have HFL := Lib.hid hfl
        have HKE := Lib.hid hke
        clear hfl hke
        go_wp2
        go_ret
        exact ⟨q, rfl, .inr ⟨hq0, by have := HQ.out; have := HFL.out; have := HKE.out; have := HL.out; omega⟩, rfl⟩

/-! ### a copy -/
abbrev rowV (b n : Nat) : Value := .slice (some ⟨b, 0, none⟩) n n
/-- Rows of one's own, one behind another, and the row of them ahead. -/
def OwnSS (w : World) (lo hi : Nat) (v : Value) (XS : List (List Int)) : Prop :=
  ∃ (g : Nat) (bs : Nat → Nat), v = .slice (some ⟨g, 0, none⟩) XS.length XS.length ∧ lo ≤ g ∧ g < hi ∧ hi ≤ w.heap.size ∧
    ∀ (k : Nat) (xs : List Int), XS[k]? = some xs → w.cell? ⟨g, k, none⟩ = some (rowV (bs k) xs.length) ∧ OwnR iV 2 w (bs k) (bs k + 1) (rowV (bs k) xs.length) xs ∧ g < bs k ∧ bs k < hi ∧ ∀ j, j < k → bs j < bs k
theorem ownR_at {w : World} {base b n c : Nat} {xs : List Int} (h : Own iV 2 w base (.slice (some ⟨b, 0, none⟩) n c) xs) : OwnR iV 2 w b (b + 1) (.slice (some ⟨b, 0, none⟩) n c) xs := by
  refine ⟨⟨h.1, ?_⟩, fun k hk => by cases hk; exact Nat.lt_succ_self _⟩
  rcases h.2 with hn | ⟨g, cap, cur, e, hg, rest⟩
  · exact .inl hn
  · cases e
    exact .inr ⟨b, c, cur, rfl, Nat.le_refl _, rest⟩
theorem OwnSS.rd {w : World} {lo hi : Nat} {v : Value} {XS : List (List Int)} (h : OwnSS w lo hi v XS) : RdSS w v XS := by
  obtain ⟨g, bs, rfl, hg1, hg2, hg3, hk⟩ := h
  refine ⟨(List.range XS.length).map (fun k => rowV (bs k) ((XS[k]?).getD []).length), ⟨some ⟨g, 0, none⟩, XS.length, by simp, by simp, fun k u hu => ⟨_, rfl, by simp only; omega, ?_⟩⟩, by simp, fun k u xs hu hx => ?_⟩
  · have hkl : k < XS.length := by simpa using lt_of_get hu
    obtain ⟨xs, hxs⟩ := get_of_lt hkl
    rw [List.getElem?_map, List.getElem?_range hkl, Option.map_some, hxs] at hu
    cases hu
    have ea : (⟨g, 0, none⟩ : Addr).add k = ⟨g, k, none⟩ := by simp [Addr.add]; omega
    rw [ea]
    exact (hk k xs hxs).1
  · have hkl := lt_of_get hx
    rw [List.getElem?_map, List.getElem?_range hkl, Option.map_some, hx] at hu
    cases hu
    exact (hk k xs hx).2.1.rd
theorem OwnSS.below {w w' : World} {lo hi : Nat} {v : Value} {XS : List (List Int)} (h : OwnSS w lo hi v XS) (hb : Below w.heap.size w w') : OwnSS w' lo hi v XS := by
  obtain ⟨g, bs, rfl, hg1, hg2, hg3, hk⟩ := h
  exact ⟨g, bs, rfl, hg1, hg2, Nat.le_trans hg3 hb.size, fun k xs hx => by
    obtain ⟨a, b, c, d, e⟩ := hk k xs hx
    exact ⟨by rw [hb.cell (by simp only; omega)]; exact a, b.below hb, c, d, e⟩⟩
theorem OwnSS.mono {w : World} {lo lo' hi hi' : Nat} {v : Value} {XS : List (List Int)} (h : OwnSS w lo hi v XS) (h1 : lo' ≤ lo) (h2 : hi ≤ hi') (h3 : hi' ≤ w.heap.size) : OwnSS w lo' hi' v XS := by
  obtain ⟨g, bs, rfl, hg1, hg2, hg3, hk⟩ := h
  exact ⟨g, bs, rfl, by omega, by omega, h3, fun k xs hx => by
    obtain ⟨a, b, c, d, e⟩ := hk k xs hx
    exact ⟨a, b, c, by omega, e⟩⟩
theorem elSS_ : Elem Try.prog 34 36 (.slice none 0 0) 24 := ⟨Try.underlying34, by kernel_rfl, rfl⟩

set_option maxRecDepth 100000 in
set_option maxHeartbeats 1600000 in
theorem toInt64SS_any (v : Value) (XS : List (List Int)) (hX : XS.length ≤ 4000000) (hF : XS.flatten.length ≤ 4000000) (w : World) (hr : RdSS w v XS) :
    Calls Try.prog 20 #[v] w fun e w' => ∃ v', e = .returned v' ∧ OwnSS w' w.heap.size w'.heap.size v' XS ∧ Below w.heap.size w w' := by
  obtain ⟨us, hr, hl, hrs⟩ := hr
  have HRS := Lib.hid hrs
  have HL := Lib.hid hl
  have hul : us.length ≤ 4000000 := by omega
  obtain ⟨A, cap, rfl, hcap, hA⟩ := hr
  have HA := Lib.hid hA
  clear hA hrs hl
  go_enter Try.func20, Try.ntmps20
  go_wp2_with (at_make; go_loud (refine elSS_.make _ rfl _ _ rfl .i64 .i64 _ _ us.length rfl rfl rfl rfl (by omega) (by omega) ?_))
  intro w1 hown1 hb1 hs1
  go_wp2_with fail
  go_loopw [4] (fun si wr => ∃ (k : Nat) (vs : List Value) (bs : Nat → Nat), k ≤ us.length ∧ si = .int .i64 k ∧ vs.length = us.length ∧ wr.ownsRow w.heap.size 36 1 (.slice (some ⟨w.heap.size, 0, none⟩) us.length us.length) us.length vs ∧
      Hid (∀ (j : Nat) (xs : List Int), j < k → XS[j]? = some xs → wr.cell? ⟨w.heap.size, j, none⟩ = some (rowV (bs j) xs.length) ∧ OwnR iV 2 wr (bs j) (bs j + 1) (rowV (bs j) xs.length) xs ∧ w.heap.size < bs j ∧ bs j < wr.heap.size ∧ ∀ i, i < j → bs i < bs j) ∧
      w.heap.size < wr.heap.size ∧ Below w.heap.size w wr)
    (fun si _ => us.length - (intOf si).toNat)
  case atStart => exact ⟨0, _, fun _ => 0, by omega, rfl, by simp, hown1, (fun j xs hj => absurd hj (by omega)), by omega, hb1⟩
  case round =>
    clear hown1 hb1 hs1
    obtain ⟨k, vs, bs, hk, rfl, hvl, hrow, hcs, hsz, hb⟩ := hrel
    by_cases hlt : k < us.length
    · obtain ⟨u, hu⟩ := get_of_lt hlt
      obtain ⟨cy, hcy⟩ := get_of_lt (xs := XS) (k := k) (by rw [← HL.out]; exact hlt)
      obtain ⟨ad, rfl, hbl, hc⟩ := HA.out k u hu
      have hcu : wr.cell? (ad.add k) = some u := by rw [hb.cell (by rw [add_block]; exact hbl)]; exact hc
      have hrd := (HRS.out k u cy hu hcy).below hb
      have hcl : cy.length ≤ 4000000 := by
        have h2 := flat_le XS (k + 1)
        rw [flat_snoc hcy, List.length_append] at h2
        omega
      have HCY := Lib.hid hcy
      have HROW := Lib.hid hrow
      clear hu hcy hc hrow
      go_wp2_with fail
      refine (toInt64S_any u cy wr hrd (by omega)).mono ?_
      rintro e w2 ⟨v2, rfl, ho2, hb2, b, rfl⟩
      have hbb := ho2.lt b rfl
      have hrow2 : w2.ownsRow w.heap.size 36 1 (.slice (some ⟨w.heap.size, 0, none⟩) us.length us.length) us.length vs := own_below HROW.out hb2
      obtain ⟨z, hz⟩ := get_of_lt (xs := vs) (k := k) (by omega)
      have k0 := hrow2.cellAt k (by omega)
      rw [hz] at k0
      have f0 := hrow2.frozenAt k
      have hnew := (hrow2.stored k (rowV b cy.length)).1
      have hcs2 : ∀ (j : Nat) (xs : List Int), j < k + 1 → XS[j]? = some xs → (w2.setCell ⟨w.heap.size, k, none⟩ (rowV b cy.length)).cell? ⟨w.heap.size, j, none⟩ = some (rowV (if j = k then b else bs j) xs.length) ∧ OwnR iV 2 (w2.setCell ⟨w.heap.size, k, none⟩ (rowV b cy.length)) (if j = k then b else bs j) ((if j = k then b else bs j) + 1) (rowV (if j = k then b else bs j) xs.length) xs ∧ w.heap.size < (if j = k then b else bs j) ∧ (if j = k then b else bs j) < (w2.setCell ⟨w.heap.size, k, none⟩ (rowV b cy.length)).heap.size ∧ ∀ i, i < j → (if i = k then b else bs i) < (if j = k then b else bs j) := fun j xs hj hx => by
        have hts : Touch w.heap.size (w.heap.size + 1) w2 (w2.setCell ⟨w.heap.size, k, none⟩ (rowV b cy.length)) := ⟨rfl, rfl, rfl, by simp, fun q _ hq => Below.heap_setCell _ _ _ _ (by simp only; omega)⟩
        have hR : OwnR iV 2 (w2.setCell ⟨w.heap.size, k, none⟩ (rowV b cy.length)) b (b + 1) (rowV b cy.length) cy := (ownR_at ho2).touch hts (.inr (by have := hbb.1; omega))
        have hwb : w.heap.size < b := by have := hbb.1; omega
        have hz2 := hb2.size
        by_cases e : j = k
        · subst e
          rw [HCY.out] at hx
          cases hx
          simp only [if_true]
          refine ⟨World.cell?_setCell_same _ _ _ k0, hR, hwb, by simpa using hbb.2, fun i hi => ?_⟩
          rw [if_neg (by omega)]
          obtain ⟨xi, hxi⟩ := get_of_lt (xs := XS) (k := i) (by have := lt_of_get HCY.out; omega)
          have h4 := (hcs.out i xi (by omega) hxi).2.2.2.1
          have h5 := hbb.1
          omega
        · simp only [if_neg e]
          obtain ⟨a1, a2, a3, a4, a5⟩ := hcs.out j xs (by omega) hx
          refine ⟨?_, (a2.below hb2).touch hts (.inr (by omega)), a3, by simp; omega, fun i hi => by rw [if_neg (by omega)]; exact a5 i hi⟩
          rw [World.cell?_setCell_other _ _ _ _ (by intro h; apply e; injection h with _ h2; exact h2.symm), hb2.cell (by simp only; omega)]
          exact a1
      have hb3 : Below w.heap.size w (w2.setCell ⟨w.heap.size, k, none⟩ (rowV b cy.length)) := (below_to hb hb2 (by omega)).setCell (p := ⟨w.heap.size, k, none⟩) (Nat.le_refl _) _
      have HC2 := Lib.hid hcs2
      have HNEW := Lib.hid hnew
      have hsz2 : w.heap.size < (w2.setCell ⟨w.heap.size, k, none⟩ (rowV b cy.length)).heap.size := by have := hb2.size; simp; omega
      have HSZ2 := Lib.hid hsz2
      clear hcs2 hnew hsz2 hcs
      go_wp2
      go_roundw
      case rel => exact ⟨k + 1, _, fun j => if j = k then b else bs j, by omega, by go_num, by rw [List.length_set]; exact hvl, HNEW.out, HC2, HSZ2.out, hb3⟩
      case measure => simp [intOf]; omega
    · have hke : k = us.length := by omega
      have HKE := Lib.hid hke
      clear hke
      go_wp2
      go_ret
      refine ⟨_, rfl, ⟨w.heap.size, bs, by rw [HL.out]; rfl, Nat.le_refl _, hsz, Nat.le_refl _, fun j xs hx => ?_⟩, hb⟩
      obtain ⟨a1, a2, a3, a4, a5⟩ := hcs.out j xs (by have := lt_of_get hx; have := HL.out; have := HKE.out; omega) hx
      exact ⟨a1, a2, a3, a4, a5⟩

/-! ### alike -/
set_option maxRecDepth 100000 in
set_option maxHeartbeats 1600000 in
theorem eqInt64SS_any (v u : Value) (XS : List (List Int)) (hX : XS.length ≤ 4000000) (hF : XS.flatten.length ≤ 4000000) (w : World) (hr : RdSS w v XS) (hs : RdSS w u XS) :
    Calls Try.prog 23 #[v, u] w fun e w' => e = .returned (.bool true) ∧ Below w.heap.size w w' := by
  obtain ⟨us, hr, hl, hrs⟩ := hr
  obtain ⟨us2, hr2, hl2, hrs2⟩ := hs
  have HRS := Lib.hid hrs
  have HRS2 := Lib.hid hrs2
  have HL := Lib.hid hl
  have HL2 := Lib.hid hl2
  obtain ⟨A, cap, rfl, hcap, hA⟩ := hr
  obtain ⟨A2, cap2, rfl, hcap2, hA2⟩ := hr2
  have HA := Lib.hid hA
  have HA2 := Lib.hid hA2
  have hll : us2.length = us.length := by omega
  rw [hll] at hcap2 ⊢
  have hul : us.length ≤ 4000000 := by omega
  clear hA hA2 hrs hrs2 hl hl2 hll
  go_enter Try.func23, Try.ntmps23
  go_wp2_with fail
  go_loopw [5] (fun si wr => ∃ k : Nat, k ≤ us.length ∧ si = .int .i64 k ∧ Below w.heap.size w wr) (fun si _ => us.length - (intOf si).toNat)
  case atStart => exact ⟨0, by omega, rfl, Below.refl _ _⟩
  case round =>
    obtain ⟨k, hk, rfl, hb⟩ := hrel
    by_cases hlt : k < us.length
    · obtain ⟨a, ha⟩ := get_of_lt hlt
      obtain ⟨b, hbk⟩ := get_of_lt (xs := us2) (k := k) (by have := HL.out; have := HL2.out; omega)
      obtain ⟨cy, hcy⟩ := get_of_lt (xs := XS) (k := k) (by rw [← HL.out]; exact hlt)
      obtain ⟨ad, rfl, hbl, hc⟩ := HA.out k a ha
      obtain ⟨ad2, rfl, hbl2, hc2⟩ := HA2.out k b hbk
      have hca : wr.cell? (ad.add k) = some a := by rw [hb.cell (by rw [add_block]; exact hbl)]; exact hc
      have hcb : wr.cell? (ad2.add k) = some b := by rw [hb.cell (by rw [add_block]; exact hbl2)]; exact hc2
      have hra := (HRS.out k a cy ha hcy).below hb
      have hrb := (HRS2.out k b cy hbk hcy).below hb
      have hcl : cy.length ≤ 4000000 := by
        have h2 := flat_le XS (k + 1)
        rw [flat_snoc hcy, List.length_append] at h2
        omega
      have hk0 : (0 : Int) ≤ (k : Int) := by omega
      have hk1 : (k : Int) < (us.length : Int) := by omega
      have hEQ : ∀ V : World, V.heap = wr.heap → Calls Try.prog 22 #[a, b] V fun e w' => e = .returned (.bool true) ∧ ∃ n, V.drewN n = w' := fun V hV =>
        eqInt64S_any a b cy cy V (by unfold Rd World.cell? at hra ⊢; rw [hV]; exact hra) (by unfold Rd World.cell? at hrb ⊢; rw [hV]; exact hrb) (by omega) (by omega) rfl
      have HEQ := Lib.hid hEQ
      clear ha hbk hcy hc hc2 hra hrb hEQ
      go_wp2_with fail
      go_region_with (go_at_call 22; refine (HEQ.out _ ?_).mono ?_; rfl; rintro e w' ⟨rfl, q, rfl⟩)
      all_goals
        go_wp2
        go_roundw
        case rel => exact ⟨k + 1, by omega, by go_num, below_drewN_ hb⟩
        case measure => simp [intOf]; omega
    · go_wp2
      go_ret
      exact ⟨rfl, hb⟩

/-! ### marked -/
set_option maxRecDepth 100000 in
set_option maxHeartbeats 1600000 in
theorem markInt64SS_any (v : Value) (XS : List (List Int)) (j : Int) (lo hi : Nat) (hj0 : 0 ≤ j) (hj : j ≤ 1048576) (hX : XS.length ≤ 4000000) (hF : XS.flatten.length ≤ 4000000) (w : World) (hr : OwnSS w lo hi v XS) :
    Calls Try.prog 24 #[v, .int .i64 j] w fun e w' => ∃ q : Int, e = .returned (.int .i64 q) ∧ 0 ≤ q ∧ Touch lo hi w w' := by
  obtain ⟨g, bs, rfl, hg1, hg2, hg3, hks⟩ := hr
  have HK := Lib.hid hks
  clear hks
  go_enter Try.func24, Try.ntmps24
  go_wp2_with fail
  go_loopw [1, 5] (fun sj si wr => ∃ (k t : Nat) (q : Int), k ≤ XS.length ∧ si = .int .i64 k ∧ sj = .int .i64 q ∧ Hid (q = j + flen XS k) ∧ g < t ∧ t ≤ hi ∧ Hid (∀ (i : Nat) (xs : List Int), k ≤ i → XS[i]? = some xs → t ≤ bs i) ∧ Touch (g + 1) t w wr)
    (fun _ si _ => XS.length - (intOf si).toNat)
  case atStart => exact ⟨0, g + 1, j, by omega, rfl, rfl, by unfold Hid; simp [flen], by omega, by omega, (fun i xs _ hx => by have := (HK.out i xs hx).2.2.1; omega), ⟨rfl, rfl, rfl, Nat.le_refl _, fun _ _ _ => rfl⟩⟩
  case round =>
    obtain ⟨k, t, q, hk, rfl, rfl, hq, ht1, ht2, hts, hT⟩ := hrel
    have hfk : flen XS k ≤ 4000000 := flen_le k hF
    have hq0 : 0 ≤ q := by have := hq.out; omega
    have hq1 : q ≤ 8000000 := by have := hq.out; omega
    by_cases hlt : k < XS.length
    · obtain ⟨cy, hcy⟩ := get_of_lt hlt
      obtain ⟨a1, a2, a3, a4, a5⟩ := HK.out k cy hcy
      have htk := hts.out k cy (Nat.le_refl _) hcy
      have hck : wr.cell? ⟨g, k, none⟩ = some (rowV (bs k) cy.length) := by rw [hT.cell (by simp only; omega) (.inl (by simp only; omega))]; exact a1
      have hown := a2.touch hT (.inr htk)
      have hcl : cy.length ≤ 4000000 := by
        have h2 := flat_le XS (k + 1)
        rw [flat_snoc hcy, List.length_append] at h2
        omega
      have hbk : bs k < wr.heap.size := by have := hT.size; omega
      have HFS := Lib.hid (flen_snoc hcy)
      have HCY := Lib.hid hcy
      clear hcy a1 a2
      go_wp2_with fail
      refine (markInt64S_any _ cy q hq0 (by omega) (bs k) wr hown.own (by omega) (by omega)).mono ?_
      rintro e w2 ⟨rfl, om, hgr⟩
      have hT2 : Touch (g + 1) (bs k + 1) w w2 := (hT.mono (Nat.le_refl _) (by omega)).trans ((Touch.of_grown (lo := bs k) (hi := bs k + 1) hgr (fun i he => by have := Option.some.inj (show some (bs k) = some i from he); omega)).mono (by omega) (Nat.le_refl _))
      go_wp2
      go_roundw
      case rel =>
        refine ⟨k + 1, bs k + 1, q + cy.length, by omega, by go_num, ?_, ?_, by omega, by omega, fun i xs hi hx => ?_, hT2⟩
        · first | rfl | go_num
        · show q + cy.length = j + (flen XS (k + 1) : Nat)
          rw [HFS.out, hq.out]; push_cast; omega
        · have := (HK.out i xs hx).2.2.2.2 k (by omega)
          omega
      case measure => simp [intOf]; omega
    · go_wp2
      go_ret
      exact ⟨q, rfl, hq0, hT.mono (by omega) ht2⟩

/-! ### an argument opened -/
section
open Go.WideShapes Go.ChangeShapes Go.Deep
variable {H : Type} {enc : TypeId × Value → H} {P : Program} {w : World} {base : Nat} {spare : Nat → Bool} {held : Bool}
theorem rdSS_of_trod {t e e0 : TypeId} {A : Option Addr} {len cap : Nat} {d : DataW H} {ps : List MemPlace} (ht : P.underlying t = some (.slice e)) (hc : P.cellsOf e = 1) (he : P.underlying e = some (.slice e0)) (hc0 : P.cellsOf e0 = 1) (h0 : P.underlying e0 = some (.int .i64))
    (h : DataW.Trod enc P w base spare held t (.slice A len cap) d ps) : ∃ XS : List (List Int), RdSS w (.slice A len cap) XS ∧ XS.length ≤ 9223372036854775807 ∧ ∀ c ∈ XS, c.length ≤ 9223372036854775807 := by
  obtain ⟨fuel, hf⟩ := h
  rcases open_slice1 ht hc hf with ⟨hcs, _⟩ | ⟨a, len', cap', m, n, V, D, Pl, hcs, _, hl, hm1, hm, _, hx⟩
  · simp [Value.cells] at hcs
    obtain ⟨rfl, rfl, rfl⟩ := hcs
    exact ⟨[], ⟨[], Rd.nil, rfl, fun k u xs hu _ => by simp at hu⟩, by simp, by simp⟩
  · simp [Value.cells] at hcs
    obtain ⟨rfl, rfl, rfl⟩ := hcs
    have hlm : len ≤ m := by rw [hm]; split <;> omega
    obtain ⟨X, hX⟩ := choose_lt (α := List Int) (n := len) (p := fun i xs => Rd iV w (V i) xs ∧ xs.length ≤ 9223372036854775807) (fun i hi => rd_of_cell iV he hc0 (elem_int h0) (hx i (by omega)).2)
    refine ⟨(List.range len).map X, ⟨(List.range len).map V, ⟨some a, cap, by simp, by simpa using hl, fun k x hk => ⟨a, rfl, ?_, ?_⟩⟩, by simp, fun k u xs hu hxs => ?_⟩, by unfold maxLen at hm1; simp; omega, fun c hc => ?_⟩
    · have hkl : k < len := by simpa using lt_of_get hk
      have := World.block_lt_of_cell? w _ (hx k (by omega)).1
      rwa [add_block] at this
    · have hkl : k < len := by simpa using lt_of_get hk
      rw [List.getElem?_map, List.getElem?_range hkl] at hk
      simp only [Option.map_some, Option.some.injEq] at hk
      subst hk
      exact (hx k (by omega)).1
    · have hkl : k < len := by simpa using lt_of_get hu
      rw [List.getElem?_map, List.getElem?_range hkl] at hu hxs
      simp only [Option.map_some, Option.some.injEq] at hu hxs
      subst hu; subst hxs
      exact (hX k hkl).1
    · obtain ⟨k, hk, rfl⟩ := List.mem_map.1 hc
      exact (hX k (List.mem_range.1 hk)).2
end
end Go.Proofs.Ythdnelfggmlalaa
