/-
  The walks of spec.l04Order and spec.OrderOfCycles.
-/
import Derived.Test.YthdnelfggmlalaaOrdC
import Derived.Test.YthdnelfggmlalaaBools
import Derived.Test.YthdnelfggmlalaaFq
namespace Go.Proofs.Ythdnelfggmlalaa
open Go.RowKit

theorem isOrd_no_in {xs : List Int} {k : Nat} {x : Int} (hx : xs[k]? = some x) (h : inB x 0 ((xs.length : Int) - 1) = false) : isOrd xs = false := by
  unfold isOrd
  rw [show (xs.all fun x => inB x 0 ((xs.length : Int) - 1)) = false from by rw [List.all_eq_false]; exact ⟨x, List.mem_of_getElem? hx, by simp [h]⟩]
  simp
theorem isOrd_no_dup {xs : List Int} {k : Nat} {x : Int} (hx : xs[k]? = some x) (h : x ∈ xs.take k) : isOrd xs = false := by
  unfold isOrd
  rw [show decide xs.Nodup = false from decide_eq_false fun hn => by
    have h1 := (List.take_sublist (k + 1) xs).nodup hn
    rw [take_snoc hx, List.nodup_append] at h1
    exact h1.2.2 x h x (by simp) rfl]
  simp
theorem isOrd_yes {xs : List Int} (h0 : inB xs.length 1 64 = true) (h1 : ∀ x ∈ xs, inB x 0 ((xs.length : Int) - 1) = true) (h2 : xs.Nodup) : isOrd xs = true := by
  unfold isOrd
  rw [h0, List.all_eq_true.2 h1, decide_eq_true h2]
  rfl
theorem nodup_snoc {xs : List Int} {k : Nat} {x : Int} (hx : xs[k]? = some x) (h : (xs.take k).Nodup) (hn : ¬ x ∈ xs.take k) : (xs.take (k + 1)).Nodup := by
  rw [take_snoc hx, List.nodup_append]
  refine ⟨h, by simp, fun a ha b hb e => ?_⟩
  simp at hb
  subst hb; subst e
  exact hn ha
def seenR (xs : List Int) (L k : Nat) : List Bool := (List.range L).map fun j : Nat => decide ((j : Int) ∈ xs.take k)
theorem seenR_len (xs : List Int) (L k : Nat) : (seenR xs L k).length = L := by simp [seenR]
theorem seenR_zero (xs : List Int) (L : Nat) : List.replicate L (Value.bool false) = (seenR xs L 0).map bV := by
  apply List.ext_getElem?
  intro j
  unfold seenR
  rw [List.getElem?_replicate, List.getElem?_map, List.getElem?_map]
  rcases Nat.lt_or_ge j L with h | h
  · rw [List.getElem?_range h, if_pos h]; simp
  · rw [List.getElem?_eq_none (by simpa using h), if_neg (by omega)]; rfl
theorem seenR_at {xs : List Int} {L k j : Nat} (h : j < L) : (seenR xs L k)[j]? = some (decide ((j : Int) ∈ xs.take k)) := by
  unfold seenR
  rw [List.getElem?_map, List.getElem?_range h]; rfl
theorem seenR_set {xs : List Int} {L k X : Nat} (hx : xs[k]? = some (X : Int)) : (seenR xs L k).set X true = seenR xs L (k + 1) := by
  apply List.ext_getElem?
  intro j
  rw [List.getElem?_set, seenR_len]
  by_cases e : X = j
  · subst e
    rw [if_pos rfl]
    by_cases h : X < L
    · rw [if_pos h, seenR_at h, take_snoc hx]; simp
    · rw [if_neg h, List.getElem?_eq_none (by rw [seenR_len]; omega)]
  · rw [if_neg e]
    rcases Nat.lt_or_ge j L with h | h
    · rw [seenR_at h, seenR_at h, take_snoc hx]
      congr 1
      rw [decide_eq_decide, List.mem_append]
      constructor
      · exact Or.inl
      · rintro (h | h)
        · exact h
        · simp at h; omega
    · rw [List.getElem?_eq_none (by rw [seenR_len]; exact h), List.getElem?_eq_none (by rw [seenR_len]; exact h)]

set_option maxRecDepth 100000 in
set_option maxHeartbeats 1000000 in
theorem l04Order_any (v : Value) (xs : List Int) (hn : xs.length ≤ 4000000) (w : World) (hr : Rd iV w v xs) :
    Calls Try.prog 50 #[v] w fun e w' => e = .returned (.bool (isOrd xs)) ∧ Below w.heap.size w w' := by
  have HR := Lib.hid hr
  obtain ⟨A, cap, rfl, hcap, hA⟩ := hr
  have HA := Lib.hid hA
  clear hA
  cases hs : inB (xs.length : Int) 1 64
  · go_enter Try.func50, Try.ntmps50
    go_wp2_with (go_at_call 41; refine (count1_any _ _).mono ?_; rintro e w' ⟨rfl, rfl⟩; rw [hs])
    go_ret
    exact ⟨ret_bool (by unfold isOrd; rw [hs]; rfl), Below.refl _ _⟩
  have h1 : 1 ≤ xs.length ∧ xs.length ≤ 64 := by
    simp only [inB, decide_eq_true_eq] at hs; omega
  have HS := Lib.hid hs
  obtain ⟨L, hL⟩ : ∃ L, L = xs.length := ⟨_, rfl⟩
  have HL := Lib.hid hL
  have hL1 : IntKind.i64.wrap ((xs.length : Int) - 1) = (xs.length : Int) - 1 := IntWalk.i64_in _ (by omega)
  clear hL
  go_enter Try.func50, Try.ntmps50
  go_wp2_with fail
  refine (count1_any _ _).mono ?_
  rintro e w' ⟨rfl, rfl⟩
  rw [hs]
  go_wp2_with (at_make; go_loud (refine elB_.make _ rfl _ _ rfl .i64 .i64 _ _ xs.length rfl rfl rfl rfl (by omega) (by omega) ?_))
  intro w1 hown1 hb1 hs1
  rw [seenR_zero xs] at hown1
  go_wp2_with fail
  go_loopw [4] (fun si wr => ∃ k : Nat, k ≤ xs.length ∧ si = .int .i64 k ∧ wr.ownsRow w.heap.size 4 1 (.slice (some ⟨w.heap.size, 0, none⟩) xs.length xs.length) xs.length ((seenR xs xs.length k).map bV) ∧ Hid (∀ x ∈ xs.take k, inB x 0 ((xs.length : Int) - 1) = true) ∧ Hid (xs.take k).Nodup ∧ Below w.heap.size w wr)
    (fun si _ => xs.length - (intOf si).toNat)
  case atStart => exact ⟨0, by omega, rfl, hown1, (fun x hx => by simp at hx), (by unfold Hid; simp), hb1⟩
  case round =>
    clear hown1 hb1 hs1
    obtain ⟨k, hk, rfl, hrow, hall, hnd, hb⟩ := hrel
    by_cases hlt : k < xs.length
    · obtain ⟨x, hx⟩ := get_of_lt hlt
      obtain ⟨ad, rfl, hbl, hc⟩ := HA.out k x hx
      have hci : wr.cell? (ad.add k) = some (iV x) := by rw [hb.cell (by rw [add_block]; exact hbl)]; exact hc
      have HX := Lib.hid hx
      clear hx hc
      cases hi : inB x 0 ((xs.length : Int) - 1)
      · have HI := Lib.hid hi
        go_wp2_with (go_at_call 62; refine (l00In_any _ _ _ _).mono ?_; rintro e w' ⟨rfl, rfl⟩; rw [hi])
        go_ret
        exact ⟨ret_bool (isOrd_no_in HX.out HI.out).symm, hb⟩
      · have hxb : 0 ≤ x ∧ x < xs.length := by
          simp only [inB, decide_eq_true_eq] at hi; omega
        have HI := Lib.hid hi
        obtain ⟨X, rfl⟩ : ∃ X : Nat, x = (X : Int) := ⟨x.toNat, by omega⟩
        have o1 := hrow.cellAt X (by simp; omega)
        rw [List.getElem?_map, seenR_at (by omega), Option.map_some] at o1
        have f1 := hrow.frozenAt X
        by_cases hm : (X : Int) ∈ xs.take k
        · have HMM := Lib.hid hm
          rw [decide_eq_true hm] at o1
          clear hm
          go_wp2_with (go_at_call 62; refine (l00In_any _ _ _ _).mono ?_; rintro e w' ⟨rfl, rfl⟩; rw [hi])
          go_ret
          exact ⟨ret_bool (isOrd_no_dup HX.out HMM.out).symm, hb⟩
        · have HMM := Lib.hid hm
          rw [decide_eq_false hm] at o1
          have hnew := (hrow.stored X (bV true)).1
          rw [← List.map_set, seenR_set HX.out] at hnew
          have HNEW := Lib.hid hnew
          have hbn : Below w.heap.size w (wr.setCell ⟨w.heap.size, X, none⟩ (bV true)) := hb.setCell (p := ⟨w.heap.size, X, none⟩) (Nat.le_refl _) _
          clear hm hrow hnew
          go_wp2_with (go_at_call 62; refine (l00In_any _ _ _ _).mono ?_; rintro e w' ⟨rfl, rfl⟩; rw [hi])
          go_roundw
          case rel =>
            refine ⟨k + 1, by omega, by go_num, HNEW.out, fun y hy => ?_, nodup_snoc HX.out hnd.out HMM.out, hbn⟩
            rw [take_snoc HX.out, List.mem_append] at hy
            rcases hy with hy | hy
            · exact hall.out y hy
            · simp at hy; subst hy; exact HI.out
          case measure => simp [intOf]; omega
    · have hke : k = xs.length := by omega
      have hyes : isOrd xs = true := isOrd_yes HS.out (by have := hall.out; rwa [hke, List.take_length] at this) (by have := hnd.out; rwa [hke, List.take_length] at this)
      have HY := Lib.hid hyes
      clear hyes hke
      go_wp2
      go_ret
      exact ⟨ret_bool HY.out.symm, hb⟩

theorem cycB_no_len {XS : List (List Int)} {n : Int} (h : ¬ (XS.flatten.length : Int) = n) : cycB XS n = false := by unfold cycB; rw [decide_eq_false h]; rfl
theorem cycB_no_ord {XS : List (List Int)} {n : Int} (h : isOrd XS.flatten = false) : cycB XS n = false := by unfold cycB; rw [h]; simp
theorem cycB_no_emp {XS : List (List Int)} {n : Int} {k : Nat} {c : List Int} (hc : XS[k]? = some c) (h : c.length = 0) : cycB XS n = false := by
  unfold cycB
  rw [List.any_eq_true.2 ⟨c, List.mem_of_getElem? hc, decide_eq_true h⟩]
  simp
theorem cycB_no_size {XS : List (List Int)} {n : Int} (h : inB n 1 64 = false) : cycB XS n = false := by
  by_cases e : (XS.flatten.length : Int) = n
  · refine cycB_no_ord ?_
    unfold isOrd
    rw [e, h]; rfl
  · exact cycB_no_len e
theorem cycB_yes {XS : List (List Int)} {n : Int} (h1 : (XS.flatten.length : Int) = n) (h2 : isOrd XS.flatten = true) (h3 : ∀ c ∈ XS, ¬ c.length = 0) : cycB XS n = true := by
  unfold cycB
  rw [decide_eq_true h1, h2, show (XS.any fun c => decide (c.length = 0)) = false from List.any_eq_false.2 (fun c hc => by simpa using h3 c hc)]
  rfl

set_option maxRecDepth 100000 in
set_option maxHeartbeats 2000000 in
theorem specCyc_any (v : Value) (XS : List (List Int)) (n : Int) (hX : XS.length ≤ 4000000) (hF : XS.flatten.length ≤ 4000000) (w : World) (hr : RdSS w v XS) :
    Calls Try.prog 19 #[v, .int .i64 n] w (RetCyc XS n w) := by
  obtain ⟨us, hr, hl, hrs⟩ := hr
  have HR := Lib.hid hr
  have HRS := Lib.hid hrs
  have HL := Lib.hid hl
  have hul : us.length ≤ 4000000 := by omega
  obtain ⟨A, cap, rfl, hcap, hA⟩ := hr
  have HA := Lib.hid hA
  clear hA hrs hl
  cases hs : inB n 1 64
  · go_enter Try.func19, Try.ntmps19
    go_wp2_with (go_at_call 41; refine (count1_any _ _).mono ?_; rintro e w' ⟨rfl, rfl⟩; rw [hs])
    go_ret2
    exact RetCyc.no (cycB_no_size hs) (Below.refl _ _)
  have hn1 : 1 ≤ n ∧ n ≤ 64 := by
    simp only [inB, decide_eq_true_eq] at hs; omega
  go_enter Try.func19, Try.ntmps19
  go_wp2_with fail
  refine (count1_any _ _).mono ?_
  rintro e w' ⟨rfl, rfl⟩
  rw [hs]
  have o0 := own_nil_new iV w 2
  go_wp2_with fail
  go_loopw [6, 7] (fun so si wr => ∃ k : Nat, k ≤ us.length ∧ si = .int .i64 k ∧ Own iV 2 wr w.heap.size so (XS.take k).flatten ∧ Hid (∀ c ∈ XS.take k, ¬ c.length = 0) ∧ Below w.heap.size w wr)
    (fun _ si _ => us.length - (intOf si).toNat)
  case atStart => exact ⟨0, by omega, rfl, o0, (fun c hc => by simp at hc), (Below.refl _ _).alloc (Nat.le_refl _) _⟩
  case round =>
    clear o0
    obtain ⟨k, hk, rfl, ho, hne, hb⟩ := hrel
    have HO := Lib.hid ho
    obtain ⟨A1, c1, rfl, hc1, -⟩ := ho.rd
    have hfl : (XS.take k).flatten.length ≤ 4000000 := Nat.le_trans (flat_le XS k) hF
    obtain ⟨m, hm⟩ : ∃ m, m = (XS.take k).flatten.length := ⟨_, rfl⟩
    have HM := Lib.hid hm
    rw [← hm] at hc1 hfl ⊢
    have hzb := hb.size
    clear ho hm
    by_cases hlt : k < us.length
    · obtain ⟨u, hu⟩ := get_of_lt hlt
      obtain ⟨cy, hcy⟩ := get_of_lt (xs := XS) (k := k) (by rw [← HL.out]; exact hlt)
      obtain ⟨ad, rfl, hbl, hc⟩ := HA.out k u hu
      have hcu : wr.cell? (ad.add k) = some u := by rw [hb.cell (by rw [add_block]; exact hbl)]; exact hc
      have hrdu := Lib.hid ((HRS.out k u cy hu hcy).below hb)
      obtain ⟨B, cc, rfl, hcc, -⟩ := HRS.out k u cy hu hcy
      have HCY := Lib.hid hcy
      have hcl : cy.length ≤ 4000000 := by
        have h2 := flat_le XS (k + 1)
        rw [flat_snoc hcy, List.length_append] at h2
        omega
      clear hu hc hcy
      by_cases hmn : (m : Int) ≤ n
      · have hdm : decide ((m : Int) ≤ n) = true := decide_eq_true hmn
        by_cases hz : cy.length = 0
        · have HZ := Lib.hid hz
          have hd : ((cy.length : Int) == 0) = true := by simp [hz]
          clear hz
          go_wp2
          go_ret2
          exact RetCyc.no (cycB_no_emp HCY.out HZ.out) hb
        · have HZ := Lib.hid hz
          have hd : ((cy.length : Int) == 0) = false := by simp; intro h; exact hz (by simp [h])
          clear hz
          have hom : Own iV 2 wr w.heap.size (.slice A1 m c1) (XS.take k).flatten := by have := HO.out; rw [← HM.out] at this; exact this
          have HOM := Lib.hid hom
          clear hom
          go_wp2_with (at_builtin; refine elI_.app one_iV _ rfl (.tmp 34) (.tmp 38) rfl w.heap.size _ (XS.take k).flatten rfl HOM.out _ cy rfl hrdu.out (by omega) (by have := HM.out; omega) hzb ?_)
          intro v2 w2 ho3 hg3 hb6 _
          rw [← flat_snoc HCY.out] at ho3
          go_wp2
          go_roundw
          case rel =>
            refine ⟨k + 1, by omega, by go_num, ho3, fun c hc => ?_, hb.trans hb6⟩
            rw [take_snoc HCY.out, List.mem_append] at hc
            rcases hc with hc | hc
            · exact hne.out c hc
            · simp at hc; subst hc; exact HZ.out
          case measure => simp [intOf]; omega
      · have hdm : decide ((m : Int) ≤ n) = false := decide_eq_false hmn
        have hd : ((m : Int) != n) = true := by simp; omega
        have hd2 : ((m : Int) == n) = false := by simp; omega
        have hB : cycB XS n = false := cycB_no_len (by have := flat_le XS k; have := HM.out; omega)
        have HB := Lib.hid hB
        clear hB
        go_wp2
        go_ret2
        exact RetCyc.no HB.out hb
    · have hke : k = us.length := by omega
      have htk : XS.take k = XS := by rw [hke, HL.out, List.take_length]
      have hm2 : m = XS.flatten.length := by rw [HM.out, htk]
      have hne2 := hne.out
      rw [htk] at hne2
      have HO2 : Hid (Own iV 2 wr w.heap.size (.slice A1 m c1) XS.flatten) := Lib.hid (by have := HO.out; rw [← HM.out, htk] at this; exact this)
      have HNE := Lib.hid hne2
      have HM2 := Lib.hid hm2
      clear htk hm2 hne2 hke
      by_cases hmn : (m : Int) = n
      case neg =>
        have hd : ((m : Int) != n) = true := by simp [hmn]
        have hd2 : ((m : Int) == n) = false := by simp [hmn]
        have hB : cycB XS n = false := cycB_no_len (by rw [← HM2.out]; exact hmn)
        have HB := Lib.hid hB
        clear hB hmn
        go_wp2
        go_ret2
        exact RetCyc.no HB.out hb
      case pos =>
        subst hmn
        have hd : ((m : Int) != (m : Int)) = false := by simp
        go_wp2_with fail
        refine (l04Order_any _ XS.flatten (by rw [← HM2.out]; omega) wr HO2.out.rd).mono ?_
        rintro e w3 ⟨rfl, hb2⟩
        have hb3 := below_to hb hb2 hzb
        cases ho : isOrd XS.flatten
        · have HB := Lib.hid (cycB_no_ord (n := (m : Int)) ho)
          go_wp2
          go_ret2
          exact RetCyc.no HB.out hb3
        · have HB := Lib.hid (cycB_yes (n := (m : Int)) (by rw [← HM2.out]) ho HNE.out)
          obtain ⟨hp1, hp2, hp3⟩ := isOrd_parts ho
          rw [← HM2.out] at hp1 hp2 hp3
          have HP3 := Lib.hid hp3
          clear hp3
          go_wp2_with (at_make; go_loud (refine elI_.make _ rfl _ _ rfl .i64 .i64 _ _ m rfl rfl rfl rfl (by omega) (by omega) ?_))
          intro w4 hown4 hb4 hs4
          rw [show List.replicate m (Value.int .i64 0) = (ordTo XS m 0).map iV by show _ = (List.replicate m (0 : Int)).map iV; rw [List.map_replicate]] at hown4
          have hz3 : w.heap.size ≤ w3.heap.size := hb3.size
          have hR : cycR XS m = ordTo XS m XS.length := by unfold cycR; rw [HB.out, Int.toNat_natCast]; rfl
          have HRR := Lib.hid hR
          clear hR
          go_wp2_with fail
          go_loopw [9] (fun si wr => ∃ k : Nat, k ≤ us.length ∧ si = .int .i64 k ∧ wr.ownsRow w3.heap.size 2 1 (.slice (some ⟨w3.heap.size, 0, none⟩) m m) m ((ordTo XS m k).map iV) ∧ Below w3.heap.size w3 wr)
            (fun si _ => us.length - (intOf si).toNat)
          case atStart => exact ⟨0, by omega, rfl, hown4, hb4⟩
          case round =>
            clear hown4 hb4 hs4
            obtain ⟨k, hk, rfl, hrow, hb⟩ := hrel
            have hbw : Below w.heap.size w wr := below_to hb3 hb hz3
            by_cases hlt : k < us.length
            · obtain ⟨u, hu⟩ := get_of_lt hlt
              obtain ⟨cy, hcy⟩ := get_of_lt (xs := XS) (k := k) (by rw [← HL.out]; exact hlt)
              obtain ⟨ad, rfl, hbl, hc⟩ := HA.out k u hu
              have hcu : wr.cell? (ad.add k) = some u := by rw [hbw.cell (by rw [add_block]; exact hbl)]; exact hc
              obtain ⟨B, cc, rfl, hcc, hB⟩ := HRS.out k u cy hu hcy
              have HBB := Lib.hid hB
              have hos := ordTo_succ (n := m) hcy
              have HOS := Lib.hid hos
              have HCY := Lib.hid hcy
              have hcl : cy.length ≤ m := by
                have h := flat_snoc hcy
                have h2 := flat_le XS (k + 1)
                rw [h, List.length_append, ← HM2.out] at h2
                omega
              clear hu hc hB hos hcy
              go_wp2_with fail
              go_loopw [11] (fun si wq => ∃ i : Nat, i ≤ cy.length ∧ si = .int .i64 i ∧ wq.ownsRow w3.heap.size 2 1 (.slice (some ⟨w3.heap.size, 0, none⟩) m m) m ((cycTo cy (ordTo XS m k) i).map iV) ∧ Below w3.heap.size w3 wq)
                (fun si _ => cy.length - (intOf si).toNat)
              case atStart => exact ⟨0, by omega, rfl, hrow, hb⟩
              case round =>
                clear hrow hb hcu hbw
                obtain ⟨i, hi, rfl, hrow, hb⟩ := hrel
                have hbw : Below w.heap.size w wr := below_to hb3 hb hz3
                by_cases hli : i < cy.length
                · obtain ⟨x, hx⟩ := get_of_lt hli
                  have hj : (i + 1) % cy.length < cy.length := Nat.mod_lt _ (by omega)
                  obtain ⟨y, hy⟩ := get_of_lt hj
                  have hst := cycTo_succ (o := ordTo XS m k) hx hy
                  have hxin := HP3.out x (mem_flat HCY.out hx)
                  obtain ⟨ab, rfl, habl, hcx⟩ := HBB.out i x hx
                  obtain ⟨_, e, _, hcy2⟩ := HBB.out _ y hy
                  cases e
                  have hmod : Int.tmod ((i : Int) + 1) (cy.length : Int) = (((i + 1) % cy.length : Nat) : Int) := by rw [Int.tmod_eq_emod_of_nonneg (by omega)]; push_cast; rfl
                  have hcl0 : (cy.length : Int) ≠ 0 := by omega
                  generalize (i + 1) % cy.length = j at *
                  have hcx2 : wr.cell? (ab.add i) = some (iV x) := by rw [hbw.cell (by rw [add_block]; exact habl)]; exact hcx
                  have hcy3 : wr.cell? (ab.add j) = some (iV y) := by rw [hbw.cell (by rw [add_block]; exact habl)]; exact hcy2
                  obtain ⟨X, rfl⟩ : ∃ X : Nat, x = (X : Int) := ⟨x.toNat, by omega⟩
                  rw [Int.toNat_natCast] at hst
                  have o1 := hrow.cellAt X (by simp; omega)
                  obtain ⟨z, hz⟩ := get_of_lt (xs := cycTo cy (ordTo XS m k) i) (k := X) (by rw [cycTo_len, ordTo_len]; omega)
                  rw [List.getElem?_map, hz, Option.map_some] at o1
                  have f1 := hrow.frozenAt X
                  have hnew : ∀ nq, ((wr.drewN nq).setCell ⟨w3.heap.size, X, none⟩ (iV y)).ownsRow w3.heap.size 2 1 (.slice (some ⟨w3.heap.size, 0, none⟩) m m) m ((cycTo cy (ordTo XS m k) (i + 1)).map iV) := fun nq => by
                    have h := ((World.ownsRow.drewN' hrow nq).stored X (iV y)).1
                    rw [← List.map_set, ← hst] at h
                    exact h
                  have hb2x : ∀ nq, Below w3.heap.size w3 ((wr.drewN nq).setCell ⟨w3.heap.size, X, none⟩ (iV y)) := fun nq => (below_drewN_ hb).setCell (p := ⟨w3.heap.size, X, none⟩) (Nat.le_refl _) _
                  have HB2X := Lib.hid hb2x
                  have hi0 : (0 : Int) ≤ (i : Int) := by omega
                  have hi1 : (i : Int) < (cy.length : Int) := by omega
                  have hj0 : (0 : Int) ≤ (j : Int) := by omega
                  have hj1 : (j : Int) < (cy.length : Int) := by omega
                  have HNEW := Lib.hid hnew
                  clear hx hy hst hrow hcx hcy2 hz hnew hb2x
                  go_wp2
                  refine wp_region_fq 14 (fun _ _ _ => True) (by kernel_rfl) (by kernel_rfl) ?_
                  simp only [List.take, List.drop]
                  repeat (first | (refine wpFq_one (by rfl) ?_; go_big_quiet_step (fail); refine wpQuiet_nil ?_) | (refine wpFq_nilc (by rfl) _ rfl _ (by rfl) ?_; simp only [Act.put, List.setIfInBounds_toArray, List.set_cons_zero, List.set_cons_succ]) | (refine wpFq_fl (by rfl) _ _ _ _ _ rfl (by rfl) _ _ _ (by rfl) (by rfl) ?_; intro fb hfb; simp only [Act.put, List.setIfInBounds_toArray, List.set_cons_zero, List.set_cons_succ]) | (refine wpFq_up (by rfl) _ _ _ rfl (by kernel_rfl) (by kernel_rfl) _ (by rfl) ?_; intro fb hfb; simp only [Act.put, List.setIfInBounds_toArray, List.set_cons_zero, List.set_cons_succ]))
                  refine wpFq_nil ?_
                  intro nq
                  go_wp2
                  go_roundw
                  case rel => exact ⟨i + 1, by omega, by go_num, HNEW.out nq, HB2X.out nq⟩
                  case measure => simp [intOf]; omega
                · have hie : i = cy.length := by omega
                  rw [hie, ← HOS.out] at hrow
                  have HROW := Lib.hid hrow
                  clear hrow hie
                  go_wp2
                  go_roundw
                  case rel => exact ⟨k + 1, by omega, by go_num, HROW.out, hb⟩
                  case measure => simp [intOf]; omega
            · have hke : k = us.length := by omega
              rw [hke, HL.out, ← HRR.out] at hrow
              have hNl : (cycR XS m).length = m := by rw [HRR.out, ordTo_len]
              have HROW := Lib.hid hrow
              clear hrow hke
              go_wp2
              go_ret2
              exact ⟨_, by rw [HB.out]; first | done | rfl, by unfold Own; rw [hNl]; exact own_base HROW.out hz3, hbw⟩
end Go.Proofs.Ythdnelfggmlalaa
