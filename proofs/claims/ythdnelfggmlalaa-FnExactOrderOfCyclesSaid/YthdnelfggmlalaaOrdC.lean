/-
  slices.Concat of up to four million numbers; the walk of impl.OrderOfCycles.
-/
import Derived.Test.YthdnelfggmlalaaOrdI
namespace Go.Proofs.Ythdnelfggmlalaa
open Go.RowKit

set_option maxHeartbeats 800000 in
set_option maxRecDepth 100000 in
theorem concatB_any (v : Value) (vs : List Value) (XS : List (List Int)) (hl : vs.length = XS.length) (hn : vs.length ≤ 4000000) (hfl : XS.flatten.length ≤ 4000000) (w : World)
    (hvs : ∀ (k : Nat) (u : Value) (xs : List Int), vs[k]? = some u → XS[k]? = some xs → Rd iV w u xs) (hr : Rd (fun u => u) w v vs) :
    Calls Try.prog 51 #[v] w fun e w' => ∃ v', e = .returned v' ∧ Own iV 2 w' w.heap.size v' XS.flatten ∧ Below w.heap.size w w' := by
  obtain ⟨A, cap, rfl, hcap, hA⟩ := hr
  have HA := Lib.hid hA
  have HVS := Lib.hid hvs
  have HL := Lib.hid hl
  have HF := Lib.hid hfl
  clear hA hvs hl hfl
  go_enter Try.func51, Try.ntmps51
  go_wp2
  go_loop [3, 11] (fun ss si => ∃ k : Nat, k ≤ vs.length ∧ si = .int .i64 k ∧ ss = .int .i64 (flen XS k)) (fun _ si => vs.length - (intOf si).toNat)
  case atStart => exact ⟨0, by omega, rfl, by simp [flen]⟩
  case round =>
    obtain ⟨k, hk, rfl, rfl⟩ := hrel
    have hb1 := flen_le k HF.out
    by_cases hlt : k < vs.length
    · obtain ⟨u, hu⟩ := get_of_lt hlt
      obtain ⟨xs, hxs⟩ := get_of_lt (xs := XS) (k := k) (by have := HL.out; omega)
      obtain ⟨ad, rfl, hbl, hc⟩ := HA.out k u hu
      obtain ⟨B, c, rfl, hcc, _⟩ := HVS.out k u xs hu hxs
      have hb2 := flen_le (k + 1) HF.out
      have hs := flen_snoc hxs
      rw [hs] at hb2
      have HS := Lib.hid hs
      clear hu hxs hs
      go_wp2
      go_round
      case rel => exact ⟨k + 1, by omega, by go_num, by rw [HS.out]; go_num⟩
      case measure => simp [intOf]; omega
    · go_wp2_with (go_at_call 81; refine (grow_any _ (by omega) _).mono ?_; rintro e w1 ⟨v1, rfl, ho1, hb3⟩)
      go_loopw [6, 27] (fun so si wr => ∃ j : Nat, j ≤ vs.length ∧ si = .int .i64 j ∧ Own iV 2 wr w.heap.size so (XS.take j).flatten ∧ Below w.heap.size w wr) (fun _ si _ => vs.length - (intOf si).toNat)
      case atStart => exact ⟨0, by omega, rfl, ho1, hb3⟩
      case round =>
        obtain ⟨j, hj, rfl, ho2, hb4⟩ := hrel
        clear ho1 hb3
        have hb5 := flen_le j HF.out
        by_cases hlj : j < vs.length
        · obtain ⟨u, hu⟩ := get_of_lt hlj
          obtain ⟨xs, hxs⟩ := get_of_lt (xs := XS) (k := j) (by have := HL.out; omega)
          obtain ⟨ad, rfl, hbl, hc⟩ := HA.out j u hu
          have hcw : wr.cell? (ad.add j) = some u := by rw [hb4.cell (by rw [add_block]; exact hbl)]; exact hc
          have hrd := Lib.hid ((HVS.out j u xs hu hxs).below hb4)
          have hb2 := flen_le (j + 1) HF.out
          rw [flen_snoc hxs] at hb2
          have hs := flat_snoc hxs
          have HS := Lib.hid hs
          have hz := hb4.size
          have HO := Lib.hid ho2
          clear hu hxs hs hc ho2
          go_wp2_with (at_builtin; go_loud (refine elI_.app one_iV _ rfl (.tmp 31) (.tmp 32) rfl w.heap.size _ (XS.take j).flatten rfl HO.out _ xs rfl hrd.out (by omega) (by have : (XS.take j).flatten.length = flen XS j := rfl; omega) hz ?_))
          intro v2 w2 ho3 hg3 hb6 _
          rw [← HS.out] at ho3
          go_wp2
          go_roundw
          case rel => exact ⟨j + 1, by omega, by go_num, ho3, hb4.trans hb6⟩
          case measure => simp [intOf]; omega
        · have hje : j = vs.length := by omega
          have HJ := Lib.hid hje
          clear hje
          go_wp2
          go_ret
          refine ⟨_, rfl, ?_, hb4⟩
          have h := ho2
          rw [HJ.out, HL.out, List.take_length] at h
          exact h

/-- A slice of slices that reads. -/
def RdSS (w : World) (v : Value) (XS : List (List Int)) : Prop :=
  ∃ us : List Value, Rd (fun u => u) w v us ∧ us.length = XS.length ∧ ∀ (k : Nat) (u : Value) (xs : List Int), us[k]? = some u → XS[k]? = some xs → Rd iV w u xs
theorem RdSS.below {w w' : World} {v : Value} {XS : List (List Int)} (h : RdSS w v XS) (hb : Below w.heap.size w w') : RdSS w' v XS := by
  obtain ⟨us, h1, h2, h3⟩ := h
  exact ⟨us, h1.below hb, h2, fun k u xs a b => (h3 k u xs a b).below hb⟩
def RetCyc (XS : List (List Int)) (n : Int) (w : World) (e : Ending) (w' : World) : Prop :=
  ∃ v', e = .returned (.tuple #[v', .bool (cycB XS n)]) ∧ Own iV 2 w' w.heap.size v' (cycR XS n) ∧ Below w.heap.size w w'
theorem RetCyc.no {XS : List (List Int)} {n : Int} {w w' : World} (h : cycB XS n = false) (hb : Below w.heap.size w w') : RetCyc XS n w (.returned (.tuple #[.slice none 0 0, .bool false])) w' :=
  ⟨_, by rw [h], by unfold cycR; rw [h]; exact Own.nil, hb⟩
def emptyV (u : Value) : Bool := match u with | .slice _ n _ => (n : Int) == 0 | _ => false
theorem cyc1_any (u : Value) (xs : List Int) (w W : World) (hr : Rd iV w u xs) : Calls Try.prog 54 #[u] W fun e w' => e = .returned (.bool (emptyV u)) ∧ W = w' := by
  obtain ⟨A, cap, rfl, hcap, hA⟩ := hr
  clear hA
  go_enter Try.func54, Try.ntmps54
  go_wp2
  go_ret
  exact ⟨rfl, rfl⟩
theorem enter_cyc1 (args : Array Value) (w : World) : (callFunc 54 args).run Try.prog w = .ok (.enter 54 args) w :=
  enter_of Try.func54 (by kernel_rfl) (by kernel_rfl) args w
theorem any_empty {w : World} {us : List Value} {XS : List (List Int)} (hl : us.length = XS.length) (h : ∀ (k : Nat) (u : Value) (xs : List Int), us[k]? = some u → XS[k]? = some xs → Rd iV w u xs) : us.any emptyV = XS.any fun c => decide (c.length = 0) := by
  rw [Bool.eq_iff_iff, List.any_eq_true, List.any_eq_true]
  have key : ∀ (k : Nat) (u : Value) (xs : List Int), us[k]? = some u → XS[k]? = some xs → emptyV u = decide (xs.length = 0) := fun k u xs a b => by
    obtain ⟨A, cap, rfl, _⟩ := h k u xs a b
    unfold emptyV
    rw [Bool.eq_iff_iff]; simp
  constructor
  · rintro ⟨u, hu, hp⟩
    obtain ⟨k, hk⟩ := List.getElem?_of_mem hu
    obtain ⟨xs, hx⟩ := get_of_lt (xs := XS) (k := k) (by rw [← hl]; exact lt_of_get hk)
    exact ⟨xs, List.mem_of_getElem? hx, by rw [← key k u xs hk hx]; exact hp⟩
  · rintro ⟨xs, hxs, hp⟩
    obtain ⟨k, hk⟩ := List.getElem?_of_mem hxs
    obtain ⟨u, hu⟩ := get_of_lt (xs := us) (k := k) (by rw [hl]; exact lt_of_get hk)
    exact ⟨u, List.mem_of_getElem? hu, by rw [key k u xs hu hk]; exact hp⟩

set_option maxRecDepth 100000 in
set_option maxHeartbeats 2000000 in
theorem implCyc_any (v : Value) (XS : List (List Int)) (n : Int) (hX : XS.length ≤ 4000000) (hF : XS.flatten.length ≤ 4000000) (w : World) (hr : RdSS w v XS) :
    Calls Try.prog 21 #[v, .int .i64 n] w (RetCyc XS n w) := by
  obtain ⟨us, hr, hl, hrs⟩ := hr
  have HR := Lib.hid hr
  have HRS := Lib.hid hrs
  have HL := Lib.hid hl
  have hul : us.length ≤ 4000000 := by omega
  obtain ⟨A, cap, rfl, hcap, hA⟩ := hr
  have HA := Lib.hid hA
  clear hA hrs hl
  go_enter Try.func21, Try.ntmps21
  go_wp2_with fail
  refine (concatB_any _ us XS HL.out hul hF w HRS.out HR.out).mono ?_
  rintro e w1 ⟨v1, rfl, ho1, hb1⟩
  obtain ⟨N, hN⟩ : ∃ N, N = XS.flatten.length := ⟨_, rfl⟩
  have HO1 := Lib.hid ho1
  have HN := Lib.hid hN
  obtain ⟨A1, c1, rfl, hc1, -⟩ := ho1.rd
  rw [← hN] at hc1 hF ⊢
  clear ho1 hN
  have hz1 := hb1.size
  by_cases hne : (N : Int) = n
  case neg =>
    have hd : ((N : Int) != n) = true := by simp [hne]
    have hd2 : ((N : Int) == n) = false := by simp [hne]
    have hB : cycB XS n = false := by unfold cycB; rw [decide_eq_false (by rw [← HN.out]; exact hne)]; rfl
    have HB := Lib.hid hB
    clear hne hB
    go_wp2
    go_ret2
    exact RetCyc.no HB.out hb1
  case pos =>
    subst hne
    have hd : ((N : Int) != (N : Int)) = false := by simp
    go_wp2_with fail
    refine (isOrder_any _ XS.flatten (by rw [← HN.out]; exact hF) w1 (by have := HO1.out.rd; rw [← HN.out] at this; exact this)).mono ?_
    rintro e w2 ⟨rfl, hb2⟩
    have hb2' := below_to hb1 hb2 hz1
    cases ho : isOrd XS.flatten
    · have hB : cycB XS N = false := by unfold cycB; rw [ho]; simp
      have HB := Lib.hid hB
      clear hB
      go_wp2
      go_ret2
      exact RetCyc.no HB.out hb2'
    · have HOO := Lib.hid ho
      go_wp2_with fail
      refine (containsFuncV_any emptyV 54 #[] _ us (by omega) enter_cyc1 w2 (fun x q hx => by
        obtain ⟨k, hk⟩ := List.getElem?_of_mem hx
        obtain ⟨xs, hxs⟩ := get_of_lt (xs := XS) (k := k) (by rw [← HL.out]; exact lt_of_get hk)
        exact (cyc1_any x xs w _ (HRS.out k x xs hk hxs)).mono fun _ _ ⟨h1, h2⟩ => ⟨h1, q, h2⟩) (HR.out.below hb2')).mono ?_
      rintro e w3 ⟨rfl, q, rfl⟩
      rw [any_empty HL.out HRS.out]
      have hb3 : Below w.heap.size w (w2.drewN q) := below_drewN_ hb2'
      generalize w2.drewN q = w3 at hb3 ⊢
      cases he : XS.any fun c => decide (c.length = 0)
      case true =>
        have hB : cycB XS N = false := by unfold cycB; rw [he]; simp
        have HB := Lib.hid hB
        clear hB
        go_wp2
        go_ret2
        exact RetCyc.no HB.out hb3
      case false =>
        have hB : cycB XS N = true := by unfold cycB; rw [he, HOO.out, HN.out]; simp
        have HB := Lib.hid hB
        obtain ⟨hp1, hp2, hp3⟩ := isOrd_parts ho
        rw [← HN.out] at hp1 hp2 hp3
        have HP3 := Lib.hid hp3
        clear hB hp3
        go_wp2_with (at_make; go_loud (refine elI_.make _ rfl _ _ rfl .i64 .i64 _ _ N rfl rfl rfl rfl (by omega) (by omega) ?_))
        intro w4 hown4 hb4 hs4
        rw [show List.replicate N (Value.int .i64 0) = (ordTo XS N 0).map iV by show _ = (List.replicate N (0 : Int)).map iV; rw [List.map_replicate]] at hown4
        have hz3 := hb3.size
        have hR : cycR XS N = ordTo XS N XS.length := by unfold cycR; rw [HB.out, Int.toNat_natCast]; rfl
        have HRR := Lib.hid hR
        clear hR
        go_wp2_with fail
        go_loopw [31] (fun si wr => ∃ k : Nat, k ≤ us.length ∧ si = .int .i64 k ∧ wr.ownsRow w3.heap.size 2 1 (.slice (some ⟨w3.heap.size, 0, none⟩) N N) N ((ordTo XS N k).map iV) ∧ Below w3.heap.size w3 wr)
          (fun si _ => us.length - (intOf si).toNat)
        case atStart => exact ⟨0, by omega, rfl, hown4, hb4⟩
        case round =>
          clear hown4 hb4 hs4
          obtain ⟨k, hk, rfl, hrow, hb⟩ := hrel
          have hbw : Below w.heap.size w wr := below_to hb3 hb hz3
          by_cases hlt : k < us.length
          · obtain ⟨u, hu⟩ := get_of_lt hlt
            obtain ⟨cy, hcy⟩ := get_of_lt (xs := XS) (k := k) (by rw [← HL.out]; exact hlt)
            obtain ⟨ad, rfl, hbl, hc⟩ := HA.out k u hu
            have hcu : wr.cell? (ad.add k) = some u := by rw [hbw.cell (by rw [add_block]; exact hbl)]; exact hc
            obtain ⟨B, cc, rfl, hcc, hB⟩ := HRS.out k u cy hu hcy
            have HBB := Lib.hid hB
            have hos := ordTo_succ (n := N) hcy
            have HOS := Lib.hid hos
            have HCY := Lib.hid hcy
            have hcl : cy.length ≤ N := by
              have h := flat_snoc hcy
              have h2 := flat_le XS (k + 1)
              rw [h, List.length_append, ← HN.out] at h2
              omega
            clear hu hc hB hos hcy
            go_wp2_with fail
            go_loopw [37] (fun si wq => ∃ i : Nat, i ≤ cy.length ∧ si = .int .i64 i ∧ wq.ownsRow w3.heap.size 2 1 (.slice (some ⟨w3.heap.size, 0, none⟩) N N) N ((cycTo cy (ordTo XS N k) i).map iV) ∧ Below w3.heap.size w3 wq)
              (fun si _ => cy.length - (intOf si).toNat)
            case atStart => exact ⟨0, by omega, rfl, hrow, hb⟩
            case round =>
              clear hrow hb hcu hbw
              obtain ⟨i, hi, rfl, hrow, hb⟩ := hrel
              have hbw : Below w.heap.size w wr := below_to hb3 hb hz3
              by_cases hli : i < cy.length
              · obtain ⟨x, hx⟩ := get_of_lt hli
                have hj : (i + 1) % cy.length < cy.length := Nat.mod_lt _ (by omega)
                obtain ⟨y, hy⟩ := get_of_lt hj
                have hst := cycTo_succ (o := ordTo XS N k) hx hy
                have hxin := HP3.out x (mem_flat HCY.out hx)
                obtain ⟨ab, rfl, habl, hcx⟩ := HBB.out i x hx
                obtain ⟨_, e, _, hcy2⟩ := HBB.out _ y hy
                cases e
                have hmod : Int.tmod ((i : Int) + 1) (cy.length : Int) = (((i + 1) % cy.length : Nat) : Int) := by rw [Int.tmod_eq_emod_of_nonneg (by omega)]; push_cast; rfl
                have hcl0 : (cy.length : Int) ≠ 0 := by omega
                generalize (i + 1) % cy.length = j at *
                have hcx2 : wr.cell? (ab.add i) = some (iV x) := by rw [hbw.cell (by rw [add_block]; exact habl)]; exact hcx
                have hcy3 : wr.cell? (ab.add j) = some (iV y) := by rw [hbw.cell (by rw [add_block]; exact habl)]; exact hcy2
                obtain ⟨X, rfl⟩ : ∃ X : Nat, x = (X : Int) := ⟨x.toNat, by omega⟩
                rw [Int.toNat_natCast] at hst
                have o1 := hrow.cellAt X (by simp; omega)
                obtain ⟨z, hz⟩ := get_of_lt (xs := cycTo cy (ordTo XS N k) i) (k := X) (by rw [cycTo_len, ordTo_len]; omega)
                rw [List.getElem?_map, hz, Option.map_some] at o1
                have f1 := hrow.frozenAt X
                have hnew := (hrow.stored X (iV y)).1
                rw [← List.map_set, ← hst] at hnew
                have hb2x : Below w3.heap.size w3 (wr.setCell ⟨w3.heap.size, X, none⟩ (iV y)) := hb.setCell (p := ⟨w3.heap.size, X, none⟩) (Nat.le_refl _) _
                have hi0 : (0 : Int) ≤ (i : Int) := by omega
                have hi1 : (i : Int) < (cy.length : Int) := by omega
                have hj0 : (0 : Int) ≤ (j : Int) := by omega
                have hj1 : (j : Int) < (cy.length : Int) := by omega
                have HNEW := Lib.hid hnew
                clear hx hy hst hrow hcx hcy2 hz hnew
                go_wp2
                go_roundw
                case rel => exact ⟨i + 1, by omega, by go_num, HNEW.out, hb2x⟩
                case measure => simp [intOf]; omega
              · have hie : i = cy.length := by omega
                rw [hie, ← HOS.out] at hrow
                have HROW := Lib.hid hrow
                clear hrow hie
                go_wp2
                go_roundw
                case rel => exact ⟨k + 1, by omega, by go_num, HROW.out, hb⟩
                case measure => simp [intOf]; omega
          · have hke : k = us.length := by omega
            rw [hke, HL.out, ← HRR.out] at hrow
            have hNl : (cycR XS N).length = N := by rw [HRR.out, ordTo_len]
            have HROW := Lib.hid hrow
            clear hrow hke
            go_wp2
            go_ret2
            exact ⟨_, by rw [HB.out]; first | done | rfl, by unfold Own; rw [hNl]; exact own_base HROW.out hz3, hbw⟩
end Go.Proofs.Ythdnelfggmlalaa
