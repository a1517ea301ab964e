/-
  The walks of slices.insertionSortCmpFunc, stableCmpFunc and SortStableFunc at int64.
-/
import Derived.Test.YtjajlddnhmbekaaSym
namespace Go.Proofs.Ytjajlddnhmbekaa
open Go.RowKit

theorem up_one {lx : Int → Int → Bool} {l : List Int} (h : l.length ≤ 1) : Up lx l := by
  match l, h with
  | [], _ => exact List.Pairwise.nil
  | [x], _ => exact List.pairwise_singleton _ _
theorem last_split {l : List Int} (h : 0 < l.length) : ∃ l' r, l = l' ++ [r] := by
  refine ⟨l.take (l.length - 1), l[l.length - 1], ?_⟩
  rw [List.take_append_getElem, List.take_of_length_le (by omega)]

set_option maxHeartbeats 1600000 in
set_option maxRecDepth 100000 in
theorem insertion_any (lx : Int → Int → Bool) (htr : ∀ a b c, lx a b = true → lx b c = true → lx a c = true) (cf : Int → Int → Int) (K : Nat) (cb : Array Value) (D : List Int) (g n c a b : Nat) (P A S : List Int) (W0 : World)
    (hK : ∀ (args : Array Value) (w : World), (callFunc K args).run Try.prog w = .ok (.enter K args) w) (hC : CmpOk K cb cf D g W0)
    (ha : P.length = a) (hb : a + A.length = b) (hn : n ≤ 1000000) (ht : TellsAll lx cf A) (hD : ∀ z ∈ A, z ∈ D) (w : World) (h0 : Touch g (g + 1) W0 w) (hr : RowI w g n c (P ++ (A ++ S))) :
    Calls Try.prog 60 #[.slice (some ⟨g, 0, none⟩) n c, .int .i64 a, .int .i64 b, .func (.func K) #[] cb] w (SymTo lx g n c P A [] S w) := by
  have hl := hr.len
  simp only [List.length_append] at hl
  have hbn : b ≤ n := by omega
  have hab : a ≤ b := by omega
  have HC := Lib.hid hC
  have HA := Lib.hid ha
  have HB := Lib.hid hb
  have HL := Lib.hid hl
  have HD := Lib.hid hD
  have HT := Lib.hid ht
  have H0 := Lib.hid h0
  have HTR := Lib.hid htr
  have HR := Lib.hid hr
  clear hC ha hb hl hD ht h0 htr hr
  go_enter Try.func60, Try.ntmps60
  go_wp2
  go_loopw [8] (fun si wr => ∃ (i t : Nat) (R : List Int), si = .int .i64 i ∧ Hid (i = a + t) ∧ 1 ≤ t ∧ (t ≤ A.length ∨ t = 1) ∧ i ≤ b + 1 ∧ R.Perm (A.take t) ∧ Up lx R ∧ RowI wr g n c (P ++ (R ++ (A.drop t ++ S))) ∧ Touch g (g + 1) w wr) (fun si _ => b + 1 - (intOf si).toNat)
  case atStart => exact ⟨a + 1, 1, A.take 1, by go_num, rfl, Nat.le_refl _, .inr rfl, by omega, List.Perm.refl _, up_one (by simp; omega), by have := HR.out; rwa [← List.append_assoc (A.take 1), List.take_append_drop], touch_refl _ _ _⟩
  case round =>
    obtain ⟨i, t, R, rfl, hit, ht1, htA, hib, hp, hu, hR, hTo⟩ := hrel
    by_cases hlt : i < b
    · have htl : t < A.length := by have := hit.out; have := HB.out; omega
      obtain ⟨x, hx⟩ := get_of_lt (xs := A) (k := t) htl
      have HP := Lib.hid hp
      have HU := Lib.hid hu
      have hxD : x ∈ D := HD.out x (List.mem_of_getElem? hx)
      have hRD : Hid (∀ z ∈ R, z ∈ D) := fun z hz => HD.out z (List.mem_of_mem_take (hp.mem_iff.1 hz))
      have hTl : Hid (Tells lx cf R [x]) := by
        have h := HT.out
        have e : A = [] ++ (A.take t ++ ([x] ++ A.drop (t + 1))) := by
          rw [List.nil_append, List.singleton_append, ← drop_at hx, List.take_append_drop]
        rw [e] at h
        exact h.two.perm hp (List.Perm.refl _)
      have e1 : P ++ (R ++ (A.drop t ++ S)) = P ++ (R ++ x :: ([] ++ (A.drop (t + 1) ++ S))) := by rw [drop_at hx]; rfl
      rw [e1] at hR
      have HR1 := Lib.hid hR
      have hRl : R.length = t := by rw [hp.length_eq, List.length_take]; omega
      have HRL := Lib.hid hRl
      have HX := Lib.hid hx
      clear hp hu hR e1 hx hRl
      go_wp2
      go_loopw [9] (fun sj wr => ∃ (j : Nat) (R1 R2 : List Int), sj = .int .i64 j ∧ Hid (j = a + R1.length) ∧ Hid (R1 ++ R2 = R) ∧ (∀ r ∈ R2, lx x r = true) ∧ RowI wr g n c (P ++ (R1 ++ x :: (R2 ++ (A.drop (t + 1) ++ S)))) ∧ Touch g (g + 1) w wr) (fun sj _ => (intOf sj).toNat)
      case atStart => exact ⟨i, R, [], rfl, by unfold Hid; rw [HRL.out]; exact hit.out, by unfold Hid; simp, by simp, HR1.out, hTo⟩
      case round =>
        obtain ⟨j, R1, R2, rfl, hj, hRR, h2, hR, hTo2⟩ := hrel
        have H2 := Lib.hid h2
        clear h2
        by_cases hj0 : R1.length = 0
        · have hR10 : R1 = [] := List.eq_nil_of_length_eq_zero hj0
          have HR10 := Lib.hid hR10
          have hja : j = a := by have := hj.out; omega
          have HR2 := Lib.hid hR
          clear hR10 hj0 hR
          subst hja
          have hjaz : decide ((j : Int) > (j : Int)) = false := decide_eq_false (by omega)
          go_wp2_with fail
          go_quiet (fail)
          go_wp2
          go_roundw
          case rel =>
            have hR2 : R2 = R := by have := hRR.out; rw [HR10.out] at this; simpa using this
            refine ⟨i + 1, t + 1, x :: R, by go_num, by have := hit.out; unfold Hid; omega, by omega, .inl (by omega), by omega, ?_, ?_, ?_, touch_drewN hTo2 _⟩
            · rw [take_snoc HX.out]
              exact (List.Perm.cons x HP.out).trans (List.perm_append_comm (l₁ := [x]))
            · have h := H2.out
              rw [hR2] at h
              exact List.pairwise_cons.2 ⟨h, HU.out⟩
            · have h := HR2.out.drewN nq
              rw [HR10.out, hR2] at h
              exact h
          case measure => simp [intOf]; omega
        · obtain ⟨R1', r, rfl⟩ := last_split (l := R1) (by omega)
          obtain ⟨j', rfl⟩ : ∃ j', j = j' + 1 := ⟨j - 1, by have := hj.out; simp at this; omega⟩
          have e2 : P ++ ((R1' ++ [r]) ++ x :: (R2 ++ (A.drop (t + 1) ++ S))) = (P ++ R1') ++ r :: x :: (R2 ++ (A.drop (t + 1) ++ S)) := by simp
          have hlen : (P ++ R1').length = j' := by have := HA.out; have := hj.out; simp at this ⊢; omega
          have hrR : r ∈ R := by rw [← hRR.out]; simp
          have hjn : j' + 1 < n := by
            have := hR.len
            rw [e2] at this
            simp only [List.length_append, List.length_cons] at this hlen
            omega
          rw [e2] at hR
          have c1 : wr.cell? ⟨g, j', none⟩ = some (jV r) := hR.at (by rw [← hlen, List.getElem?_append_right (Nat.le_refl _), Nat.sub_self]; rfl)
          have c2 : wr.cell? ⟨g, j' + 1, none⟩ = some (jV x) := hR.at (by rw [← hlen, List.getElem?_append_right (by omega), Nat.add_sub_cancel_left]; rfl)
          have hcall := HC.out wr x r (H0.out.trans hTo2) hxD (hRD.out r hrR)
          have HCL := Lib.hid hcall
          have HR2 := Lib.hid hR
          have HE2 := Lib.hid e2
          have HLEN := Lib.hid hlen
          have hjaz : decide ((j' : Int) + 1 > (a : Int)) = true := decide_eq_true (by have := hj.out; simp at this; omega)
          have hz0 : (0 : Int) ≤ (j' : Int) + 1 := by omega
          have hz1 : (j' : Int) + 1 < (n : Int) := by omega
          have hz2 : (j' : Int) < (n : Int) := by omega
          have hz3 : ((j' : Int) + 1).toNat = j' + 1 := by omega
          have hz4 : (j' : Int) + 1 - 1 = (j' : Int) := by omega
          have hz5 : (0 : Int) ≤ (j' : Int) := by omega
          have hz6 : IntKind.i64.wrap ((j' : Int)) = (j' : Int) := IntWalk.i64_in _ (by omega)
          clear hcall hR e2 hlen hj0
          cases hlc : decide (cf x r < 0)
          · have HLC := Lib.hid hlc
            go_wp2_with fail
            go_quiet (exact HCL.out _)
            go_wp2
            go_roundw
            case rel =>
              have hIE := ins_end HTR.out (x := x) (R1 := R1' ++ [r]) (R2 := R2) (by rw [hRR.out]; exact HU.out) H2.out (hTl.out.mono (fun z hz => by rw [← hRR.out]; exact List.mem_append_left _ hz) (fun _ h => h)) (fun z h0 hz => by
                simp at hz
                subst hz
                exact of_decide_eq_false HLC.out)
              refine ⟨i + 1, t + 1, (R1' ++ [r]) ++ x :: R2, by go_num, by have := hit.out; unfold Hid; omega, by omega, .inl (by omega), by omega, ?_, hIE, ?_, touch_drewN hTo2 _⟩
              · rw [take_snoc HX.out]
                refine List.perm_middle.trans ?_
                rw [hRR.out]
                exact (List.Perm.cons x HP.out).trans (List.perm_append_comm (l₁ := [x]))
              · have h := HR2.out
                simpa using h.drewN nq
            case measure => simp [intOf]; omega
          · have HLC := Lib.hid hlc
            go_wp2_with fail
            go_quiet (exact HCL.out _)
            go_wp2_with fail
            have hR3 := HR2.out.drewN nq
            have c1' := hR3.at (i := j') (x := r) (by rw [← HLEN.out, List.getElem?_append_right (Nat.le_refl _), Nat.sub_self]; rfl)
            have c2' := hR3.at (i := j' + 1) (x := x) (by rw [← HLEN.out, List.getElem?_append_right (by omega), Nat.add_sub_cancel_left]; rfl)
            have f1 := hR3.free j'
            have f2 := hR3.free (j' + 1)
            have hS := hR3.swapped (i := j' + 1) (j := j') (x := x) (y := r) (by rw [← HLEN.out, List.getElem?_append_right (by omega), Nat.add_sub_cancel_left]; rfl) (by rw [← HLEN.out, List.getElem?_append_right (Nat.le_refl _), Nat.sub_self]; rfl)
            rw [swp_down _ _ _ _ HLEN.out] at hS
            have hTT := touch_drewN hTo2 nq
            clear c1 c2
            generalize wr.drewN nq = w5 at hR3 c1' c2' f1 f2 hS hTT ⊢
            have c3 : (w5.setCell ⟨g, j' + 1, none⟩ (jV r)).cell? ⟨g, j', none⟩ = some (jV r) := by
              rw [World.cell?_setCell_other _ _ _ _ (by intro e; simp only [Addr.mk.injEq] at e; omega)]; exact c1'
            have HS := Lib.hid hS
            clear hS hR3
            go_region
            go_wp2
            go_roundw
            case rel =>
              refine ⟨j', R1', r :: R2, by first | rfl | go_num, by have := hj.out; simp at this; unfold Hid; omega, by have := hRR.out; unfold Hid; rw [← this]; simp, ?_, ?_, touch_drewN (hTT.trans (touch_swap _ _ _ _ _ _)) 1⟩
              · intro z hz
                rcases List.mem_cons.1 hz with rfl | hz
                · have := (hTl.out z hrR x (by simp)).1
                  rw [← this]
                  exact HLC.out
                · exact H2.out z hz
              · have h := HS.out.drew
                simpa using h
            case measure => simp [intOf] <;> omega
    · have hte : A.length ≤ t := by have := hit.out; have := HB.out; omega
      have HTE := Lib.hid hte
      clear hte
      go_wp2
      go_end0
      refine ⟨R, rfl, hu, ?_, ?_, hTo⟩
      · rw [List.append_nil]
        have := hp
        rwa [List.take_of_length_le HTE.out] at this
      · have := hR
        rwa [List.drop_of_length_le HTE.out, List.nil_append] at this
end Go.Proofs.Ytjajlddnhmbekaa
