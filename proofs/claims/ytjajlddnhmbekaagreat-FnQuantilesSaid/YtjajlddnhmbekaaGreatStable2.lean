/-
  The walks of slices.insertionSortCmpFunc, stableCmpFunc and SortStableFunc at int64.
  The walks of slices.stableCmpFunc and SortStableFunc at int64.
-/
import Derived.Test.YtjajlddnhmbekaaGreatSym
import Derived.Test.YtjajlddnhmbekaaGreatStab
namespace Go.Proofs.YtjajlddnhmbekaaGreat
section
open Go.RowKit

theorem up_one {lx : Int → Int → Bool} {l : List Int} (h : l.length ≤ 1) : Up lx l := by
  match l, h with
  | [], _ => exact List.Pairwise.nil
  | [x], _ => exact List.pairwise_singleton _ _
theorem last_split {l : List Int} (h : 0 < l.length) : ∃ l' r, l = l' ++ [r] := by
  refine ⟨l.take (l.length - 1), l[l.length - 1], ?_⟩
  rw [List.take_append_getElem, List.take_of_length_le (by omega)]

set_option maxHeartbeats 1600000 in
set_option maxRecDepth 100000 in
theorem insertion_any (lx : Int → Int → Bool) (htr : ∀ a b c, lx a b = true → lx b c = true → lx a c = true) (cf : Int → Int → Int) (K : Nat) (cb : Array Value) (D : List Int) (g n c a b : Nat) (P A S : List Int) (W0 : World)
    (hK : ∀ (args : Array Value) (w : World), (callFunc K args).run Tryz.prog w = .ok (.enter K args) w) (hC : CmpOk K cb cf D g W0)
    (ha : P.length = a) (hb : a + A.length = b) (hn : n ≤ 1000000) (ht : TellsAll lx cf A) (hD : ∀ z ∈ A, z ∈ D) (w : World) (h0 : Touch g (g + 1) W0 w) (hr : RowI w g n c (P ++ (A ++ S))) :
    Calls Tryz.prog 87 #[.slice (some ⟨g, 0, none⟩) n c, .int .i64 a, .int .i64 b, .func (.func K) #[] cb] w (SymTo lx g n c P A [] S w) := by
  have hl := hr.len
  simp only [List.length_append] at hl
  have hbn : b ≤ n := by omega
  have hab : a ≤ b := by omega
  have HC := Lib.hid hC
  have HA := Lib.hid ha
  have HB := Lib.hid hb
  have HL := Lib.hid hl
  have HD := Lib.hid hD
  have HT := Lib.hid ht
  have H0 := Lib.hid h0
  have HTR := Lib.hid htr
  have HR := Lib.hid hr
  clear hC ha hb hl hD ht h0 htr hr
  go_enter Tryz.func87, Tryz.ntmps87
  go_wp2
  go_loopw [8] (fun si wr => ∃ (i t : Nat) (R : List Int), si = .int .i64 i ∧ Hid (i = a + t) ∧ 1 ≤ t ∧ (t ≤ A.length ∨ t = 1) ∧ i ≤ b + 1 ∧ R.Perm (A.take t) ∧ Up lx R ∧ RowI wr g n c (P ++ (R ++ (A.drop t ++ S))) ∧ Touch g (g + 1) w wr) (fun si _ => b + 1 - (intOf si).toNat)
  case atStart => exact ⟨a + 1, 1, A.take 1, by go_num, rfl, Nat.le_refl _, .inr rfl, by omega, List.Perm.refl _, up_one (by simp; omega), by have := HR.out; rwa [← List.append_assoc (A.take 1), List.take_append_drop], touch_refl _ _ _⟩
  case round =>
    obtain ⟨i, t, R, rfl, hit, ht1, htA, hib, hp, hu, hR, hTo⟩ := hrel
    by_cases hlt : i < b
    · have htl : t < A.length := by have := hit.out; have := HB.out; omega
      obtain ⟨x, hx⟩ := get_of_lt (xs := A) (k := t) htl
      have HP := Lib.hid hp
      have HU := Lib.hid hu
      have hxD : x ∈ D := HD.out x (List.mem_of_getElem? hx)
      have hRD : Hid (∀ z ∈ R, z ∈ D) := fun z hz => HD.out z (List.mem_of_mem_take (hp.mem_iff.1 hz))
      have hTl : Hid (Tells lx cf R [x]) := by
        have h := HT.out
        have e : A = [] ++ (A.take t ++ ([x] ++ A.drop (t + 1))) := by
          rw [List.nil_append, List.singleton_append, ← drop_at hx, List.take_append_drop]
        rw [e] at h
        exact h.two.perm hp (List.Perm.refl _)
      have e1 : P ++ (R ++ (A.drop t ++ S)) = P ++ (R ++ x :: ([] ++ (A.drop (t + 1) ++ S))) := by rw [drop_at hx]; rfl
      rw [e1] at hR
      have HR1 := Lib.hid hR
      have hRl : R.length = t := by rw [hp.length_eq, List.length_take]; omega
      have HRL := Lib.hid hRl
      have HX := Lib.hid hx
      clear hp hu hR e1 hx hRl
      go_wp2
      go_loopw [9] (fun sj wr => ∃ (j : Nat) (R1 R2 : List Int), sj = .int .i64 j ∧ Hid (j = a + R1.length) ∧ Hid (R1 ++ R2 = R) ∧ (∀ r ∈ R2, lx x r = true) ∧ RowI wr g n c (P ++ (R1 ++ x :: (R2 ++ (A.drop (t + 1) ++ S)))) ∧ Touch g (g + 1) w wr) (fun sj _ => (intOf sj).toNat)
      case atStart => exact ⟨i, R, [], rfl, by unfold Hid; rw [HRL.out]; exact hit.out, by unfold Hid; simp, by simp, HR1.out, hTo⟩
      case round =>
        obtain ⟨j, R1, R2, rfl, hj, hRR, h2, hR, hTo2⟩ := hrel
        have H2 := Lib.hid h2
        clear h2
        by_cases hj0 : R1.length = 0
        · have hR10 : R1 = [] := List.eq_nil_of_length_eq_zero hj0
          have HR10 := Lib.hid hR10
          have hja : j = a := by have := hj.out; omega
          have HR2 := Lib.hid hR
          clear hR10 hj0 hR
          subst hja
          have hjaz : decide ((j : Int) > (j : Int)) = false := decide_eq_false (by omega)
          go_wp2_with fail
          go_quiet (fail)
          go_wp2
          go_roundw
          case rel =>
            have hR2 : R2 = R := by have := hRR.out; rw [HR10.out] at this; simpa using this
            refine ⟨i + 1, t + 1, x :: R, by go_num, by have := hit.out; unfold Hid; omega, by omega, .inl (by omega), by omega, ?_, ?_, ?_, touch_drewN hTo2 _⟩
            · rw [take_snoc HX.out]
              exact (List.Perm.cons x HP.out).trans (List.perm_append_comm (l₁ := [x]))
            · have h := H2.out
              rw [hR2] at h
              exact List.pairwise_cons.2 ⟨h, HU.out⟩
            · have h := HR2.out.drewN nq
              rw [HR10.out, hR2] at h
              exact h
          case measure => simp [intOf]; omega
        · obtain ⟨R1', r, rfl⟩ := last_split (l := R1) (by omega)
          obtain ⟨j', rfl⟩ : ∃ j', j = j' + 1 := ⟨j - 1, by have := hj.out; simp at this; omega⟩
          have e2 : P ++ ((R1' ++ [r]) ++ x :: (R2 ++ (A.drop (t + 1) ++ S))) = (P ++ R1') ++ r :: x :: (R2 ++ (A.drop (t + 1) ++ S)) := by simp
          have hlen : (P ++ R1').length = j' := by have := HA.out; have := hj.out; simp at this ⊢; omega
          have hrR : r ∈ R := by rw [← hRR.out]; simp
          have hjn : j' + 1 < n := by
            have := hR.len
            rw [e2] at this
            simp only [List.length_append, List.length_cons] at this hlen
            omega
          rw [e2] at hR
          have c1 : wr.cell? ⟨g, j', none⟩ = some (jV r) := hR.at (by rw [← hlen, List.getElem?_append_right (Nat.le_refl _), Nat.sub_self]; rfl)
          have c2 : wr.cell? ⟨g, j' + 1, none⟩ = some (jV x) := hR.at (by rw [← hlen, List.getElem?_append_right (by omega), Nat.add_sub_cancel_left]; rfl)
          have hcall := HC.out wr x r (H0.out.trans hTo2) hxD (hRD.out r hrR)
          have HCL := Lib.hid hcall
          have HR2 := Lib.hid hR
          have HE2 := Lib.hid e2
          have HLEN := Lib.hid hlen
          have hjaz : decide ((j' : Int) + 1 > (a : Int)) = true := decide_eq_true (by have := hj.out; simp at this; omega)
          have hz0 : (0 : Int) ≤ (j' : Int) + 1 := by omega
          have hz1 : (j' : Int) + 1 < (n : Int) := by omega
          have hz2 : (j' : Int) < (n : Int) := by omega
          have hz3 : ((j' : Int) + 1).toNat = j' + 1 := by omega
          have hz4 : (j' : Int) + 1 - 1 = (j' : Int) := by omega
          have hz5 : (0 : Int) ≤ (j' : Int) := by omega
          have hz6 : IntKind.i64.wrap ((j' : Int)) = (j' : Int) := IntWalk.i64_in _ (by omega)
          clear hcall hR e2 hlen hj0
          cases hlc : decide (cf x r < 0)
          · have HLC := Lib.hid hlc
            go_wp2_with fail
            go_quiet (exact HCL.out _)
            go_wp2
            go_roundw
            case rel =>
              have hIE := ins_end HTR.out (x := x) (R1 := R1' ++ [r]) (R2 := R2) (by rw [hRR.out]; exact HU.out) H2.out (hTl.out.mono (fun z hz => by rw [← hRR.out]; exact List.mem_append_left _ hz) (fun _ h => h)) (fun z h0 hz => by
                simp at hz
                subst hz
                exact of_decide_eq_false HLC.out)
              refine ⟨i + 1, t + 1, (R1' ++ [r]) ++ x :: R2, by go_num, by have := hit.out; unfold Hid; omega, by omega, .inl (by omega), by omega, ?_, hIE, ?_, touch_drewN hTo2 _⟩
              · rw [take_snoc HX.out]
                refine List.perm_middle.trans ?_
                rw [hRR.out]
                exact (List.Perm.cons x HP.out).trans (List.perm_append_comm (l₁ := [x]))
              · have h := HR2.out
                simpa using h.drewN nq
            case measure => simp [intOf]; omega
          · have HLC := Lib.hid hlc
            go_wp2_with fail
            go_quiet (exact HCL.out _)
            go_wp2_with fail
            have hR3 := HR2.out.drewN nq
            have c1' := hR3.at (i := j') (x := r) (by rw [← HLEN.out, List.getElem?_append_right (Nat.le_refl _), Nat.sub_self]; rfl)
            have c2' := hR3.at (i := j' + 1) (x := x) (by rw [← HLEN.out, List.getElem?_append_right (by omega), Nat.add_sub_cancel_left]; rfl)
            have f1 := hR3.free j'
            have f2 := hR3.free (j' + 1)
            have hS := hR3.swapped (i := j' + 1) (j := j') (x := x) (y := r) (by rw [← HLEN.out, List.getElem?_append_right (by omega), Nat.add_sub_cancel_left]; rfl) (by rw [← HLEN.out, List.getElem?_append_right (Nat.le_refl _), Nat.sub_self]; rfl)
            rw [swp_down _ _ _ _ HLEN.out] at hS
            have hTT := touch_drewN hTo2 nq
            clear c1 c2
            generalize wr.drewN nq = w5 at hR3 c1' c2' f1 f2 hS hTT ⊢
            have c3 : (w5.setCell ⟨g, j' + 1, none⟩ (jV r)).cell? ⟨g, j', none⟩ = some (jV r) := by
              rw [World.cell?_setCell_other _ _ _ _ (by intro e; simp only [Addr.mk.injEq] at e; omega)]; exact c1'
            have HS := Lib.hid hS
            clear hS hR3
            go_region
            go_wp2
            go_roundw
            case rel =>
              refine ⟨j', R1', r :: R2, by first | rfl | go_num, by have := hj.out; simp at this; unfold Hid; omega, by have := hRR.out; unfold Hid; rw [← this]; simp, ?_, ?_, touch_drewN (hTT.trans (touch_swap _ _ _ _ _ _)) 1⟩
              · intro z hz
                rcases List.mem_cons.1 hz with rfl | hz
                · have := (hTl.out z hrR x (by simp)).1
                  rw [← this]
                  exact HLC.out
                · exact H2.out z hz
              · have h := HS.out.drew
                simpa using h
            case measure => simp [intOf] <;> omega
    · have hte : A.length ≤ t := by have := hit.out; have := HB.out; omega
      have HTE := Lib.hid hte
      clear hte
      go_wp2
      go_end0
      refine ⟨R, rfl, hu, ?_, ?_, hTo⟩
      · rw [List.append_nil]
        have := hp
        rwa [List.take_of_length_le HTE.out] at this
      · have := hR
        rwa [List.drop_of_length_le HTE.out, List.nil_append] at this
end

section
open Go.RowKit

/-- The row has been sorted. -/
def SortTo (lx : Int → Int → Bool) (g n c : Nat) (D : List Int) (w : World) (e : Ending) (w' : World) : Prop :=
  ∃ R, e = .returned (.tuple #[]) ∧ Up lx R ∧ R.Perm D ∧ RowI w' g n c R ∧ Touch g (g + 1) w w'

set_option maxHeartbeats 3200000 in
set_option maxRecDepth 100000 in
theorem stable_any (lx : Int → Int → Bool) (htr : ∀ a b c, lx a b = true → lx b c = true → lx a c = true) (cf : Int → Int → Int) (K : Nat) (cb : Array Value) (D : List Int) (g n c : Nat) (W0 : World)
    (hK : ∀ (args : Array Value) (w : World), (callFunc K args).run Tryz.prog w = .ok (.enter K args) w) (hC : CmpOk K cb cf D g W0)
    (hn : n ≤ 1000000) (ht : TellsAll lx cf D) (w : World) (h0 : Touch g (g + 1) W0 w) (hr : RowI w g n c D) :
    Calls Tryz.prog 78 #[.slice (some ⟨g, 0, none⟩) n c, .int .i64 n, .func (.func K) #[] cb] w (SortTo lx g n c D w) := by
  have HC := Lib.hid hC
  have HL := Lib.hid hr.len
  have HT := Lib.hid ht
  have H0 := Lib.hid h0
  have HTR := Lib.hid htr
  have HR := Lib.hid hr
  have SY := Lib.hid (fun N => sym_any lx htr cf K cb D g n c W0 hK hC hn N)
  clear hC ht h0 htr hr
  go_enter Tryz.func78, Tryz.ntmps78
  go_wp2
  go_loopw [7, 8] (fun sa sb wr => ∃ (a b : Nat) (D1 X1 D2 : List Int), sa = .int .i64 a ∧ sb = .int .i64 b ∧ b ≤ n + 20 ∧ Hid (InvA lx D n a b D1 X1 D2) ∧ RowI wr g n c (X1 ++ D2) ∧ Touch g (g + 1) w wr) (fun _ sb _ => n + 20 - (intOf sb).toNat)
  case atStart => exact ⟨0, 20, [], [], D, rfl, rfl, by omega, invA_start HL.out, HR.out, touch_refl _ _ _⟩
  case round =>
    obtain ⟨a, b, D1, X1, D2, rfl, rfl, hbn, HH, hR, hTo⟩ := hrel
    have HRR := Lib.hid hR
    clear hR HR
    by_cases hlt : b ≤ n
    · go_wp2_with fail
      have hba := HH.out.1
      refine (insertion_any lx HTR.out cf K cb D g n c a b X1 (D2.take 20) (D2.drop 20) W0 hK HC.out HH.out.2.2.2.1 (by rw [HH.out.take hlt]; omega) hn (HH.out.tells HT.out).1 (fun z hz => HH.out.mem (List.mem_of_mem_take hz)) _ (H0.out.trans hTo) (by rw [List.take_append_drop]; exact HRR.out)).mono ?_
      rintro e w' ⟨R, rfl, hu, hp, hR', hT'⟩
      rw [List.append_nil] at hp
      have HN := Lib.hid (HH.out.step hlt hp hu)
      have HQ : Hid (RowI w' g n c ((X1 ++ R) ++ D2.drop 20)) := by unfold Hid; rw [List.append_assoc]; exact hR'
      clear hu hp hR' hba
      go_wp2
      go_roundw
      case rel => exact ⟨b, b + 20, _, _, _, rfl, by go_num, by omega, HN, HQ.out, hTo.trans hT'⟩
      case measure => simp [intOf]; omega
    · go_wp2_with fail
      refine (insertion_any lx HTR.out cf K cb D g n c a n X1 D2 [] W0 hK HC.out HH.out.2.2.2.1 HH.out.2.2.2.2.2 hn (HH.out.tells HT.out).2 (fun z hz => HH.out.mem hz) _ (H0.out.trans hTo) (by rw [List.append_nil]; exact HRR.out)).mono ?_
      rintro e w' ⟨R, rfl, hu, hp, hR', hT'⟩
      rw [List.append_nil] at hp hR'
      have HCH := Lib.hid (HH.out.fin hlt hp hu)
      have HQ := Lib.hid hR'
      have hTn := hTo.trans hT'
      clear hu hp hR' HRR HH hTo hT'
      generalize X1 ++ R = X at HCH HQ
      go_wp2
      go_loopw [6] (fun ss wr => ∃ (s : Nat) (X : List Int), ss = .int .i64 s ∧ 20 ≤ s ∧ s ≤ 2 * n + 20 ∧ Hid (Chunks lx s D X) ∧ RowI wr g n c X ∧ Touch g (g + 1) w wr) (fun ss _ => 2 * n + 21 - (intOf ss).toNat)
      case atStart => exact ⟨20, X, rfl, by omega, by omega, HCH, HQ.out, hTn⟩
      case round =>
        obtain ⟨s, X, rfl, hs20, hsn, HCX, hR, hTo⟩ := hrel
        have HRX := Lib.hid hR
        clear hR HCH HQ hTn
        by_cases hlt2 : s < n
        · obtain ⟨s2, hs2⟩ : ∃ s2, s2 = 2 * s := ⟨_, rfl⟩
          have hs2z : (2 : Int) * (s : Int) = (s2 : Int) := by omega
          have hs2w : (s : Int) * 2 = (s2 : Int) := by omega
          have hs2b : s2 ≤ 2 * n + 20 := by omega
          have hs2c : s < s2 := by omega
          have HS2 := Lib.hid hs2
          clear hs2
          go_wp2
          go_loopw [7, 8] (fun sa sb wr => ∃ (a b : Nat) (D1 X1 D2 X2 : List Int), sa = .int .i64 a ∧ sb = .int .i64 b ∧ b ≤ n + s2 ∧ Hid (InvB lx s s2 n D a b D1 X1 D2 X2) ∧ RowI wr g n c (X1 ++ X2) ∧ Touch g (g + 1) w wr) (fun _ sb _ => n + s2 - (intOf sb).toNat)
          case atStart => exact ⟨0, s2, [], [], D, X, rfl, rfl, by omega, invB_start HRX.out.len HCX.out, HRX.out, hTo⟩
          case round =>
            obtain ⟨a, b, D1, X1, D2, X2, rfl, rfl, hbn2, HH, hR, hTo3⟩ := hrel
            have HRR := Lib.hid hR
            have HBA : Hid (b = a + s2) := HH.out.1
            have hba1 : a ≤ b := by have := HBA.out; omega
            have hba2 : a + s2 ≤ b := by have := HBA.out; omega
            have hba3 : b ≤ a + s2 := by have := HBA.out; omega
            clear hR HCX HRX hTo
            by_cases hlb : b ≤ n
            · obtain ⟨DA, DB, D3, A, B, X3, e1, e2, lA, lB, uA, uB, hT, hM, hF⟩ := HH.out.two HS2.out hlb HT.out
              rw [e2] at HRR
              have hsa : (a : Int) + (s : Int) = ((a + s : Nat) : Int) := by omega
              have HSA := Lib.hid hsa
              have q1 := HS2.out
              have HX1 := Lib.hid HH.out.2.2.2.1
              have SYY := Lib.hid (SY.out s2 a (a + s) b X1 A B X3 (by omega) HX1.out (by omega) (by omega) (by omega) (by omega) uA uB hT hM)
              have HF := Lib.hid hF
              clear e1 e2 lA lB uA uB hT hM hF hsa q1 HH
              go_wp2_with fail
              rw [HSA.out]
              refine (SYY.out _ (H0.out.trans hTo3) HRR.out).mono ?_
              rintro e w' ⟨R, rfl, hu, hp, hR', hT'⟩
              have HN := Lib.hid (HF.out R hp hu)
              have HQ : Hid (RowI w' g n c ((X1 ++ R) ++ X3)) := by unfold Hid; rw [List.append_assoc]; exact hR'
              clear hu hp hR'
              go_wp2
              go_roundw
              case rel => exact ⟨b, b + s2, _, _, _, _, rfl, by first | rfl | go_num | (congr 1; omega), by omega, HN, HQ.out, hTo3.trans hT'⟩
              case measure => simp [intOf]; omega
            · by_cases hmn : a + s < n
              · have hmnz : (a : Int) + (s : Int) < (n : Int) := by omega
                obtain ⟨A, B, e2, lA, lB, lB1, uA, uB, hT, hM, hF⟩ := HH.out.last HS2.out hlb hmn HT.out
                rw [e2] at HRR
                have hsa : (a : Int) + (s : Int) = ((a + s : Nat) : Int) := by omega
                have HSA := Lib.hid hsa
                have q1 := HS2.out
                have HX1 := Lib.hid HH.out.2.2.2.1
                have SYY := Lib.hid (SY.out s2 a (a + s) n X1 A B [] (by omega) HX1.out (by omega) (by omega) (by omega) (by omega) uA uB hT hM)
                have HF := Lib.hid hF
                clear e2 lA lB lB1 uA uB hT hM hF hsa q1 HH
                go_wp2_with fail
                rw [HSA.out]
                refine (SYY.out _ (H0.out.trans hTo3) HRR.out).mono ?_
                rintro e w' ⟨R, rfl, hu, hp, hR', hT'⟩
                rw [List.append_nil] at hR'
                have HN := Lib.hid (HF.out R hp hu)
                have HQ := Lib.hid hR'
                clear hu hp hR'
                go_wp2
                go_roundw
                case rel => exact ⟨s2, _, by first | rfl | go_num | (congr 1; omega), by omega, by omega, HN, HQ.out, hTo3.trans hT'⟩
                case measure => simp [intOf]; omega
              · have hmnz : ¬ (a : Int) + (s : Int) < (n : Int) := by omega
                have HN := Lib.hid (HH.out.fin HS2.out hmn)
                clear HH
                go_wp2
                go_roundw
                case rel => exact ⟨s2, _, by first | rfl | go_num | (congr 1; omega), by omega, by omega, HN, HRR.out, hTo3⟩
                case measure => simp [intOf]; omega
        · have HSN : Hid (n ≤ s) := Nat.le_of_not_lt hlt2
          go_wp2
          go_end0
          refine ⟨X, rfl, HCX.out.one (by rw [HRX.out.len]; exact HSN.out), HCX.out.perm, HRX.out, hTo⟩

theorem sortStable_any (lx : Int → Int → Bool) (htr : ∀ a b c, lx a b = true → lx b c = true → lx a c = true) (cf : Int → Int → Int) (K : Nat) (cb : Array Value) (D : List Int) (g n c : Nat)
    (hK : ∀ (args : Array Value) (w : World), (callFunc K args).run Tryz.prog w = .ok (.enter K args) w) (hn : n ≤ 1000000) (ht : TellsAll lx cf D) (w : World) (hC : CmpOk K cb cf D g w) (hr : RowI w g n c D) :
    Calls Tryz.prog 57 #[.slice (some ⟨g, 0, none⟩) n c, .func (.func K) #[] cb] w (SortTo lx g n c D w) := by
  have H := Lib.hid (stable_any lx htr cf K cb D g n c w hK hC hn ht w (touch_refl _ _ _) hr)
  clear hC hr ht htr
  go_enter Tryz.func57, Tryz.ntmps57
  go_wp2_with fail
  refine H.out.mono ?_
  rintro e w' ⟨R, rfl, hu, hp, hR, hT⟩
  go_wp2
  go_end0
  exact ⟨R, rfl, hu, hp, hR, hT⟩
end
end Go.Proofs.YtjajlddnhmbekaaGreat
