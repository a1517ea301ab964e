/-
  The walks of slices.stableCmpFunc and SortStableFunc at int64.
-/
import Derived.Test.YtjajlddnhmbekaaStable
import Derived.Test.YtjajlddnhmbekaaStab
namespace Go.Proofs.Ytjajlddnhmbekaa
open Go.RowKit

/-- The row has been sorted. -/
def SortTo (lx : Int → Int → Bool) (g n c : Nat) (D : List Int) (w : World) (e : Ending) (w' : World) : Prop :=
  ∃ R, e = .returned (.tuple #[]) ∧ Up lx R ∧ R.Perm D ∧ RowI w' g n c R ∧ Touch g (g + 1) w w'

set_option maxHeartbeats 3200000 in
set_option maxRecDepth 100000 in
theorem stable_any (lx : Int → Int → Bool) (htr : ∀ a b c, lx a b = true → lx b c = true → lx a c = true) (cf : Int → Int → Int) (K : Nat) (cb : Array Value) (D : List Int) (g n c : Nat) (W0 : World)
    (hK : ∀ (args : Array Value) (w : World), (callFunc K args).run Try.prog w = .ok (.enter K args) w) (hC : CmpOk K cb cf D g W0)
    (hn : n ≤ 1000000) (ht : TellsAll lx cf D) (w : World) (h0 : Touch g (g + 1) W0 w) (hr : RowI w g n c D) :
    Calls Try.prog 56 #[.slice (some ⟨g, 0, none⟩) n c, .int .i64 n, .func (.func K) #[] cb] w (SortTo lx g n c D w) := by
  have HC := Lib.hid hC
  have HL := Lib.hid hr.len
  have HT := Lib.hid ht
  have H0 := Lib.hid h0
  have HTR := Lib.hid htr
  have HR := Lib.hid hr
  have SY := Lib.hid (fun N => sym_any lx htr cf K cb D g n c W0 hK hC hn N)
  clear hC ht h0 htr hr
  go_enter Try.func56, Try.ntmps56
  go_wp2
  go_loopw [7, 8] (fun sa sb wr => ∃ (a b : Nat) (D1 X1 D2 : List Int), sa = .int .i64 a ∧ sb = .int .i64 b ∧ b ≤ n + 20 ∧ Hid (InvA lx D n a b D1 X1 D2) ∧ RowI wr g n c (X1 ++ D2) ∧ Touch g (g + 1) w wr) (fun _ sb _ => n + 20 - (intOf sb).toNat)
  case atStart => exact ⟨0, 20, [], [], D, rfl, rfl, by omega, invA_start HL.out, HR.out, touch_refl _ _ _⟩
  case round =>
    obtain ⟨a, b, D1, X1, D2, rfl, rfl, hbn, HH, hR, hTo⟩ := hrel
    have HRR := Lib.hid hR
    clear hR HR
    by_cases hlt : b ≤ n
    · go_wp2_with fail
      have hba := HH.out.1
      refine (insertion_any lx HTR.out cf K cb D g n c a b X1 (D2.take 20) (D2.drop 20) W0 hK HC.out HH.out.2.2.2.1 (by rw [HH.out.take hlt]; omega) hn (HH.out.tells HT.out).1 (fun z hz => HH.out.mem (List.mem_of_mem_take hz)) _ (H0.out.trans hTo) (by rw [List.take_append_drop]; exact HRR.out)).mono ?_
      rintro e w' ⟨R, rfl, hu, hp, hR', hT'⟩
      rw [List.append_nil] at hp
      have HN := Lib.hid (HH.out.step hlt hp hu)
      have HQ : Hid (RowI w' g n c ((X1 ++ R) ++ D2.drop 20)) := by unfold Hid; rw [List.append_assoc]; exact hR'
      clear hu hp hR' hba
      go_wp2
      go_roundw
      case rel => exact ⟨b, b + 20, _, _, _, rfl, by go_num, by omega, HN, HQ.out, hTo.trans hT'⟩
      case measure => simp [intOf]; omega
    · go_wp2_with fail
      refine (insertion_any lx HTR.out cf K cb D g n c a n X1 D2 [] W0 hK HC.out HH.out.2.2.2.1 HH.out.2.2.2.2.2 hn (HH.out.tells HT.out).2 (fun z hz => HH.out.mem hz) _ (H0.out.trans hTo) (by rw [List.append_nil]; exact HRR.out)).mono ?_
      rintro e w' ⟨R, rfl, hu, hp, hR', hT'⟩
      rw [List.append_nil] at hp hR'
      have HCH := Lib.hid (HH.out.fin hlt hp hu)
      have HQ := Lib.hid hR'
      have hTn := hTo.trans hT'
      clear hu hp hR' HRR HH hTo hT'
      generalize X1 ++ R = X at HCH HQ
      go_wp2
      go_loopw [6] (fun ss wr => ∃ (s : Nat) (X : List Int), ss = .int .i64 s ∧ 20 ≤ s ∧ s ≤ 2 * n + 20 ∧ Hid (Chunks lx s D X) ∧ RowI wr g n c X ∧ Touch g (g + 1) w wr) (fun ss _ => 2 * n + 21 - (intOf ss).toNat)
      case atStart => exact ⟨20, X, rfl, by omega, by omega, HCH, HQ.out, hTn⟩
      case round =>
        obtain ⟨s, X, rfl, hs20, hsn, HCX, hR, hTo⟩ := hrel
        have HRX := Lib.hid hR
        clear hR HCH HQ hTn
        by_cases hlt2 : s < n
        · obtain ⟨s2, hs2⟩ : ∃ s2, s2 = 2 * s := ⟨_, rfl⟩
          have hs2z : (2 : Int) * (s : Int) = (s2 : Int) := by omega
          have hs2w : (s : Int) * 2 = (s2 : Int) := by omega
          have hs2b : s2 ≤ 2 * n + 20 := by omega
          have hs2c : s < s2 := by omega
          have HS2 := Lib.hid hs2
          clear hs2
          go_wp2
          go_loopw [7, 8] (fun sa sb wr => ∃ (a b : Nat) (D1 X1 D2 X2 : List Int), sa = .int .i64 a ∧ sb = .int .i64 b ∧ b ≤ n + s2 ∧ Hid (InvB lx s s2 n D a b D1 X1 D2 X2) ∧ RowI wr g n c (X1 ++ X2) ∧ Touch g (g + 1) w wr) (fun _ sb _ => n + s2 - (intOf sb).toNat)
          case atStart => exact ⟨0, s2, [], [], D, X, rfl, rfl, by omega, invB_start HRX.out.len HCX.out, HRX.out, hTo⟩
          case round =>
            obtain ⟨a, b, D1, X1, D2, X2, rfl, rfl, hbn2, HH, hR, hTo3⟩ := hrel
            have HRR := Lib.hid hR
            have HBA : Hid (b = a + s2) := HH.out.1
            have hba1 : a ≤ b := by have := HBA.out; omega
            have hba2 : a + s2 ≤ b := by have := HBA.out; omega
            have hba3 : b ≤ a + s2 := by have := HBA.out; omega
            clear hR HCX HRX hTo
            by_cases hlb : b ≤ n
            · obtain ⟨DA, DB, D3, A, B, X3, e1, e2, lA, lB, uA, uB, hT, hM, hF⟩ := HH.out.two HS2.out hlb HT.out
              rw [e2] at HRR
              have hsa : (a : Int) + (s : Int) = ((a + s : Nat) : Int) := by omega
              have HSA := Lib.hid hsa
              have q1 := HS2.out
              have HX1 := Lib.hid HH.out.2.2.2.1
              have SYY := Lib.hid (SY.out s2 a (a + s) b X1 A B X3 (by omega) HX1.out (by omega) (by omega) (by omega) (by omega) uA uB hT hM)
              have HF := Lib.hid hF
              clear e1 e2 lA lB uA uB hT hM hF hsa q1 HH
              go_wp2_with fail
              rw [HSA.out]
              refine (SYY.out _ (H0.out.trans hTo3) HRR.out).mono ?_
              rintro e w' ⟨R, rfl, hu, hp, hR', hT'⟩
              have HN := Lib.hid (HF.out R hp hu)
              have HQ : Hid (RowI w' g n c ((X1 ++ R) ++ X3)) := by unfold Hid; rw [List.append_assoc]; exact hR'
              clear hu hp hR'
              go_wp2
              go_roundw
              case rel => exact ⟨b, b + s2, _, _, _, _, rfl, by first | rfl | go_num | (congr 1; omega), by omega, HN, HQ.out, hTo3.trans hT'⟩
              case measure => simp [intOf]; omega
            · by_cases hmn : a + s < n
              · have hmnz : (a : Int) + (s : Int) < (n : Int) := by omega
                obtain ⟨A, B, e2, lA, lB, lB1, uA, uB, hT, hM, hF⟩ := HH.out.last HS2.out hlb hmn HT.out
                rw [e2] at HRR
                have hsa : (a : Int) + (s : Int) = ((a + s : Nat) : Int) := by omega
                have HSA := Lib.hid hsa
                have q1 := HS2.out
                have HX1 := Lib.hid HH.out.2.2.2.1
                have SYY := Lib.hid (SY.out s2 a (a + s) n X1 A B [] (by omega) HX1.out (by omega) (by omega) (by omega) (by omega) uA uB hT hM)
                have HF := Lib.hid hF
                clear e2 lA lB lB1 uA uB hT hM hF hsa q1 HH
                go_wp2_with fail
                rw [HSA.out]
                refine (SYY.out _ (H0.out.trans hTo3) HRR.out).mono ?_
                rintro e w' ⟨R, rfl, hu, hp, hR', hT'⟩
                rw [List.append_nil] at hR'
                have HN := Lib.hid (HF.out R hp hu)
                have HQ := Lib.hid hR'
                clear hu hp hR'
                go_wp2
                go_roundw
                case rel => exact ⟨s2, _, by first | rfl | go_num | (congr 1; omega), by omega, by omega, HN, HQ.out, hTo3.trans hT'⟩
                case measure => simp [intOf]; omega
              · have hmnz : ¬ (a : Int) + (s : Int) < (n : Int) := by omega
                have HN := Lib.hid (HH.out.fin HS2.out hmn)
                clear HH
                go_wp2
                go_roundw
                case rel => exact ⟨s2, _, by first | rfl | go_num | (congr 1; omega), by omega, by omega, HN, HRR.out, hTo3⟩
                case measure => simp [intOf]; omega
        · have HSN : Hid (n ≤ s) := Nat.le_of_not_lt hlt2
          go_wp2
          go_end0
          refine ⟨X, rfl, HCX.out.one (by rw [HRX.out.len]; exact HSN.out), HCX.out.perm, HRX.out, hTo⟩

theorem sortStable_any (lx : Int → Int → Bool) (htr : ∀ a b c, lx a b = true → lx b c = true → lx a c = true) (cf : Int → Int → Int) (K : Nat) (cb : Array Value) (D : List Int) (g n c : Nat)
    (hK : ∀ (args : Array Value) (w : World), (callFunc K args).run Try.prog w = .ok (.enter K args) w) (hn : n ≤ 1000000) (ht : TellsAll lx cf D) (w : World) (hC : CmpOk K cb cf D g w) (hr : RowI w g n c D) :
    Calls Try.prog 47 #[.slice (some ⟨g, 0, none⟩) n c, .func (.func K) #[] cb] w (SortTo lx g n c D w) := by
  have H := Lib.hid (stable_any lx htr cf K cb D g n c w hK hC hn ht w (touch_refl _ _ _) hr)
  clear hC hr ht htr
  go_enter Try.func47, Try.ntmps47
  go_wp2_with fail
  refine H.out.mono ?_
  rintro e w' ⟨R, rfl, hu, hp, hR, hT⟩
  go_wp2
  go_end0
  exact ⟨R, rfl, hu, hp, hR, hT⟩
end Go.Proofs.Ytjajlddnhmbekaa
