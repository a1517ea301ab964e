/-
  The walks of impl.SumTail and spec.SumTail.
-/
import Derived.Test.YtmhmekfbnaafmaaSumW
import Derived.Test.YtmhmekfbnaafmaaBoth
namespace Go.Proofs.Ytmhmekfbnaafmaa
open Go.RowKit Go.Maps

def sumB (xs ys : List Int) : Bool := bothB 12 xs ys
def sumP (xs ys : List Int) : Int := if sumB xs ys then ((gM (xs ++ ys) (xs ++ ys).length (fun c s => c == xs.length && decide (sumW xs ≤ s)) : Nat) : Int) else 0
def sumA (xs ys : List Int) : Int := if sumB xs ys then ((gM (xs ++ ys) (xs ++ ys).length (fun c _ => c == xs.length) : Nat) : Int) else 0
def RetSum (xs ys : List Int) (w : World) (e : Ending) (w' : World) : Prop :=
  e = .returned (.tuple #[.int .i64 (sumP xs ys), .int .i64 (sumA xs ys), .bool (sumB xs ys)]) ∧ Below w.heap.size w w'
theorem smp_in {xs : List Int} (h : smpB xs = true) : ∀ x ∈ xs, -1000 ≤ x ∧ x ≤ 1000 := by
  simp only [smpB, Bool.and_eq_true, decide_eq_true_eq, List.all_eq_true] at h
  intro x hx
  have := h.2 x hx
  simpa [inB] using this
theorem sumTail1_any (x o : Int) (b : Nat) (w : World) (hc : w.cell? ⟨b, 0, none⟩ = some (iV o)) : Calls Try.prog 40 #[iV x, .pointer (some ⟨b, 0, none⟩)] w fun e w' => e = .returned (.bool (decide (o ≤ x))) ∧ w = w' := by
  go_enter Try.func40, Try.ntmps40
  go_wp2
  go_ret
  exact ⟨rfl, rfl⟩
theorem enter_sumTail1 (args : Array Value) (w : World) : (callFunc 40 args).run Try.prog w = .ok (.enter 40 args) w :=
  enter_of Try.func40 (by kernel_rfl) (by kernel_rfl) args w

set_option maxRecDepth 100000 in
set_option maxHeartbeats 1000000 in
theorem implSum_any (u : Value) (xa : List Int) (ha : xa.length ≤ 1099511627776) (v : Value) (xb : List Int) (hb : xb.length ≤ 1099511627776) (w : World) (hr : Rd iV w u xa) (hs : Rd iV w v xb) :
    Calls Try.prog 21 #[u, v] w (RetSum xa xb w) := by
  have HA := Lib.hid hr
  have HB := Lib.hid hs
  obtain ⟨A1, c1, rfl, hc1, hA1⟩ := hr
  obtain ⟨A2, c2, rfl, hc2, hA2⟩ := hs
  clear hA1 hA2
  cases h : bothB 12 xa xb
  · go_enter Try.func21, Try.ntmps21
    go_wp2_with (go_at_call 35; go_loud (refine (areSamples_any _ _ xa xb 12 (by omega) ha hb _ HA.out HB.out).mono ?_); rintro e w' ⟨rfl, n, rfl⟩; rw [h])
    go_ret3
    have e : sumB xa xb = false := h
    exact ⟨by unfold sumP sumA; rw [e]; rfl, below_of_drew ⟨_, rfl⟩⟩
  · obtain ⟨g1, g2, g3⟩ := both_parts h
    have hin : ∀ x ∈ xa ++ xb, -1000 ≤ x ∧ x ≤ 1000 := fun x hx => by
      rcases List.mem_append.1 hx with h | h
      · exact smp_in g1 x h
      · exact smp_in g2 x h
    have HIN := Lib.hid hin
    have HH := Lib.hid h
    clear hin
    go_enter Try.func21, Try.ntmps21
    go_wp2_with (go_at_call 35; go_loud (refine (areSamples_any _ _ xa xb 12 (by omega) ha hb _ HA.out HB.out).mono ?_); rintro e w' ⟨rfl, n, rfl⟩; rw [h])
    go_wp2_with fail
    refine (total_any _ xa (by omega) _ (HA.out.drewN n)).mono ?_
    rintro e w1 ⟨rfl, rfl⟩
    obtain ⟨w1, hw1⟩ : ∃ w1, w1 = w.drewN n := ⟨_, rfl⟩
    have hb1 : Below w.heap.size w w1 := by rw [hw1]; exact below_of_drew ⟨_, rfl⟩
    rw [← hw1]
    clear hw1
    go_wp2_with fail
    obtain ⟨own, hown⟩ : ∃ own, own = sumW xa := ⟨_, rfl⟩
    have HOWN := Lib.hid hown
    rw [← hown]
    have e2 : (w1.alloc (.cells #[.int .i64 own] 2)).heap.size = w1.heap.size + 1 := by simp
    have hcell : (w1.alloc (.cells #[.int .i64 own] 2)).cell? ⟨w1.heap.size, 0, none⟩ = some (iV own) := by rw [World.cell?_alloc_new]; rfl
    have hb2 : Below w.heap.size w (w1.alloc (.cells #[.int .i64 own] 2)) := hb1.alloc hb1.size _
    rw [← e2]
    obtain ⟨ob, hob⟩ : ∃ ob, ob = w1.heap.size := ⟨_, rfl⟩
    rw [← hob] at e2 hcell ⊢
    have hob0 : w.heap.size ≤ ob := by rw [hob]; exact hb1.size
    generalize w1.alloc (.cells #[.int .i64 own] 2) = w2 at e2 hcell hb2 ⊢
    have HAA := Lib.hid (HA.out.below hb2)
    have HBB := Lib.hid (HB.out.below hb2)
    clear hown hob hb1
    refine (concat2_any _ _ xa xb (by omega) (by omega) w2 HAA.out HBB.out).mono ?_
    rintro e w3 ⟨v3, rfl, o3, b3⟩
    have hcell3 : w3.cell? ⟨ob, 0, none⟩ = some (iV own) := by rw [b3.cell (by simp only; omega)]; exact hcell
    have hz2 := hb2.size
    have hb3 : Below w.heap.size w w3 := below_to hb2 b3 hz2
    have hll : (xa ++ xb).length ≤ 12 := by simp; omega
    have HO3 := Lib.hid o3
    have hz3 := b3.size
    clear o3
    go_wp2_with fail
    refine (waysTo_any _ (xa ++ xb) xa.length hll (by omega) HIN.out w3 HO3.out.rd).mono ?_
    rintro e w4 ⟨b, N, D, rfl, hbl, hmap, hD, hK, b4⟩
    have hcell4 : w4.cell? ⟨ob, 0, none⟩ = some (iV own) := by rw [b4.cell (by simp only; omega)]; exact hcell3
    have hb4 : Below w.heap.size w w4 := below_to hb3 b4 hb3.size
    have hz4 := b4.size
    have HHD := Lib.hid hD
    have HHK := Lib.hid hK
    clear hD hK
    go_wp2_with fail
    have hsb := fun m => sB_bd (xs := xa ++ xb) (C := 1000) HIN.out (by omega) m (xa ++ xb).length
    refine (countWin_any (fun s => decide (own ≤ s)) 40 #[.pointer (some ⟨ob, 0, none⟩)] b N 24000 (-12000) (fM (xa ++ xb) (xa ++ xb).length xa.length) D (fun args w => enter_sumTail1 args w) w4 hmap HHD.out (keysIn2_mono HHK.out (by omega) (by omega))
      (fun x W hW => (sumTail1_any x own ob W (by rw [hW.cell (by simp only; omega)]; exact hcell4)).mono fun _ _ ⟨h1, h2⟩ => ⟨h1, 0, h2⟩)).mono ?_
    rintro e w5 ⟨rfl, b5⟩
    have hb5 : Below w.heap.size w w5 := below_to hb4 b5 hb4.size
    rw [win_is (xa ++ xb) (xa ++ xb).length xa.length (fun s => decide (own ≤ s)) (-12000) 24000 (by omega) (fun m => by have := hsb m; omega)]
    obtain ⟨pt, hpt⟩ : ∃ pt : Int, pt = ((gM (xa ++ xb) (xa ++ xb).length (fun c t => c == xa.length && decide (own ≤ t)) : Nat) : Int) := ⟨_, rfl⟩
    rw [← hpt]
    have hpart : pt = sumP xa xb := by
      have e : sumB xa xb = true := HH.out
      unfold sumP
      rw [e, hpt, HOWN.out]
      rfl
    obtain ⟨q, hq⟩ : ∃ q, q = (xa ++ xb).length := ⟨_, rfl⟩
    have hq1 : xa.length ≤ q := by rw [hq]; simp
    have hq2 : q ≤ 12 := by omega
    have hn1 : IntKind.i64.wrap ((xa.length : Int) + (xb.length : Int)) = (q : Int) := by rw [IntWalk.i64_in _ (by omega), hq, List.length_append]; omega
    have HQ := Lib.hid hq
    have HP := Lib.hid hpart
    clear hpt hpart hsb hq
    go_wp2_with fail
    refine (choices_any q xa.length (by omega) hq1 w5).mono ?_
    rintro e w6 ⟨rfl, b6⟩
    have hall : wC q xa.length = sumA xa xb := by
      have e : sumB xa xb = true := HH.out
      unfold sumA
      rw [e, HQ.out, ← gM_all (xs := xa ++ xb) (Nat.le_refl _) (by omega)]
      rfl
    obtain ⟨al, hal⟩ : ∃ al, al = wC q xa.length := ⟨_, rfl⟩
    rw [← hal] at hall ⊢
    have HAL := Lib.hid hall
    have HSB : Hid (true = sumB xa xb) := Lib.hid (Eq.symm HH.out)
    clear hal hall
    go_wp2
    go_ret3
    exact ⟨ret_iib HP.out HAL.out HSB.out, below_to hb5 b6 hb5.size⟩
end Go.Proofs.Ytmhmekfbnaafmaa
