/-
  The walks of spec.l06Both and impl.areSamplesOf.
-/
import Derived.Test.YtmhmekfbnaafmaaSample
import Derived.Test.YtmhmekfbnaafmaaJoin
namespace Go.Proofs.Ytmhmekfbnaafmaa
open Go.RowKit

/-- Two lists are samples with at most m numbers together. -/
def bothB (m : Nat) (xs ys : List Int) : Bool := smpB xs && smpB ys && decide (xs.length + ys.length ≤ m)
theorem smp_len {xs : List Int} (h : smpB xs = true) : 1 ≤ xs.length ∧ xs.length ≤ 40 := by
  unfold smpB at h
  simp only [Bool.and_eq_true, decide_eq_true_eq] at h
  exact h.1
theorem both_parts {m : Nat} {xs ys : List Int} (h : bothB m xs ys = true) : smpB xs = true ∧ smpB ys = true ∧ xs.length + ys.length ≤ m := by
  unfold bothB at h
  simp only [Bool.and_eq_true, decide_eq_true_eq] at h
  exact ⟨h.1.1, h.1.2, h.2⟩
theorem both_of1 {m : Nat} {xs ys : List Int} (h : smpB xs = false) : bothB m xs ys = false := by unfold bothB; rw [h]; rfl
theorem both_of2 {m : Nat} {xs ys : List Int} (h : smpB ys = false) : bothB m xs ys = false := by unfold bothB; rw [h]; simp
theorem both_of3 {m : Nat} {xs ys : List Int} (h : ¬ xs.length + ys.length ≤ m) : bothB m xs ys = false := by unfold bothB; rw [decide_eq_false h]; simp
theorem both_of {m : Nat} {xs ys : List Int} (h1 : smpB xs = true) (h2 : smpB ys = true) (h : xs.length + ys.length ≤ m) : bothB m xs ys = true := by unfold bothB; rw [h1, h2, decide_eq_true h]; rfl

theorem l06Both_any (u v : Value) (xsa xsb : List Int) (hna : xsa.length ≤ 1099511627776) (hnb : xsb.length ≤ 1099511627776) (w : World) (hr : Rd iV w u xsa) (hs : Rd iV w v xsb) :
    Calls Try.prog 32 #[u, v] w fun e w' => e = .returned (.bool (bothB 40 xsa xsb)) ∧ ∃ n, w.drewN n = w' := by
  have HA := Lib.hid hr
  have HB := Lib.hid hs
  obtain ⟨A1, c1, rfl, hc1, hA1⟩ := hr
  obtain ⟨A2, c2, rfl, hc2, hA2⟩ := hs
  clear hA1 hA2
  cases h1 : smpB xsa
  · go_enter Try.func32, Try.ntmps32
    go_wp2_with (go_at_call 42; refine (l06Sample_any _ xsa hna _ HA.out).mono ?_; rintro e w' ⟨rfl, rfl⟩; rw [h1])
    go_ret
    exact ⟨ret_bool (both_of1 h1).symm, _, (World.drewN_zero _)⟩
  · cases h2 : smpB xsb
    · go_enter Try.func32, Try.ntmps32
      go_wp2_with fail
      refine (l06Sample_any _ xsa hna _ HA.out).mono ?_
      rintro e w' ⟨rfl, rfl⟩
      rw [h1]
      go_wp2_with fail
      refine (l06Sample_any _ xsb hnb _ HB.out).mono ?_
      rintro e w' ⟨rfl, rfl⟩
      rw [h2]
      go_wp2
      go_ret
      exact ⟨ret_bool (both_of2 h2).symm, _, (World.drewN_zero _)⟩
    · by_cases h3 : xsa.length + xsb.length ≤ 40
      · go_enter Try.func32, Try.ntmps32
        go_wp2_with fail
        refine (l06Sample_any _ xsa hna _ HA.out).mono ?_
        rintro e w' ⟨rfl, rfl⟩
        rw [h1]
        go_wp2_with fail
        refine (l06Sample_any _ xsb hnb _ HB.out).mono ?_
        rintro e w' ⟨rfl, rfl⟩
        rw [h2]
        go_wp2
        go_ret
        exact ⟨ret_bool ((both_of h1 h2 h3) ▸ (by simp; try omega)), _, (World.drewN_zero _)⟩
      · go_enter Try.func32, Try.ntmps32
        go_wp2_with fail
        refine (l06Sample_any _ xsa hna _ HA.out).mono ?_
        rintro e w' ⟨rfl, rfl⟩
        rw [h1]
        go_wp2_with fail
        refine (l06Sample_any _ xsb hnb _ HB.out).mono ?_
        rintro e w' ⟨rfl, rfl⟩
        rw [h2]
        go_wp2
        go_ret
        exact ⟨ret_bool ((both_of3 h3) ▸ (by simp; try omega)), _, (World.drewN_zero _)⟩

theorem areSamples_any (u v : Value) (xsa xsb : List Int) (m : Nat) (hm0 : m ≤ 1000) (hna : xsa.length ≤ 1099511627776) (hnb : xsb.length ≤ 1099511627776) (w : World) (hr : Rd iV w u xsa) (hs : Rd iV w v xsb) :
    Calls Try.prog 35 #[u, v, .int .i64 m] w fun e w' => e = .returned (.bool (bothB m xsa xsb)) ∧ ∃ n, w.drewN n = w' := by
  have HA := Lib.hid hr
  have HB := Lib.hid hs
  obtain ⟨A1, c1, rfl, hc1, hA1⟩ := hr
  obtain ⟨A2, c2, rfl, hc2, hA2⟩ := hs
  clear hA1 hA2
  cases h1 : smpB xsa
  · go_enter Try.func35, Try.ntmps35
    go_wp2_with (go_at_call 44; refine (isSample_any _ xsa hna _ HA.out).mono ?_; rintro e w' ⟨rfl, n1, rfl⟩; rw [h1])
    go_ret
    exact ⟨ret_bool (both_of1 h1).symm, _, rfl⟩
  · cases h2 : smpB xsb
    · go_enter Try.func35, Try.ntmps35
      go_wp2_with fail
      refine (isSample_any _ xsa hna _ HA.out).mono ?_
      rintro e w' ⟨rfl, n1, rfl⟩
      rw [h1]
      go_wp2_with fail
      refine (isSample_any _ xsb hnb _ (HB.out.drewN _)).mono ?_
      rintro e w' ⟨rfl, n2, rfl⟩
      rw [h2]
      go_wp2
      go_ret
      exact ⟨ret_bool (both_of2 h2).symm, _, rfl⟩
    · by_cases h3 : xsa.length + xsb.length ≤ m
      · go_enter Try.func35, Try.ntmps35
        go_wp2_with fail
        refine (isSample_any _ xsa hna _ HA.out).mono ?_
        rintro e w' ⟨rfl, n1, rfl⟩
        rw [h1]
        go_wp2_with fail
        refine (isSample_any _ xsb hnb _ (HB.out.drewN _)).mono ?_
        rintro e w' ⟨rfl, n2, rfl⟩
        rw [h2]
        go_wp2
        go_ret
        exact ⟨ret_bool ((both_of h1 h2 h3) ▸ (by simp; try omega)), _, rfl⟩
      · go_enter Try.func35, Try.ntmps35
        go_wp2_with fail
        refine (isSample_any _ xsa hna _ HA.out).mono ?_
        rintro e w' ⟨rfl, n1, rfl⟩
        rw [h1]
        go_wp2_with fail
        refine (isSample_any _ xsb hnb _ (HB.out.drewN _)).mono ?_
        rintro e w' ⟨rfl, n2, rfl⟩
        rw [h2]
        go_wp2
        go_ret
        exact ⟨ret_bool ((both_of3 h3) ▸ (by simp; try omega)), _, rfl⟩
end Go.Proofs.Ytmhmekfbnaafmaa
