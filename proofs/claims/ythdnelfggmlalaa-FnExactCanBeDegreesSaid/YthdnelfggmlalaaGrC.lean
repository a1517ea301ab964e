/-
  spec.GraphOfDegrees, spec.CanBeDegrees, impl.CanBeDegrees.
-/
import Derived.Test.YthdnelfggmlalaaGrU
import Derived.Test.YthdnelfggmlalaaGrI
namespace Go.Proofs.Ythdnelfggmlalaa
open Go.RowKit

theorem graphR_len (xs : List Int) : (graphR xs).length ≤ 4096 := by
  unfold graphR
  split
  · rename_i h
    unfold graphB at h
    rw [Bool.and_eq_true] at h
    cases hg : graphO xs with
    | none => rw [hg] at h; cases h.2
    | some out =>
      rw [hg] at h
      have h1 := of_decide_eq_true h.2
      simp only [Option.getD_some]
      unfold inOrd
      rw [flatP_len, List.length_mergeSort, List.length_map]
      have h2 : ∀ (l : List Int), 2 * (pairsOf l).length ≤ l.length := by
        intro l
        match l with
        | [] => simp [pairsOf]
        | [a] => simp [pairsOf]
        | a :: b :: t =>
          have : ∀ (m : Nat) (l : List Int), l.length ≤ m → 2 * (pairsOf l).length ≤ l.length := by
            intro m
            induction m with
            | zero =>
              intro l hl
              have e : l = [] := List.eq_nil_of_length_eq_zero (by omega)
              subst e
              simp [pairsOf]
            | succ m ih =>
              intro l hl
              match l, hl with
              | [], _ => simp [pairsOf]
              | [a], _ => simp [pairsOf]
              | a :: b :: t, hl =>
                have := ih t (by simp at hl; omega)
                simp only [pairsOf, List.length_cons]
                omega
          exact this _ _ (Nat.le_refl _)
      have := h2 out
      omega
  · simp

theorem specGraph_any (v : Value) (xs : List Int) (hn : xs.length ≤ 1099511627776) (w : World) (hr : Rd iV w v xs) :
    Calls Try.prog 36 #[v] w (RetGraph xs w) := by
  have HR := Lib.hid hr
  obtain ⟨A, cap, rfl, hcap, hA⟩ := hr
  clear hA
  unfold RetGraph
  cases hok : okDeg xs
  · have HB : Hid (graphB xs = false) := graphB_bad hok
    have HRR : Hid (graphR xs = []) := graphR_false HB.out
    go_enter Try.func36, Try.ntmps36
    go_wp2_with (go_at_call 70; refine (l04AreDeg_any _ xs hn _ HR.out).mono ?_; rintro e w' ⟨⟨s, rfl⟩, rfl⟩; rw [hok])
    go_ret2
    exact ⟨.slice none 0 0, by rw [HB.out]; rfl, by rw [HRR.out]; exact Own.nil, Below.refl _ _⟩
  · have HOK := Lib.hid hok
    go_enter Try.func36, Try.ntmps36
    go_wp2_with (go_at_call 70; refine (l04AreDeg_any _ xs hn _ HR.out).mono ?_; rintro e w' ⟨⟨s, rfl⟩, rfl⟩; rw [hok])
    refine (l04Build_any _ xs HOK.out _ HR.out).mono ?_
    rintro e w2 ⟨⟨out, v2, hg, rfl, ho, hl, hl2⟩ | ⟨hg, rfl⟩, hb⟩
    · obtain ⟨A2, c2, rfl, -, -⟩ := ho.rd
      have ho' : Own iV 2 w2 w.heap.size (.slice A2 out.length c2) (inOrd out) := by rw [← hl]; exact ho
      rw [hl]
      have HO := Lib.hid ho'
      have HG := Lib.hid hg
      clear ho ho' hg hl
      by_cases h512 : out.length ≤ 512
      · have HB5 : Hid (graphB xs = true) := by unfold Hid; rw [graphB_some HOK.out HG.out]; exact decide_eq_true h512
        have HRR : Hid (graphR xs = inOrd out) := graphR_true HB5.out HG.out
        have h5 : ¬ 512 < out.length := by omega
        go_wp2
        go_ret2
        refine ⟨.slice A2 out.length c2, by rw [HB5.out]; rfl, ?_, hb⟩
        rw [HRR.out]
        exact HO.out
      · have HB5 : Hid (graphB xs = false) := by unfold Hid; rw [graphB_some HOK.out HG.out]; exact decide_eq_false h512
        have HRR : Hid (graphR xs = []) := graphR_false HB5.out
        have h5 : 512 < out.length := by omega
        go_wp2
        go_ret2
        exact ⟨.slice none 0 0, by rw [HB5.out]; rfl, by rw [HRR.out]; exact Own.nil, hb⟩
    · have HB5 : Hid (graphB xs = false) := graphB_none hg
      have HRR : Hid (graphR xs = []) := graphR_false HB5.out
      go_wp2
      go_ret2
      exact ⟨.slice none 0 0, by rw [HB5.out]; rfl, by rw [HRR.out]; exact Own.nil, hb⟩

def RetCan (xs : List Int) (w : World) (e : Ending) (w' : World) : Prop := e = .returned (.bool (graphB xs)) ∧ Below w.heap.size w w'
theorem implCan_any (v : Value) (xs : List Int) (hn : xs.length ≤ 1099511627776) (w : World) (hr : Rd iV w v xs) :
    Calls Try.prog 35 #[v] w (RetCan xs w) := by
  have HC := Lib.hid (implGraph_any v xs hn w hr)
  unfold RetCan
  obtain ⟨b, hb⟩ : ∃ b, b = graphB xs := ⟨_, rfl⟩
  unfold RetGraph at HC
  rw [← hb] at HC ⊢
  clear hr hb
  go_enter Try.func35, Try.ntmps35
  go_wp2_with (go_at_call 37; refine HC.out.mono ?_; rintro e w' ⟨v', rfl, -, hbb⟩)
  go_ret
  exact ⟨rfl, hbb⟩
theorem specCan_any (v : Value) (xs : List Int) (hn : xs.length ≤ 1099511627776) (w : World) (hr : Rd iV w v xs) :
    Calls Try.prog 34 #[v] w (RetCan xs w) := by
  have HR := Lib.hid hr
  obtain ⟨A, cap, rfl, hcap, hA⟩ := hr
  clear hA
  unfold RetCan
  cases hok : okDeg xs
  · have HB : Hid (graphB xs = false) := graphB_bad hok
    go_enter Try.func34, Try.ntmps34
    go_wp2_with (go_at_call 70; refine (l04AreDeg_any _ xs hn _ HR.out).mono ?_; rintro e w' ⟨⟨s, rfl⟩, rfl⟩; rw [hok])
    go_ret
    exact ⟨ret_bool HB.out.symm, Below.refl _ _⟩
  · have HOK := Lib.hid hok
    go_enter Try.func34, Try.ntmps34
    go_wp2_with (go_at_call 70; refine (l04AreDeg_any _ xs hn _ HR.out).mono ?_; rintro e w' ⟨⟨s, rfl⟩, rfl⟩; rw [hok])
    refine (l04Build_any _ xs HOK.out _ HR.out).mono ?_
    rintro e w2 ⟨⟨out, v2, hg, rfl, ho, hl, hl2⟩ | ⟨hg, rfl⟩, hb⟩
    · obtain ⟨A2, c2, rfl, -, -⟩ := ho.rd
      rw [hl]
      have HG := Lib.hid hg
      have HB5 : Hid (graphB xs = decide (out.length ≤ 512)) := graphB_some HOK.out HG.out
      clear ho hg hl
      by_cases h512 : out.length ≤ 512
      · go_wp2
        go_ret
        exact ⟨ret_bool (by rw [HB5.out, decide_eq_true h512]; first | rfl | exact decide_eq_true (by omega)), hb⟩
      · go_wp2
        go_ret
        exact ⟨ret_bool (by rw [HB5.out, decide_eq_false h512]; first | rfl | exact decide_eq_false (by omega)), hb⟩
    · have HB5 : Hid (graphB xs = false) := graphB_none hg
      go_wp2
      go_ret
      exact ⟨ret_bool HB5.out.symm, hb⟩
end Go.Proofs.Ythdnelfggmlalaa
