/-
  The walks of slices.Grow and slices.Concat at []float32.
-/
import Derived.Test.YtjajlddnhmbekaaGreatF32s
import Derived.Test.YtjajlddnhmbekaaGreatSl
namespace Go.Proofs.YtjajlddnhmbekaaGreat
open Go.RowKit

set_option maxRecDepth 100000 in
theorem grow_any (n : Nat) (hn : n ≤ 1099511627776) (w : World) :
    Calls Tryz.prog 60 #[.slice none 0 0, .int .i64 n] w fun e w' => ∃ v', e = .returned v' ∧ Own fV 28 w' w.heap.size v' [] ∧ Below w.heap.size w w' := by
  obtain ⟨i0, hi, hz0, hz1, hz2⟩ := info_parts elF_.info
  rcases Nat.eq_zero_or_pos n with h0 | h0
  · subst h0
    go_enter Tryz.func60, Tryz.ntmps60
    go_wp2
    go_ret
    exact ⟨_, rfl, Own.nil, Below.refl _ _⟩
  · have hrun := fun ty => Lib.run_append_nil_zeros (P := Tryz.prog) w 24 3 ty 28 i0 (.float .f32 0) .i64 .i64 elF_.slice Tryz.underlying3 hi hz0 n h0 (by rw [hz1]; decide) (by omega) (by rw [hz2]; omega)
    obtain ⟨C, hC⟩ : ∃ C, C = grownCap w n 0 28 := ⟨_, rfl⟩
    have hge := grownCap_ge w n 0 28
    have hle := grownCap_le_maxLen w n 0 28 (by unfold maxLen; omega)
    rw [← hC] at hge hle hrun
    have HC := Lib.hid hC
    clear hC
    go_enter Tryz.func60, Tryz.ntmps60
    go_wp2_with (at_builtin; go_loud (refine Lib.wpList_append_run _ rfl _ _ _ _ rfl _ _ rfl rfl _ _ (hrun _) ?_))
    go_wp2
    go_ret
    refine ⟨_, rfl, ⟨rfl, .inr ⟨w.heap.size, C, _, rfl, Nat.le_refl _, heap_alloc_new _ _, Nat.zero_le _, hle, ?_, rfl⟩⟩, ((Below.refl _ _).drew).alloc (Nat.le_refl _) _⟩
    simp [size_zeroCells]
    omega

theorem flat_snoc {α : Type} {XS : List (List α)} {k : Nat} {xs : List α} (h : XS[k]? = some xs) : (XS.take (k + 1)).flatten = (XS.take k).flatten ++ xs := by
  rw [take_snoc h]; simp
theorem flat_le {α : Type} (XS : List (List α)) (k : Nat) : (XS.take k).flatten.length ≤ XS.flatten.length := by
  have : XS.flatten = (XS.take k).flatten ++ (XS.drop k).flatten := by rw [← List.flatten_append, List.take_append_drop]
  rw [this, List.length_append]; omega

/-- How long the first k lists are together (a name that the walk does not open). -/
def flen {α : Type} (XS : List (List α)) (k : Nat) : Nat := (XS.take k).flatten.length
theorem flen_snoc {α : Type} {XS : List (List α)} {k : Nat} {xs : List α} (h : XS[k]? = some xs) : flen XS (k + 1) = flen XS k + xs.length := by unfold flen; rw [flat_snoc h, List.length_append]
theorem flen_le {α : Type} {XS : List (List α)} (k : Nat) {m : Nat} (h : XS.flatten.length ≤ m) : flen XS k ≤ m := Nat.le_trans (flat_le XS k) h

set_option maxHeartbeats 800000 in
theorem concat_any (v : Value) (vs : List Value) (XS : List (List Nat)) (hl : vs.length = XS.length) (hn : vs.length ≤ 1000000) (hfl : XS.flatten.length ≤ 1000000) (w : World)
    (hvs : ∀ (k : Nat) (u : Value) (xs : List Nat), vs[k]? = some u → XS[k]? = some xs → Rd fV w u xs) (hr : Rd (fun u => u) w v vs) :
    Calls Tryz.prog 32 #[v] w fun e w' => ∃ v', e = .returned v' ∧ Own fV 28 w' w.heap.size v' XS.flatten ∧ Below w.heap.size w w' := by
  obtain ⟨A, cap, rfl, hcap, hA⟩ := hr
  have HA := Lib.hid hA
  have HVS := Lib.hid hvs
  have HL := Lib.hid hl
  have HF := Lib.hid hfl
  clear hA hvs hl hfl
  go_enter Tryz.func32, Tryz.ntmps32
  go_wp2
  go_loop [3, 11] (fun ss si => ∃ k : Nat, k ≤ vs.length ∧ si = .int .i64 k ∧ ss = .int .i64 (flen XS k)) (fun _ si => vs.length - (intOf si).toNat)
  case atStart => exact ⟨0, by omega, rfl, by simp [flen]⟩
  case round =>
    obtain ⟨k, hk, rfl, rfl⟩ := hrel
    have hb1 := flen_le k HF.out
    by_cases hlt : k < vs.length
    · obtain ⟨u, hu⟩ := get_of_lt hlt
      obtain ⟨xs, hxs⟩ := get_of_lt (xs := XS) (k := k) (by have := HL.out; omega)
      obtain ⟨ad, rfl, hbl, hc⟩ := HA.out k u hu
      obtain ⟨B, c, rfl, hcc, _⟩ := HVS.out k u xs hu hxs
      have hb2 := flen_le (k + 1) HF.out
      have hs := flen_snoc hxs
      rw [hs] at hb2
      have HS := Lib.hid hs
      clear hu hxs hs
      go_wp2
      go_round
      case rel => exact ⟨k + 1, by omega, by go_num, by rw [HS.out]; go_num⟩
      case measure => simp [intOf]; omega
    · go_wp2_with (go_at_call 60; refine (grow_any _ (by omega) _).mono ?_; rintro e w1 ⟨v1, rfl, ho1, hb3⟩)
      go_loopw [6, 27] (fun so si wr => ∃ j : Nat, j ≤ vs.length ∧ si = .int .i64 j ∧ Own fV 28 wr w.heap.size so (XS.take j).flatten ∧ Below w.heap.size w wr) (fun _ si _ => vs.length - (intOf si).toNat)
      case atStart => exact ⟨0, by omega, rfl, ho1, hb3⟩
      case round =>
        obtain ⟨j, hj, rfl, ho2, hb4⟩ := hrel
        clear ho1 hb3
        have hb5 := flen_le j HF.out
        by_cases hlj : j < vs.length
        · obtain ⟨u, hu⟩ := get_of_lt hlj
          obtain ⟨xs, hxs⟩ := get_of_lt (xs := XS) (k := j) (by have := HL.out; omega)
          obtain ⟨ad, rfl, hbl, hc⟩ := HA.out j u hu
          have hcw : wr.cell? (ad.add j) = some u := by rw [hb4.cell (by rw [add_block]; exact hbl)]; exact hc
          have hrd := Lib.hid ((HVS.out j u xs hu hxs).below hb4)
          have hb2 := flen_le (j + 1) HF.out
          rw [flen_snoc hxs] at hb2
          have hs := flat_snoc hxs
          have HS := Lib.hid hs
          have hz := hb4.size
          have HO := Lib.hid ho2
          clear hu hxs hs hc ho2
          go_wp2_with (at_builtin; go_loud (refine elF_.app (fun _ => rfl) _ rfl (.tmp 31) (.tmp 32) rfl w.heap.size _ (XS.take j).flatten rfl HO.out _ xs rfl hrd.out (by omega) (by have : (XS.take j).flatten.length = flen XS j := rfl; omega) hz ?_))
          intro v2 w2 ho3 hg3 hb6 _
          rw [← HS.out] at ho3
          go_wp2
          go_roundw
          case rel => exact ⟨j + 1, by omega, by go_num, ho3, hb4.trans hb6⟩
          case measure => simp [intOf]; omega
        · have hje : j = vs.length := by omega
          have HJ := Lib.hid hje
          clear hje
          go_wp2
          go_ret
          refine ⟨_, rfl, ?_, hb4⟩
          have h := ho2
          rw [HJ.out, HL.out, List.take_length] at h
          exact h

/-- The literal of two slices that a variadic call hands over. -/
theorem concat2_any (u v : Value) (xs ys : List Nat) (hx : xs.length ≤ 100000) (hy : ys.length ≤ 100000) (w : World) (hr : Rd fV w u xs) (hs : Rd fV w v ys) :
    Calls Tryz.prog 32 #[.slice (some ⟨w.heap.size, 0, none⟩) 2 2] (w.alloc (.cells #[u, v] 24)) fun e w' => ∃ v', e = .returned v' ∧ Own fV 28 w' w.heap.size v' (xs ++ ys) ∧ Below w.heap.size w w' := by
  have h1 := concat_any (.slice (some ⟨w.heap.size, 0, none⟩) 2 2) [u, v] [xs, ys] rfl (by simp) (by simp; omega) (w.alloc (.cells #[u, v] 24))
    (by
      intro k a l ha hl
      match k, ha, hl with
      | 0, ha, hl => simp at ha hl; subst ha hl; exact hr.below ((Below.refl _ _).alloc (Nat.le_refl _) _)
      | 1, ha, hl => simp at ha hl; subst ha hl; exact hs.below ((Below.refl _ _).alloc (Nat.le_refl _) _))
    ⟨_, 2, rfl, Nat.le_refl _, fun k x hk => by
      refine ⟨_, rfl, by simp, ?_⟩
      rw [Addr.add_lit, Nat.zero_add, cell_of_row _ _ _ #[u, v] 24 (0, 0) (heap_alloc_new _ _)]
      simpa using hk⟩
  refine h1.mono ?_
  rintro e w' ⟨v', rfl, ho, hb⟩
  exact ⟨v', rfl, by simpa using ho.base_ (base' := w.heap.size) (by simp), ((Below.refl _ _).alloc (Nat.le_refl _) _).trans (hb.mono (B' := w.heap.size) (by simp))⟩
end Go.Proofs.YtjajlddnhmbekaaGreat
