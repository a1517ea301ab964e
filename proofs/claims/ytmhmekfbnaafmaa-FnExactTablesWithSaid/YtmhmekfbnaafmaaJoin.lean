/-
  The walks of spec.l06Joined, slices.Grow and slices.Concat at []int64 (two lists), impl.total, spec.l06First.
-/
import Derived.Test.YtmhmekfbnaafmaaInts
import Derived.Test.YtmhmekfbnaafmaaApp
namespace Go.Proofs.Ytmhmekfbnaafmaa
open Go.RowKit

theorem one_iV (x : Int) : (iV x).oneCell' = true := rfl

theorem l06Joined_any (u v : Value) (xs ys : List Int) (hn : xs.length + ys.length ≤ 1099511627776) (w : World) (hr : Rd iV w u xs) (hs : Rd iV w v ys) :
    Calls Try.prog 33 #[u, v] w fun e w' => ∃ v', e = .returned v' ∧ Own iV 2 w' w.heap.size v' (xs ++ ys) ∧ Below w.heap.size w w' := by
  have HR := Lib.hid hr
  have HS := Lib.hid hs
  clear hr hs
  go_enter Try.func33, Try.ntmps33
  go_wp2_with (at_builtin; go_loud (refine elI_.app one_iV _ rfl (.tmp 5) (.tmp 6) rfl w.heap.size _ [] rfl (own_nil_new iV w _) _ xs rfl (HR.out.alloc _) (by omega) (by simp; omega) (by simp) ?_))
  intro v1 w1 ho1 hg1 hb1 _
  have hbw : Below w.heap.size w w1 := ((Below.refl _ _).alloc (Nat.le_refl _) _).trans hb1
  have HO := Lib.hid ho1
  clear ho1
  go_wp2_with (at_builtin; go_loud (refine elI_.app one_iV _ rfl (.tmp 7) (.tmp 8) rfl w.heap.size _ xs rfl HO.out _ ys rfl (HS.out.below hbw) (by omega) (by omega) hbw.size ?_))
  intro v2 w2 ho2 hg2 hb2 _
  go_wp2
  go_ret
  exact ⟨_, rfl, ho2, hbw.trans hb2⟩

/-- The sum of a list, each step wrapped. -/
def sumW (l : List Int) : Int := l.foldl (fun s x => wrap64 (s + x)) 0
theorem sumW_snoc (l : List Int) (x : Int) : sumW (l ++ [x]) = wrap64 (sumW l + x) := by simp [sumW]

theorem total_any (v : Value) (xs : List Int) (hn : xs.length ≤ 1099511627776) (w : World) (hr : Rd iV w v xs) :
    Calls Try.prog 36 #[v] w fun e w' => e = .returned (.int .i64 (sumW xs)) ∧ w = w' := by
  obtain ⟨A, cap, rfl, hcap, hA⟩ := hr
  have HA := Lib.hid hA
  clear hA
  go_enter Try.func36, Try.ntmps36
  go_wp2
  go_loop [3, 8] (fun ss si => ∃ k : Nat, k ≤ xs.length ∧ si = .int .i64 k ∧ ss = .int .i64 (sumW (xs.take k))) (fun _ si => xs.length - (intOf si).toNat)
  case atStart => exact ⟨0, by omega, rfl, rfl⟩
  case round =>
    obtain ⟨k, hk, rfl, rfl⟩ := hrel
    by_cases hlt : k < xs.length
    · obtain ⟨x, hx⟩ := get_of_lt hlt
      obtain ⟨ad, rfl, hbl, hc⟩ := HA.out k x hx
      have hsn := sumW_snoc (xs.take k) x
      rw [← take_snoc hx] at hsn
      have HS := Lib.hid hsn
      clear hx hsn
      go_wp2
      go_round
      case rel => exact ⟨k + 1, by omega, by go_num, by rw [HS.out]⟩
      case measure => simp [intOf]; omega
    · have hke : k = xs.length := by omega
      have HK := Lib.hid hke
      clear hke
      go_wp2
      go_ret
      exact ⟨ret_int (by rw [HK.out, List.take_length]), rfl⟩

theorem l06First_any (v : Value) (xs : List Int) (n : Nat) (hn : xs.length ≤ 1099511627776) (hm : n ≤ xs.length) (w : World) (hr : Rd iV w v xs) :
    Calls Try.prog 34 #[v, .int .i64 n] w fun e w' => e = .returned (.int .i64 (sumW (xs.take n))) ∧ w = w' := by
  obtain ⟨A, cap, rfl, hcap, hA⟩ := hr
  have HA := Lib.hid hA
  clear hA
  go_enter Try.func34, Try.ntmps34
  go_wp2
  go_loop [5, 6] (fun ss si => ∃ k : Nat, k ≤ n ∧ si = .int .i64 k ∧ ss = .int .i64 (sumW (xs.take k))) (fun _ si => n - (intOf si).toNat)
  case atStart => exact ⟨0, by omega, rfl, rfl⟩
  case round =>
    obtain ⟨k, hk, rfl, rfl⟩ := hrel
    by_cases hlt : k < n
    · obtain ⟨x, hx⟩ := get_of_lt (show k < xs.length by omega)
      obtain ⟨ad, rfl, hbl, hc⟩ := HA.out k x hx
      have hsn := sumW_snoc (xs.take k) x
      rw [← take_snoc hx] at hsn
      have HS := Lib.hid hsn
      clear hx hsn
      have hkl : k < xs.length := by omega
      go_wp2
      go_round
      case rel => exact ⟨k + 1, by omega, by go_num, by rw [HS.out]⟩
      case measure => simp [intOf]; omega
    · have hke : k = n := by omega
      have HK := Lib.hid hke
      clear hke
      go_wp2
      go_ret
      exact ⟨ret_int (by rw [HK.out]), rfl⟩

/-- How many numbers are at most x. -/
def atM (l : List Int) (x : Int) : Int := l.foldl (fun m n => if n ≤ x then m + 1 else m) 0
theorem atM_snoc (l : List Int) (x n : Int) : atM (l ++ [n]) x = if n ≤ x then atM l x + 1 else atM l x := by simp [atM]
theorem atM_bd (x : Int) (l : List Int) : 0 ≤ atM l x ∧ atM l x ≤ l.length := by
  have h : ∀ (l : List Int) (r : Int), r ≤ l.foldl (fun m n => if n ≤ x then m + 1 else m) r ∧ l.foldl (fun m n => if n ≤ x then m + 1 else m) r ≤ r + l.length := by
    intro l
    induction l with
    | nil => intro r; simp
    | cons n l ih =>
      intro r
      simp only [List.foldl_cons, List.length_cons]
      have := ih (if n ≤ x then r + 1 else r)
      split at this
      · rename_i hn; simp only [hn, if_true]; omega
      · rename_i hn; simp only [hn, if_false]; omega
  have := h l 0
  unfold atM
  omega

set_option maxRecDepth 100000 in
theorem grow_any (n : Nat) (hn : n ≤ 1099511627776) (w : World) :
    Calls Try.prog 63 #[.slice none 0 0, .int .i64 n] w fun e w' => ∃ v', e = .returned v' ∧ Own iV 2 w' w.heap.size v' [] ∧ Below w.heap.size w w' := by
  obtain ⟨i0, hi, hz0, hz1, hz2⟩ := info_parts elI_.info
  rcases Nat.eq_zero_or_pos n with h0 | h0
  · subst h0
    go_enter Try.func63, Try.ntmps63
    go_wp2
    go_ret
    exact ⟨_, rfl, Own.nil, Below.refl _ _⟩
  · have hrun := fun ty => Lib.run_append_nil_zeros (P := Try.prog) w 22 3 ty 2 i0 (.int .i64 0) .i64 .i64 elI_.slice Try.underlying3 hi hz0 n h0 (by rw [hz1]; decide) (by omega) (by rw [hz2]; omega)
    obtain ⟨C, hC⟩ : ∃ C, C = grownCap w n 0 2 := ⟨_, rfl⟩
    have hge := grownCap_ge w n 0 2
    have hle := grownCap_le_maxLen w n 0 2 (by unfold maxLen; omega)
    rw [← hC] at hge hle hrun
    have HC := Lib.hid hC
    clear hC
    go_enter Try.func63, Try.ntmps63
    go_wp2_with (at_builtin; go_loud (refine Lib.wpList_append_run _ rfl _ _ _ _ rfl _ _ rfl rfl _ _ (hrun _) ?_))
    go_wp2
    go_ret
    refine ⟨_, rfl, ⟨rfl, .inr ⟨w.heap.size, C, _, rfl, Nat.le_refl _, heap_alloc_new _ _, Nat.zero_le _, hle, ?_, rfl⟩⟩, ((Below.refl _ _).drew).alloc (Nat.le_refl _) _⟩
    simp [size_zeroCells]
    omega

theorem flat_snoc {α : Type} {XS : List (List α)} {k : Nat} {xs : List α} (h : XS[k]? = some xs) : (XS.take (k + 1)).flatten = (XS.take k).flatten ++ xs := by
  rw [take_snoc h]; simp
theorem flat_le {α : Type} (XS : List (List α)) (k : Nat) : (XS.take k).flatten.length ≤ XS.flatten.length := by
  have : XS.flatten = (XS.take k).flatten ++ (XS.drop k).flatten := by rw [← List.flatten_append, List.take_append_drop]
  rw [this, List.length_append]; omega

/-- How long the first k lists are together (a name that the walk does not open). -/
def flen {α : Type} (XS : List (List α)) (k : Nat) : Nat := (XS.take k).flatten.length
theorem flen_snoc {α : Type} {XS : List (List α)} {k : Nat} {xs : List α} (h : XS[k]? = some xs) : flen XS (k + 1) = flen XS k + xs.length := by unfold flen; rw [flat_snoc h, List.length_append]
theorem flen_le {α : Type} {XS : List (List α)} (k : Nat) {m : Nat} (h : XS.flatten.length ≤ m) : flen XS k ≤ m := Nat.le_trans (flat_le XS k) h

set_option maxHeartbeats 800000 in
set_option maxRecDepth 100000 in
theorem concat_any (v : Value) (vs : List Value) (XS : List (List Int)) (hl : vs.length = XS.length) (hn : vs.length ≤ 1000000) (hfl : XS.flatten.length ≤ 1000000) (w : World)
    (hvs : ∀ (k : Nat) (u : Value) (xs : List Int), vs[k]? = some u → XS[k]? = some xs → Rd iV w u xs) (hr : Rd (fun u => u) w v vs) :
    Calls Try.prog 39 #[v] w fun e w' => ∃ v', e = .returned v' ∧ Own iV 2 w' w.heap.size v' XS.flatten ∧ Below w.heap.size w w' := by
  obtain ⟨A, cap, rfl, hcap, hA⟩ := hr
  have HA := Lib.hid hA
  have HVS := Lib.hid hvs
  have HL := Lib.hid hl
  have HF := Lib.hid hfl
  clear hA hvs hl hfl
  go_enter Try.func39, Try.ntmps39
  go_wp2
  go_loop [3, 11] (fun ss si => ∃ k : Nat, k ≤ vs.length ∧ si = .int .i64 k ∧ ss = .int .i64 (flen XS k)) (fun _ si => vs.length - (intOf si).toNat)
  case atStart => exact ⟨0, by omega, rfl, by simp [flen]⟩
  case round =>
    obtain ⟨k, hk, rfl, rfl⟩ := hrel
    have hb1 := flen_le k HF.out
    by_cases hlt : k < vs.length
    · obtain ⟨u, hu⟩ := get_of_lt hlt
      obtain ⟨xs, hxs⟩ := get_of_lt (xs := XS) (k := k) (by have := HL.out; omega)
      obtain ⟨ad, rfl, hbl, hc⟩ := HA.out k u hu
      obtain ⟨B, c, rfl, hcc, _⟩ := HVS.out k u xs hu hxs
      have hb2 := flen_le (k + 1) HF.out
      have hs := flen_snoc hxs
      rw [hs] at hb2
      have HS := Lib.hid hs
      clear hu hxs hs
      go_wp2
      go_round
      case rel => exact ⟨k + 1, by omega, by go_num, by rw [HS.out]; go_num⟩
      case measure => simp [intOf]; omega
    · go_wp2_with (go_at_call 63; refine (grow_any _ (by omega) _).mono ?_; rintro e w1 ⟨v1, rfl, ho1, hb3⟩)
      go_loopw [6, 27] (fun so si wr => ∃ j : Nat, j ≤ vs.length ∧ si = .int .i64 j ∧ Own iV 2 wr w.heap.size so (XS.take j).flatten ∧ Below w.heap.size w wr) (fun _ si _ => vs.length - (intOf si).toNat)
      case atStart => exact ⟨0, by omega, rfl, ho1, hb3⟩
      case round =>
        obtain ⟨j, hj, rfl, ho2, hb4⟩ := hrel
        clear ho1 hb3
        have hb5 := flen_le j HF.out
        by_cases hlj : j < vs.length
        · obtain ⟨u, hu⟩ := get_of_lt hlj
          obtain ⟨xs, hxs⟩ := get_of_lt (xs := XS) (k := j) (by have := HL.out; omega)
          obtain ⟨ad, rfl, hbl, hc⟩ := HA.out j u hu
          have hcw : wr.cell? (ad.add j) = some u := by rw [hb4.cell (by rw [add_block]; exact hbl)]; exact hc
          have hrd := Lib.hid ((HVS.out j u xs hu hxs).below hb4)
          have hb2 := flen_le (j + 1) HF.out
          rw [flen_snoc hxs] at hb2
          have hs := flat_snoc hxs
          have HS := Lib.hid hs
          have hz := hb4.size
          have HO := Lib.hid ho2
          clear hu hxs hs hc ho2
          go_wp2_with (at_builtin; go_loud (refine elI_.app one_iV _ rfl (.tmp 31) (.tmp 32) rfl w.heap.size _ (XS.take j).flatten rfl HO.out _ xs rfl hrd.out (by omega) (by have : (XS.take j).flatten.length = flen XS j := rfl; omega) hz ?_))
          intro v2 w2 ho3 hg3 hb6 _
          rw [← HS.out] at ho3
          go_wp2
          go_roundw
          case rel => exact ⟨j + 1, by omega, by go_num, ho3, hb4.trans hb6⟩
          case measure => simp [intOf]; omega
        · have hje : j = vs.length := by omega
          have HJ := Lib.hid hje
          clear hje
          go_wp2
          go_ret
          refine ⟨_, rfl, ?_, hb4⟩
          have h := ho2
          rw [HJ.out, HL.out, List.take_length] at h
          exact h

/-- The literal of two slices that a variadic call hands over. -/
theorem concat2_any (u v : Value) (xs ys : List Int) (hx : xs.length ≤ 100000) (hy : ys.length ≤ 100000) (w : World) (hr : Rd iV w u xs) (hs : Rd iV w v ys) :
    Calls Try.prog 39 #[.slice (some ⟨w.heap.size, 0, none⟩) 2 2] (w.alloc (.cells #[u, v] 22)) fun e w' => ∃ v', e = .returned v' ∧ Own iV 2 w' w.heap.size v' (xs ++ ys) ∧ Below w.heap.size w w' := by
  have h1 := concat_any (.slice (some ⟨w.heap.size, 0, none⟩) 2 2) [u, v] [xs, ys] rfl (by simp) (by simp; omega) (w.alloc (.cells #[u, v] 22))
    (by
      intro k a l ha hl
      match k, ha, hl with
      | 0, ha, hl => simp at ha hl; subst ha hl; exact hr.below ((Below.refl _ _).alloc (Nat.le_refl _) _)
      | 1, ha, hl => simp at ha hl; subst ha hl; exact hs.below ((Below.refl _ _).alloc (Nat.le_refl _) _))
    ⟨_, 2, rfl, Nat.le_refl _, fun k x hk => by
      refine ⟨_, rfl, by simp, ?_⟩
      rw [Addr.add_lit, Nat.zero_add, cell_of_row _ _ _ #[u, v] 22 (0, 0) (heap_alloc_new _ _)]
      simpa using hk⟩
  refine h1.mono ?_
  rintro e w' ⟨v', rfl, ho, hb⟩
  exact ⟨v', rfl, by simpa using ho.base_ (base' := w.heap.size) (by simp), ((Below.refl _ _).alloc (Nat.le_refl _) _).trans (hb.mono (B' := w.heap.size) (by simp))⟩
end Go.Proofs.Ytmhmekfbnaafmaa
