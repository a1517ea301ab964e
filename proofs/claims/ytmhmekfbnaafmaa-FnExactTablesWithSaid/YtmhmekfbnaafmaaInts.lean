/-
  The walks of laws.toInt64S, eqInt64S, markInt64S, heldInt64S.
-/
import Derived.Test.YtmhmekfbnaafmaaSl
import Derived.Deep.QuietTactic
import Derived.BigQuiet
namespace Go.Proofs.Ytmhmekfbnaafmaa
open Go.RowKit
/-- An int64 as a cell. -/
abbrev iV (n : Int) : Value := .int .i64 n
/-- What markInt64S lays from j on. -/
def mkInt64S (n : Int) : Int := n
def marksInt64S (j : Int) (n : Nat) : List Int := (List.range n).map fun (t : Nat) => mkInt64S (j + (t : Int))
def markRowInt64S (j : Int) (xs : List Int) (k : Nat) : List Value := (List.range k).map (fun (t : Nat) => iV (mkInt64S (j + (t : Int)))) ++ (xs.drop k).map iV
theorem markRowInt64S_at (j : Int) {xs : List Int} {k : Nat} {x : Int} (h : xs[k]? = some x) : (markRowInt64S j xs k)[k]? = some (iV x) := by
  unfold markRowInt64S
  rw [List.getElem?_append_right (by simp)]
  simp [h]
theorem markRowInt64S_set (j : Int) {xs : List Int} {k : Nat} (h : k < xs.length) : (markRowInt64S j xs k).set k (iV (mkInt64S (j + k))) = markRowInt64S j xs (k + 1) := by
  unfold markRowInt64S
  have hd : (xs.drop k).map iV = iV (xs[k]'h) :: (xs.drop (k + 1)).map iV := by rw [List.drop_eq_getElem_cons h, List.map_cons]
  rw [List.set_append_right _ _ (by simp), List.range_succ, List.map_append, hd, List.length_map, List.length_range, Nat.sub_self, List.set_cons_zero]
  simp only [List.map_cons, List.map_nil, List.append_assoc, List.cons_append, List.nil_append]
theorem markRowInt64S_end (j : Int) (xs : List Int) : markRowInt64S j xs xs.length = (marksInt64S j xs.length).map iV := by
  unfold markRowInt64S marksInt64S
  simp
theorem marksInt64S_at {j : Int} {n k : Nat} {x : Int} (h : (marksInt64S j n)[k]? = some x) : x = mkInt64S (j + k) := by
  unfold marksInt64S at h
  rw [List.getElem?_map] at h
  have hk : k < n := by
    rcases Nat.lt_or_ge k n with h1 | h1
    · exact h1
    · rw [List.getElem?_eq_none (by simpa using h1)] at h; cases h
  rw [List.getElem?_range hk] at h
  simpa using h.symm
theorem marksInt64S_len (j : Int) (n : Nat) : (marksInt64S j n).length = n := by simp [marksInt64S]

theorem elI_ : Elem Try.prog 22 2 (.int .i64 0) 8 := ⟨Try.underlying22, by kernel_rfl, rfl⟩

set_option maxHeartbeats 400000 in
theorem toInt64S_any (v : Value) (xs : List Int) (w : World) (hr : Rd iV w v xs) (hn : xs.length ≤ 1099511627776) :
    Calls Try.prog 20 #[v] w fun e w' => ∃ v', e = .returned v' ∧ Own iV 2 w' w.heap.size v' xs ∧ Below w.heap.size w w' ∧ (∃ b, v' = .slice (some ⟨b, 0, none⟩) xs.length xs.length) := by
  obtain ⟨A, cap, rfl, hcap, hA⟩ := hr
  have HA := Lib.hid hA
  clear hA
  go_enter Try.func20, Try.ntmps20
  go_wp2_with (at_make; go_loud (refine elI_.make _ rfl _ _ rfl .i64 .i64 _ _ xs.length rfl rfl rfl rfl (by omega) (by omega) ?_))
  intro w1 hown hb1 hs1
  obtain ⟨B, hB⟩ : ∃ B, B = w.heap.size := ⟨_, rfl⟩
  have HB := Lib.hid hB
  rw [← hB] at hown hb1 hs1 ⊢
  clear hB
  rw [← fillRow_zero iV] at hown
  go_wp2
  go_loopw [4] (fun si wr => ∃ k : Nat, k ≤ xs.length ∧ si = .int .i64 k ∧ wr.ownsRow B 2 1 (.slice (some ⟨B, 0, none⟩) xs.length xs.length) xs.length (fillRow iV (.int .i64 0) xs k) ∧ Below B w wr)
    (fun si _ => xs.length - (intOf si).toNat)
  case atStart => exact ⟨0, by omega, rfl, hown, hb1⟩
  case round =>
    obtain ⟨k, hk, rfl, hown2, hb2⟩ := hrel
    clear hown hb1
    by_cases hlt : k < xs.length
    · obtain ⟨x, hx⟩ := get_of_lt hlt
      obtain ⟨ad, rfl, hbl, hc⟩ := HA.out k x hx
      have hcell : wr.cell? (ad.add k) = some (iV x) := by rw [hb2.cell (by rw [add_block, HB.out]; exact hbl)]; exact hc
      have c2 := hown2.cellAt k (by omega)
      rw [fillRow_at _ _ _ hlt] at c2
      have f2 := hown2.frozenAt k
      have hset := hown2.stored k (iV x)
      rw [fillRow_set _ _ _ hx] at hset
      have HX := Lib.hid hx
      clear hx hc
      go_wp2
      go_roundw
      case rel => exact ⟨k + 1, by omega, by go_num, hset.1, hb2.grown hset.2 (by have := hb2.size; have := HB.out; omega) (by intro k h; cases h; exact Nat.le_refl _)⟩
      case measure => simp [intOf]; omega
    · have hke : k = xs.length := by omega
      have HK := Lib.hid hke
      clear hke
      go_wp2
      go_ret
      refine ⟨_, rfl, ?_, HB.out ▸ hb2, B, rfl⟩
      have := hown2
      rw [HK.out, fillRow_end] at this
      rw [← HB.out]
      exact this

theorem eqInt64S_any (v u : Value) (xs ys : List Int) (w : World) (hr : Rd iV w v xs) (hs : Rd iV w u ys) (h1 : xs.length ≤ 1099511627776) (_h2 : ys.length ≤ 1099511627776) (he : xs = ys) :
    Calls Try.prog 12 #[v, u] w fun e w' => e = .returned (.bool true) ∧ ∃ n, w.drewN n = w' := by
  obtain ⟨A, cap, rfl, hcap, hA⟩ := hr
  obtain ⟨A2, cap2, rfl, hcap2, hA2⟩ := hs
  have HA := Lib.hid hA
  have HA2 := Lib.hid hA2
  have hlen : xs.length = ys.length := by rw [he]
  have HE := Lib.hid he
  clear hA hA2 he
  rw [← hlen]
  clear hlen
  go_enter Try.func12, Try.ntmps12
  go_wp2
  go_loopw [5] (fun si wr => ∃ k : Nat, k ≤ xs.length ∧ si = .int .i64 k ∧ ∃ n, w.drewN n = wr)
    (fun si _ => xs.length - (intOf si).toNat)
  case atStart => exact ⟨0, by omega, rfl, 0, rfl⟩
  case round =>
    obtain ⟨k, hk, rfl, n, rfl⟩ := hrel
    by_cases hlt : k < xs.length
    · obtain ⟨x, hx⟩ := get_of_lt hlt
      obtain ⟨ad, rfl, hbl, hc⟩ := HA.out k x hx
      obtain ⟨ad2, rfl, hbl2, hc2⟩ := HA2.out k x (by rw [← HE.out]; exact hx)
      clear hx
      have hk0 : (0 : Int) ≤ (k : Int) := by omega
      have hk1 : (k : Int) < (xs.length : Int) := by omega
      go_wp2
      go_quiet (fail)
      go_wp2
      go_roundw
      case rel => exact ⟨k + 1, by omega, by go_num, _, rfl⟩
      case measure => simp [intOf]; omega
    · go_wp2
      go_ret
      exact ⟨rfl, _, rfl⟩


set_option maxHeartbeats 400000 in
theorem markInt64S_any (v : Value) (xs : List Int) (j : Int) (hj0 : 0 ≤ j) (hj : j ≤ 1099511627776) (base : Nat) (w : World) (ho : Own iV 2 w base v xs) (hn : xs.length ≤ 1099511627776) (hbase : base ≤ w.heap.size) :
    Calls Try.prog 15 #[v, .int .i64 j] w fun e w' => e = .returned (.int .i64 (j + xs.length)) ∧ Own iV 2 w' base v (marksInt64S j xs.length) ∧ w.grownBy w' v.ownBlock := by
  rcases Nat.eq_zero_or_pos xs.length with h0 | h0
  · have hx : xs = [] := List.eq_nil_of_length_eq_zero h0
    subst hx
    obtain ⟨A, cap, rfl, _, _⟩ := ho.rd
    go_enter Try.func15, Try.ntmps15
    go_wp2
    go_loopw [1, 5] (fun sk si wr => si = .int .i64 0 ∧ sk = .int .i64 j ∧ wr = w) (fun _ _ _ => 0)
    case atStart => exact ⟨rfl, rfl, rfl⟩
    case round =>
      obtain ⟨rfl, rfl, rfl⟩ := hrel
      go_wp2
      go_ret
      exact ⟨ret_int (by simp), ho, World.grownBy.refl _ _⟩
  · obtain ⟨g, cap, rfl, hcap, hg, hgl⟩ := ho.form h0
    unfold Own at ho
    have hl : (xs.map iV) = markRowInt64S j xs 0 := by simp [markRowInt64S]
    rw [hl] at ho
    clear hl
    go_enter Try.func15, Try.ntmps15
    go_wp2
    go_loopw [1, 5] (fun sk si wr => ∃ k : Nat, k ≤ xs.length ∧ si = .int .i64 k ∧ sk = .int .i64 (j + k) ∧ wr.ownsRow base 2 1 (.slice (some ⟨g, 0, none⟩) xs.length cap) xs.length (markRowInt64S j xs k) ∧ w.grownBy wr (some g))
      (fun _ si _ => xs.length - (intOf si).toNat)
    case atStart => exact ⟨0, by omega, rfl, by simp, ho, World.grownBy.refl _ _⟩
    case round =>
      obtain ⟨k, hk, rfl, rfl, hown2, hg2⟩ := hrel
      clear ho
      by_cases hlt : k < xs.length
      · obtain ⟨x, hx⟩ := get_of_lt hlt
        have c2 := hown2.cellAt k (by omega)
        rw [markRowInt64S_at j hx] at c2
        have f2 := hown2.frozenAt k
        have hset := hown2.stored k (iV (mkInt64S (j + k)))
        rw [markRowInt64S_set j hlt] at hset
        clear hx
        simp only [mkInt64S] at hset
        go_wp2
        go_roundw
        case rel => exact ⟨k + 1, by omega, by go_num, by go_num, hset.1, grown_trans1 hg2 hset.2⟩
        case measure => simp [intOf]; omega
      · have hke : k = xs.length := by omega
        have HK := Lib.hid hke
        clear hke
        go_wp2
        go_ret
        refine ⟨ret_int (by rw [HK.out]), ?_, hg2⟩
        have := hown2
        rw [HK.out, markRowInt64S_end] at this
        unfold Own
        rw [marksInt64S_len]
        exact this


theorem heldInt64S_any (v : Value) (n : Nat) (j : Int) (hj0 : 0 ≤ j) (hj : j ≤ 1099511627776) (w : World) (hr : Rd iV w v (marksInt64S j n)) (hn : n ≤ 1099511627776) :
    Calls Try.prog 16 #[v, .int .i64 j] w fun e w' => e = .returned (.int .i64 (j + n)) ∧ w = w' := by
  obtain ⟨A, cap, rfl, hcap, hA⟩ := hr
  have HA := Lib.hid hA
  clear hA
  rw [marksInt64S_len] at hcap ⊢
  go_enter Try.func16, Try.ntmps16
  go_wp2
  go_loop [1, 5] (fun sk si => ∃ k : Nat, k ≤ n ∧ si = .int .i64 k ∧ sk = .int .i64 (j + k)) (fun _ si => n - (intOf si).toNat)
  case atStart => exact ⟨0, by omega, rfl, by simp⟩
  case round =>
    obtain ⟨k, hk, rfl, rfl⟩ := hrel
    by_cases hlt : k < n
    · obtain ⟨x, hx⟩ := get_of_lt (xs := marksInt64S j n) (by rw [marksInt64S_len]; exact hlt)
      obtain ⟨ad, rfl, hbl, hc⟩ := HA.out k x hx
      have hxe := marksInt64S_at hx
      subst hxe
      clear hx
      simp only [mkInt64S] at hc
      go_wp2
      go_round
      case rel => exact ⟨k + 1, by omega, by go_num, by go_num⟩
      case measure => simp [intOf]; omega
    · have hke : k = n := by omega
      have HK := Lib.hid hke
      clear hke
      go_wp2
      go_ret
      exact ⟨ret_int (by rw [HK.out]), rfl⟩
end Go.Proofs.Ytmhmekfbnaafmaa
