/-
  The walks of laws.toBoolS, eqBoolS, markBoolS, heldBoolS.
-/
import Derived.Test.YtchcgapgpflknaaSl
import Derived.Deep.QuietTactic
import Derived.BigQuiet
namespace Go.Proofs.Ytchcgapgpflknaa
open Go.RowKit
/-- A bool as a cell. -/
abbrev bV (b : Bool) : Value := .bool b
/-- What markBoolS lays from j on. -/
def mkBoolS (n : Int) : Bool := n % 3 == 0
def marksBoolS (j : Int) (n : Nat) : List Bool := (List.range n).map fun (t : Nat) => mkBoolS (j + (t : Int))
def markRowBoolS (j : Int) (xs : List Bool) (k : Nat) : List Value := (List.range k).map (fun (t : Nat) => bV (mkBoolS (j + (t : Int)))) ++ (xs.drop k).map bV
theorem markRowBoolS_at (j : Int) {xs : List Bool} {k : Nat} {x : Bool} (h : xs[k]? = some x) : (markRowBoolS j xs k)[k]? = some (bV x) := by
  unfold markRowBoolS
  rw [List.getElem?_append_right (by simp)]
  simp [h]
theorem markRowBoolS_set (j : Int) {xs : List Bool} {k : Nat} (h : k < xs.length) : (markRowBoolS j xs k).set k (bV (mkBoolS (j + k))) = markRowBoolS j xs (k + 1) := by
  unfold markRowBoolS
  have hd : (xs.drop k).map bV = bV (xs[k]'h) :: (xs.drop (k + 1)).map bV := by rw [List.drop_eq_getElem_cons h, List.map_cons]
  rw [List.set_append_right _ _ (by simp), List.range_succ, List.map_append, hd, List.length_map, List.length_range, Nat.sub_self, List.set_cons_zero]
  simp only [List.map_cons, List.map_nil, List.append_assoc, List.cons_append, List.nil_append]
theorem markRowBoolS_end (j : Int) (xs : List Bool) : markRowBoolS j xs xs.length = (marksBoolS j xs.length).map bV := by
  unfold markRowBoolS marksBoolS
  simp
theorem marksBoolS_at {j : Int} {n k : Nat} {x : Bool} (h : (marksBoolS j n)[k]? = some x) : x = mkBoolS (j + k) := by
  unfold marksBoolS at h
  rw [List.getElem?_map] at h
  have hk : k < n := by
    rcases Nat.lt_or_ge k n with h1 | h1
    · exact h1
    · rw [List.getElem?_eq_none (by simpa using h1)] at h; cases h
  rw [List.getElem?_range hk] at h
  simpa using h.symm
theorem marksBoolS_len (j : Int) (n : Nat) : (marksBoolS j n).length = n := by simp [marksBoolS]

theorem elB_ : Elem Try.prog 34 4 (.bool false) 1 := ⟨Try.underlying34, by kernel_rfl, rfl⟩

set_option maxHeartbeats 400000 in
theorem toBoolS_any (v : Value) (xs : List Bool) (w : World) (hr : Rd bV w v xs) (hn : xs.length ≤ 1099511627776) :
    Calls Try.prog 24 #[v] w fun e w' => ∃ v', e = .returned v' ∧ Own bV 4 w' w.heap.size v' xs ∧ Below w.heap.size w w' ∧ (∃ b, v' = .slice (some ⟨b, 0, none⟩) xs.length xs.length) := by
  obtain ⟨A, cap, rfl, hcap, hA⟩ := hr
  have HA := Lib.hid hA
  clear hA
  go_enter Try.func24, Try.ntmps24
  go_wp2_with (at_make; go_loud (refine elB_.make _ rfl _ _ rfl .i64 .i64 _ _ xs.length rfl rfl rfl rfl (by omega) (by omega) ?_))
  intro w1 hown hb1 hs1
  obtain ⟨B, hB⟩ : ∃ B, B = w.heap.size := ⟨_, rfl⟩
  have HB := Lib.hid hB
  rw [← hB] at hown hb1 hs1 ⊢
  clear hB
  rw [← fillRow_zero bV] at hown
  go_wp2
  go_loopw [4] (fun si wr => ∃ k : Nat, k ≤ xs.length ∧ si = .int .i64 k ∧ wr.ownsRow B 4 1 (.slice (some ⟨B, 0, none⟩) xs.length xs.length) xs.length (fillRow bV (.bool false) xs k) ∧ Below B w wr)
    (fun si _ => xs.length - (intOf si).toNat)
  case atStart => exact ⟨0, by omega, rfl, hown, hb1⟩
  case round =>
    obtain ⟨k, hk, rfl, hown2, hb2⟩ := hrel
    clear hown hb1
    by_cases hlt : k < xs.length
    · obtain ⟨x, hx⟩ := get_of_lt hlt
      obtain ⟨ad, rfl, hbl, hc⟩ := HA.out k x hx
      have hcell : wr.cell? (ad.add k) = some (bV x) := by rw [hb2.cell (by rw [add_block, HB.out]; exact hbl)]; exact hc
      have c2 := hown2.cellAt k (by omega)
      rw [fillRow_at _ _ _ hlt] at c2
      have f2 := hown2.frozenAt k
      have hset := hown2.stored k (bV x)
      rw [fillRow_set _ _ _ hx] at hset
      have HX := Lib.hid hx
      clear hx hc
      go_wp2
      go_roundw
      case rel => exact ⟨k + 1, by omega, by go_num, hset.1, hb2.grown hset.2 (by have := hb2.size; have := HB.out; omega) (by intro k h; cases h; exact Nat.le_refl _)⟩
      case measure => simp [intOf]; omega
    · have hke : k = xs.length := by omega
      have HK := Lib.hid hke
      clear hke
      go_wp2
      go_ret
      refine ⟨_, rfl, ?_, HB.out ▸ hb2, B, rfl⟩
      have := hown2
      rw [HK.out, fillRow_end] at this
      rw [← HB.out]
      exact this

theorem eqBoolS_any (v u : Value) (xs ys : List Bool) (w : World) (hr : Rd bV w v xs) (hs : Rd bV w u ys) (h1 : xs.length ≤ 1099511627776) (_h2 : ys.length ≤ 1099511627776) (he : xs = ys) :
    Calls Try.prog 26 #[v, u] w fun e w' => e = .returned (.bool true) ∧ ∃ n, w.drewN n = w' := by
  obtain ⟨A, cap, rfl, hcap, hA⟩ := hr
  obtain ⟨A2, cap2, rfl, hcap2, hA2⟩ := hs
  have HA := Lib.hid hA
  have HA2 := Lib.hid hA2
  have hlen : xs.length = ys.length := by rw [he]
  have HE := Lib.hid he
  clear hA hA2 he
  rw [← hlen]
  clear hlen
  go_enter Try.func26, Try.ntmps26
  go_wp2
  go_loopw [5] (fun si wr => ∃ k : Nat, k ≤ xs.length ∧ si = .int .i64 k ∧ ∃ n, w.drewN n = wr)
    (fun si _ => xs.length - (intOf si).toNat)
  case atStart => exact ⟨0, by omega, rfl, 0, rfl⟩
  case round =>
    obtain ⟨k, hk, rfl, n, rfl⟩ := hrel
    by_cases hlt : k < xs.length
    · obtain ⟨x, hx⟩ := get_of_lt hlt
      obtain ⟨ad, rfl, hbl, hc⟩ := HA.out k x hx
      obtain ⟨ad2, rfl, hbl2, hc2⟩ := HA2.out k x (by rw [← HE.out]; exact hx)
      clear hx
      have hk0 : (0 : Int) ≤ (k : Int) := by omega
      have hk1 : (k : Int) < (xs.length : Int) := by omega
      go_wp2
      go_quiet (fail)
      go_wp2
      go_roundw
      case rel => exact ⟨k + 1, by omega, by go_num, _, rfl⟩
      case measure => simp [intOf]; omega
    · go_wp2
      go_ret
      exact ⟨rfl, _, rfl⟩


set_option maxHeartbeats 400000 in
theorem markBoolS_any (v : Value) (xs : List Bool) (j : Int) (hj0 : 0 ≤ j) (hj : j ≤ 1099511627776) (base : Nat) (w : World) (ho : Own bV 4 w base v xs) (hn : xs.length ≤ 1099511627776) (hbase : base ≤ w.heap.size) :
    Calls Try.prog 27 #[v, .int .i64 j] w fun e w' => e = .returned (.int .i64 (j + xs.length)) ∧ Own bV 4 w' base v (marksBoolS j xs.length) ∧ w.grownBy w' v.ownBlock := by
  rcases Nat.eq_zero_or_pos xs.length with h0 | h0
  · have hx : xs = [] := List.eq_nil_of_length_eq_zero h0
    subst hx
    obtain ⟨A, cap, rfl, _, _⟩ := ho.rd
    go_enter Try.func27, Try.ntmps27
    go_wp2
    go_loopw [1, 5] (fun sk si wr => si = .int .i64 0 ∧ sk = .int .i64 j ∧ wr = w) (fun _ _ _ => 0)
    case atStart => exact ⟨rfl, rfl, rfl⟩
    case round =>
      obtain ⟨rfl, rfl, rfl⟩ := hrel
      go_wp2
      go_ret
      exact ⟨ret_int (by simp), ho, World.grownBy.refl _ _⟩
  · obtain ⟨g, cap, rfl, hcap, hg, hgl⟩ := ho.form h0
    unfold Own at ho
    have hl : (xs.map bV) = markRowBoolS j xs 0 := by simp [markRowBoolS]
    rw [hl] at ho
    clear hl
    go_enter Try.func27, Try.ntmps27
    go_wp2
    go_loopw [1, 5] (fun sk si wr => ∃ k : Nat, k ≤ xs.length ∧ si = .int .i64 k ∧ sk = .int .i64 (j + k) ∧ wr.ownsRow base 4 1 (.slice (some ⟨g, 0, none⟩) xs.length cap) xs.length (markRowBoolS j xs k) ∧ w.grownBy wr (some g))
      (fun _ si _ => xs.length - (intOf si).toNat)
    case atStart => exact ⟨0, by omega, rfl, by simp, ho, World.grownBy.refl _ _⟩
    case round =>
      obtain ⟨k, hk, rfl, rfl, hown2, hg2⟩ := hrel
      clear ho
      by_cases hlt : k < xs.length
      · obtain ⟨x, hx⟩ := get_of_lt hlt
        have c2 := hown2.cellAt k (by omega)
        rw [markRowBoolS_at j hx] at c2
        have f2 := hown2.frozenAt k
        have hset := hown2.stored k (bV (mkBoolS (j + k)))
        rw [markRowBoolS_set j hlt] at hset
        clear hx
        simp only [mkBoolS] at hset
        go_wp2
        go_roundw
        case rel => exact ⟨k + 1, by omega, by go_num, by go_num, hset.1, grown_trans1 hg2 hset.2⟩
        case measure => simp [intOf]; omega
      · have hke : k = xs.length := by omega
        have HK := Lib.hid hke
        clear hke
        go_wp2
        go_ret
        refine ⟨ret_int (by rw [HK.out]), ?_, hg2⟩
        have := hown2
        rw [HK.out, markRowBoolS_end] at this
        unfold Own
        rw [marksBoolS_len]
        exact this

end Go.Proofs.Ytchcgapgpflknaa
