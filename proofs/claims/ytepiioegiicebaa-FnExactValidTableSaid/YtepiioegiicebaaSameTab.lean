/-
  Two tables are the same: spec.l06Same, slices.Equal, spec.SameTable, impl.SameTable.
-/
import Derived.Test.YtepiioegiicebaaTab
import Derived.Test.YtepiioegiicebaaIdxFunc
namespace Go.Proofs.Ytepiioegiicebaa
open Go.RowKit

/-- A table that lies in a block. -/
structure TabAt (w : World) (g : Nat) (r c : Int) (s : Value) : Prop where
  lt : g < w.heap.size
  rows : w.cell? ⟨g, 0, none⟩ = some (.int .i64 r)
  cols : w.cell? ⟨g, 1, none⟩ = some (.int .i64 c)
  counts : w.cell? ⟨g, 2, none⟩ = some s

def sameTab (r c : Int) (xs : List Int) (r' c' : Int) (ys : List Int) : Bool := decide (r = r' ∧ c = c' ∧ xs = ys)

theorem eq_of_takes {xs ys : List Int} {n : Nat} (h1 : n = xs.length) (h2 : n = ys.length) (h : xs.take n = ys.take n) : xs = ys := by
  rw [List.take_of_length_le (by omega), List.take_of_length_le (by omega)] at h
  exact h
theorem ne_of_get {xs ys : List Int} {k : Nat} {x y : Int} (hx : xs[k]? = some x) (hy : ys[k]? = some y) (hne : x ≠ y) : xs ≠ ys := by
  rintro rfl
  rw [hx] at hy
  exact hne (Option.some.inj hy)

set_option maxHeartbeats 800000 in
theorem slicesEqual_any (v u : Value) (xs ys : List Int) (h1 : xs.length ≤ 1099511627776) (h2 : ys.length ≤ 1099511627776) (w : World) (hr : Rd iV w v xs) (hs : Rd iV w u ys) :
    Calls Try.prog 55 #[v, u] w fun e w' => e = .returned (.bool (decide (xs = ys))) ∧ ∃ n, w.drewN n = w' := by
  obtain ⟨A, cap, rfl, hcap, hA⟩ := hr
  obtain ⟨A2, cap2, rfl, hcap2, hA2⟩ := hs
  have HA := Lib.hid hA
  have HA2 := Lib.hid hA2
  clear hA hA2
  by_cases hl : xs.length = ys.length
  · have HL := Lib.hid hl
    have h2' := h2
    rw [← hl] at h2'
    rw [← hl]
    clear hl
    go_enter Try.func55, Try.ntmps55
    go_wp2
    go_loopw [13] (fun si wr => ∃ k : Nat, k ≤ xs.length ∧ si = .int .i64 k ∧ xs.take k = ys.take k ∧ ∃ n, w.drewN n = wr)
      (fun si _ => xs.length - (intOf si).toNat)
    case atStart => exact ⟨0, by omega, rfl, rfl, 0, rfl⟩
    case round =>
      obtain ⟨k, hk, rfl, ht, n, rfl⟩ := hrel
      have HT := Lib.hid ht
      clear ht
      by_cases hlt : k < xs.length
      · obtain ⟨x, hx⟩ := get_of_lt hlt
        obtain ⟨y, hy⟩ := get_of_lt (xs := ys) (k := k) (by rw [← HL.out]; exact hlt)
        obtain ⟨ad, rfl, hbl, hc⟩ := HA.out k x hx
        obtain ⟨ad2, rfl, hbl2, hc2⟩ := HA2.out k y hy
        have HX := Lib.hid hx
        have HY := Lib.hid hy
        clear hx hy
        have hk0 : (0 : Int) ≤ (k : Int) := by omega
        have hk1 : (k : Int) < (xs.length : Int) := by omega
        by_cases hxy : x = y
        · subst hxy
          go_wp2
          go_quiet (fail)
          go_wp2
          go_roundw
          case rel => exact ⟨k + 1, by omega, by go_num, by rw [take_snoc HX.out, take_snoc HY.out, HT.out], _, rfl⟩
          case measure => simp [intOf]; omega
        · go_wp2
          go_quiet (fail)
          go_wp2
          go_ret
          exact ⟨ret_bool (by rw [decide_eq_false (ne_of_get HX.out HY.out hxy)]), _, by rw [World.drewN_drewN]⟩
      · go_wp2
        go_ret
        exact ⟨ret_bool (by rw [decide_eq_true (eq_of_takes (n := k) (by omega) (by have := HL.out; omega) HT.out)]), _, rfl⟩
  · have hne : xs ≠ ys := fun e => hl (by rw [e])
    go_enter Try.func55, Try.ntmps55
    go_wp2
    go_ret
    exact ⟨ret_bool (by rw [decide_eq_false hne]), 0, rfl⟩

set_option maxHeartbeats 1600000 in
theorem l06Same_any (a b : Nat) (r c r' c' : Int) (s s' : Value) (xs ys : List Int) (h1 : xs.length ≤ 1099511627776) (h2 : ys.length ≤ 1099511627776) (w : World)
    (ha : TabAt w a r c s) (hb : TabAt w b r' c' s') (hr : Rd iV w s xs) (hs : Rd iV w s' ys) :
    Calls Try.prog 54 #[.pointer (some ⟨a, 0, none⟩), .pointer (some ⟨b, 0, none⟩)] w fun e w' => e = .returned (.bool (sameTab r c xs r' c' ys)) ∧ ∃ n, w.drewN n = w' := by
  obtain ⟨A, cap, rfl, hcap, hA⟩ := hr
  obtain ⟨A2, cap2, rfl, hcap2, hA2⟩ := hs
  obtain ⟨la, ca0, ca1, ca2⟩ := ha
  obtain ⟨lb, cb0, cb1, cb2⟩ := hb
  have HA := Lib.hid hA
  have HA2 := Lib.hid hA2
  clear hA hA2
  by_cases e1 : r = r'
  · by_cases e2 : c = c'
    · by_cases hl : xs.length = ys.length
      · subst e1 e2
        have HL := Lib.hid hl
        rw [← hl] at cb2 hcap2
        clear hl
        go_enter Try.func54, Try.ntmps54
        go_wp2
        go_quiet (fail)
        go_wp2
        go_loopw [5] (fun si wr => ∃ k : Nat, k ≤ xs.length ∧ si = .int .i64 k ∧ xs.take k = ys.take k ∧ ∃ n, w.drewN n = wr)
          (fun si _ => xs.length - (intOf si).toNat)
        case atStart => exact ⟨0, by omega, rfl, rfl, _, rfl⟩
        case round =>
          obtain ⟨k, hk, rfl, ht, n, rfl⟩ := hrel
          have HT := Lib.hid ht
          clear ht
          by_cases hlt : k < xs.length
          · obtain ⟨x, hx⟩ := get_of_lt hlt
            obtain ⟨y, hy⟩ := get_of_lt (xs := ys) (k := k) (by rw [← HL.out]; exact hlt)
            obtain ⟨ad, rfl, hbl, hc⟩ := HA.out k x hx
            obtain ⟨ad2, rfl, hbl2, hc2⟩ := HA2.out k y hy
            have HX := Lib.hid hx
            have HY := Lib.hid hy
            clear hx hy
            have hk0 : (0 : Int) ≤ (k : Int) := by omega
            have hk1 : (k : Int) < (xs.length : Int) := by omega
            by_cases hxy : x = y
            · subst hxy
              go_wp2
              go_quiet (fail)
              go_wp2
              go_roundw
              case rel => exact ⟨k + 1, by omega, by go_num, by rw [take_snoc HX.out, take_snoc HY.out, HT.out], _, rfl⟩
              case measure => simp [intOf]; omega
            · go_wp2
              go_quiet (fail)
              go_wp2
              go_ret
              exact ⟨ret_bool (by rw [sameTab, decide_eq_false (fun h => ne_of_get HX.out HY.out hxy h.2.2)]), _, by rw [World.drewN_drewN]⟩
          · go_wp2
            go_ret
            exact ⟨ret_bool (by rw [sameTab, decide_eq_true ⟨rfl, rfl, eq_of_takes (n := k) (by omega) (by have := HL.out; omega) HT.out⟩]), _, rfl⟩
      · subst e1 e2
        have hne : xs ≠ ys := fun e => hl (by rw [e])
        have hl' : ((xs.length : Int) != (ys.length : Int)) = true := bne_iff_ne.2 (by omega)
        go_enter Try.func54, Try.ntmps54
        go_wp2
        go_quiet (fail)
        go_wp2
        go_ret
        exact ⟨ret_bool (by rw [sameTab, decide_eq_false (fun h => hne h.2.2)]), _, rfl⟩
    · subst e1
      have e2' : (c != c') = true := bne_iff_ne.2 e2
      go_enter Try.func54, Try.ntmps54
      go_wp2
      go_quiet (fail)
      go_wp2
      go_ret
      exact ⟨ret_bool (by rw [sameTab, decide_eq_false (fun h => e2 h.2.1)]), _, rfl⟩
  · have e1' : (r != r') = true := bne_iff_ne.2 e1
    go_enter Try.func54, Try.ntmps54
    go_wp2
    go_quiet (fail)
    go_wp2
    go_ret
    exact ⟨ret_bool (by rw [sameTab, decide_eq_false (fun h => e1 h.1)]), _, rfl⟩

theorem tabAt_new (w : World) (r c : Int) (s : Value) (t : TypeId) : TabAt (w.alloc (.cells #[.int .i64 r, .int .i64 c, s] t)) w.heap.size r c s :=
  ⟨by simp, by rw [World.cell?_alloc_new]; rfl, by rw [World.cell?_alloc_new]; rfl, by rw [World.cell?_alloc_new]; rfl⟩
theorem TabAt.below {w w' : World} {g : Nat} {r c : Int} {s : Value} (h : TabAt w g r c s) (hb : Below w.heap.size w w') : TabAt w' g r c s := by
  obtain ⟨hc, -⟩ := bcell hb
  exact ⟨Nat.lt_of_lt_of_le h.lt hb.size, by rw [hc _ _ h.lt]; exact h.rows, by rw [hc _ _ h.lt]; exact h.cols, by rw [hc _ _ h.lt]; exact h.counts⟩
/-- The pointer form in which a boxed table is handed on. -/
theorem below2 (w : World) (o o' : Obj) : Below w.heap.size w ((w.alloc o).alloc o') := ((Below.refl _ _).alloc (Nat.le_refl _) _).alloc (by simp) _
theorem below1 (w : World) (o : Obj) : Below w.heap.size w (w.alloc o) := (Below.refl _ _).alloc (Nat.le_refl _) _
theorem _root_.Go.RowKit.Below.drewN_ {w w' : World} {B : Nat} (h : Below B w w') (hB : B ≤ w'.heap.size) (n : Nat) : Below B w (w'.drewN n) := h.trans ((below_of_drew ⟨n, rfl⟩).mono hB)

theorem specSameTable_any (r c : Int) (s : Value) (xs : List Int) (h1 : xs.length ≤ 1099511627776) (r' c' : Int) (s' : Value) (ys : List Int) (h2 : ys.length ≤ 1099511627776) (w : World) (hr : Rd iV w s xs) (hs : Rd iV w s' ys) :
    Calls Try.prog 25 #[tabV r c s, tabV r' c' s'] w fun e w' => e = .returned (.bool (sameTab r c xs r' c' ys)) ∧ Below w.heap.size w w' := by
  have HR := Lib.hid hr
  have HS := Lib.hid hs
  obtain ⟨A, cap, rfl, hcap, hA⟩ := hr
  obtain ⟨A', cap', rfl, hcap', hA'⟩ := hs
  clear hA hA'
  go_enter Try.func25, Try.ntmps25
  go_wp2_with fail
  refine (l06Same_any _ _ r c r' c' _ _ xs ys h1 h2 _ ((tabAt_new _ _ _ _ _).below (below1 _ _)) (by rw [show w.heap.size + 1 = (w.alloc (.cells #[.int .i64 r, .int .i64 c, .slice A xs.length cap] 39)).heap.size by simp]; exact tabAt_new _ _ _ _ _) (HR.out.below (below2 _ _ _)) (HS.out.below (below2 _ _ _))).mono ?_
  rintro e w1 ⟨rfl, n, rfl⟩
  go_wp2
  go_ret
  exact ⟨rfl, (below2 _ _ _).drewN_ (by simp; omega) _⟩

theorem implSameTable_any (r c : Int) (s : Value) (xs : List Int) (h1 : xs.length ≤ 1099511627776) (r' c' : Int) (s' : Value) (ys : List Int) (h2 : ys.length ≤ 1099511627776) (w : World) (hr : Rd iV w s xs) (hs : Rd iV w s' ys) :
    Calls Try.prog 27 #[tabV r c s, tabV r' c' s'] w fun e w' => e = .returned (.bool (sameTab r c xs r' c' ys)) ∧ Below w.heap.size w w' := by
  have HR := Lib.hid hr
  have HS := Lib.hid hs
  obtain ⟨A, cap, rfl, hcap, hA⟩ := hr
  obtain ⟨A', cap', rfl, hcap', hA'⟩ := hs
  clear hA hA'
  by_cases e1 : r = r'
  · by_cases e2 : c = c'
    · subst e1 e2
      go_enter Try.func27, Try.ntmps27
      go_wp2_with fail
      refine (slicesEqual_any _ _ xs ys h1 h2 _ (HR.out.below (below2 _ _ _)) (HS.out.below (below2 _ _ _))).mono ?_
      rintro e w1 ⟨rfl, n, rfl⟩
      go_wp2
      go_ret
      exact ⟨ret_bool (by simp [sameTab]), (below2 _ _ _).drewN_ (by simp; omega) _⟩
    · subst e1
      go_enter Try.func27, Try.ntmps27
      go_wp2
      go_ret
      exact ⟨ret_bool (by rw [sameTab, decide_eq_false (fun h => e2 h.2.1)]), below2 _ _ _⟩
  · go_enter Try.func27, Try.ntmps27
    go_wp2
    go_ret
    exact ⟨ret_bool (by rw [sameTab, decide_eq_false (fun h => e1 h.1)]), below2 _ _ _⟩
end Go.Proofs.Ytepiioegiicebaa
