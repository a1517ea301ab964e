/-
  The walks of laws.toFloat32S, eqFloat32S, markFloat32S, heldFloat32S.
-/
import Derived.Test.YtimpabceellihaaSl
import Derived.Test.YtimpabceellihaaSameFloat
import Derived.Deep.QuietTactic
import Derived.BigQuiet
import Derived.Test.YtimpabceellihaaFq
import Derived.Laws.Entries
namespace Go.Proofs.Ytimpabceellihaa
open Go.RowKit
/-- A float32 as a cell. -/
abbrev fV (b : Nat) : Value := .float .f32 b
/-- What words stand for, one by one. -/
def absL (xs : List Nat) : List (Option Nat) := xs.map (absF .f32)
theorem absL_len {xs ys : List Nat} (h : absL xs = absL ys) : xs.length = ys.length := by
  have := congrArg List.length h
  simpa [absL] using this
theorem absL_at {xs ys : List Nat} (h : absL xs = absL ys) {k : Nat} {x y : Nat} (hx : xs[k]? = some x) (hy : ys[k]? = some y) : absF .f32 x = absF .f32 y := by
  have := congrArg (·[k]?) h
  simp only [absL, List.getElem?_map, hx, hy, Option.map_some, Option.some.injEq] at this
  exact this
/-- What markFloat32S lays from j on. -/
def mkFloat32S (n : Int) : Nat := floatOfInt .f32 n
theorem mkF_ord (n : Int) : FloatKind.f32.format.order (floatOfInt .f32 n) (floatOfInt .f32 n) = some .eq := by
  exact ord_refl (k := .f32) (nan_write Ieee.single (d := .number (n < 0) n.natAbs 0) rfl)
def marksFloat32S (j : Int) (n : Nat) : List Nat := (List.range n).map fun (t : Nat) => mkFloat32S (j + (t : Int))
def markRowFloat32S (j : Int) (xs : List Nat) (k : Nat) : List Value := (List.range k).map (fun (t : Nat) => fV (mkFloat32S (j + (t : Int)))) ++ (xs.drop k).map fV
theorem run_store_float (P : Program) (w : World) (a : Addr) (m : Mode) (k : FloatKind) (b : Nat) : (store a (.float k b) m).run P w = stored P w a (.float k b) m := run_store P w a _ m rfl
attribute [local go_sem] run_store_float
theorem enter_sameFloat (args : Array Value) (w : World) : (callFunc 34 args).run Try.prog w = .ok (.enter 34 args) w :=
  enter_of Try.func34 (by kernel_rfl) (by kernel_rfl) args w
theorem markRowFloat32S_at (j : Int) {xs : List Nat} {k : Nat} {x : Nat} (h : xs[k]? = some x) : (markRowFloat32S j xs k)[k]? = some (fV x) := by
  unfold markRowFloat32S
  rw [List.getElem?_append_right (by simp)]
  simp [h]
theorem markRowFloat32S_set (j : Int) {xs : List Nat} {k : Nat} (h : k < xs.length) : (markRowFloat32S j xs k).set k (fV (mkFloat32S (j + k))) = markRowFloat32S j xs (k + 1) := by
  unfold markRowFloat32S
  have hd : (xs.drop k).map fV = fV (xs[k]'h) :: (xs.drop (k + 1)).map fV := by rw [List.drop_eq_getElem_cons h, List.map_cons]
  rw [List.set_append_right _ _ (by simp), List.range_succ, List.map_append, hd, List.length_map, List.length_range, Nat.sub_self, List.set_cons_zero]
  simp only [List.map_cons, List.map_nil, List.append_assoc, List.cons_append, List.nil_append]
theorem markRowFloat32S_end (j : Int) (xs : List Nat) : markRowFloat32S j xs xs.length = (marksFloat32S j xs.length).map fV := by
  unfold markRowFloat32S marksFloat32S
  simp
theorem marksFloat32S_at {j : Int} {n k : Nat} {x : Nat} (h : (marksFloat32S j n)[k]? = some x) : x = mkFloat32S (j + k) := by
  unfold marksFloat32S at h
  rw [List.getElem?_map] at h
  have hk : k < n := by
    rcases Nat.lt_or_ge k n with h1 | h1
    · exact h1
    · rw [List.getElem?_eq_none (by simpa using h1)] at h; cases h
  rw [List.getElem?_range hk] at h
  simpa using h.symm
theorem marksFloat32S_len (j : Int) (n : Nat) : (marksFloat32S j n).length = n := by simp [marksFloat32S]

theorem elF_ : Elem Try.prog 22 39 (.float .f32 0) 4 := ⟨Try.underlying22, by kernel_rfl, rfl⟩

set_option maxHeartbeats 400000 in
theorem toFloat32S_any (v : Value) (xs : List Nat) (w : World) (hr : Rd fV w v xs) (hn : xs.length ≤ 1099511627776) :
    Calls Try.prog 8 #[v] w fun e w' => ∃ v', e = .returned v' ∧ Own fV 39 w' w.heap.size v' xs ∧ Below w.heap.size w w' ∧ (∃ b, v' = .slice (some ⟨b, 0, none⟩) xs.length xs.length) := by
  obtain ⟨A, cap, rfl, hcap, hA⟩ := hr
  have HA := Lib.hid hA
  clear hA
  go_enter Try.func8, Try.ntmps8
  go_wp2_with (at_make; go_loud (refine elF_.make _ rfl _ _ rfl .i64 .i64 _ _ xs.length rfl rfl rfl rfl (by omega) (by omega) ?_))
  intro w1 hown hb1 hs1
  obtain ⟨B, hB⟩ : ∃ B, B = w.heap.size := ⟨_, rfl⟩
  have HB := Lib.hid hB
  rw [← hB] at hown hb1 hs1 ⊢
  clear hB
  rw [← fillRow_zero fV] at hown
  go_wp2
  go_loopw [4] (fun si wr => ∃ k : Nat, k ≤ xs.length ∧ si = .int .i64 k ∧ wr.ownsRow B 39 1 (.slice (some ⟨B, 0, none⟩) xs.length xs.length) xs.length (fillRow fV (.float .f32 0) xs k) ∧ Below B w wr)
    (fun si _ => xs.length - (intOf si).toNat)
  case atStart => exact ⟨0, by omega, rfl, hown, hb1⟩
  case round =>
    obtain ⟨k, hk, rfl, hown2, hb2⟩ := hrel
    clear hown hb1
    by_cases hlt : k < xs.length
    · obtain ⟨x, hx⟩ := get_of_lt hlt
      obtain ⟨ad, rfl, hbl, hc⟩ := HA.out k x hx
      have hcell : wr.cell? (ad.add k) = some (fV x) := by rw [hb2.cell (by rw [add_block, HB.out]; exact hbl)]; exact hc
      have c2 := hown2.cellAt k (by omega)
      rw [fillRow_at _ _ _ hlt] at c2
      have f2 := hown2.frozenAt k
      have hset := hown2.stored k (fV x)
      rw [fillRow_set _ _ _ hx] at hset
      have HX := Lib.hid hx
      clear hx hc
      go_wp2
      go_roundw
      case rel => exact ⟨k + 1, by omega, by go_num, hset.1, hb2.grown hset.2 (by have := hb2.size; have := HB.out; omega) (by intro k h; cases h; exact Nat.le_refl _)⟩
      case measure => simp [intOf]; omega
    · have hke : k = xs.length := by omega
      have HK := Lib.hid hke
      clear hke
      go_wp2
      go_ret
      refine ⟨_, rfl, ?_, HB.out ▸ hb2, B, rfl⟩
      have := hown2
      rw [HK.out, fillRow_end] at this
      rw [← HB.out]
      exact this

theorem eqFloat32S_any (v u : Value) (xs ys : List Nat) (w : World) (hr : Rd fV w v xs) (hs : Rd fV w u ys) (h1 : xs.length ≤ 1099511627776) (_h2 : ys.length ≤ 1099511627776) (he : absL xs = absL ys) :
    Calls Try.prog 11 #[v, u] w fun e w' => e = .returned (.bool true) ∧ ∃ n, w.drewN n = w' := by
  obtain ⟨A, cap, rfl, hcap, hA⟩ := hr
  obtain ⟨A2, cap2, rfl, hcap2, hA2⟩ := hs
  have HA := Lib.hid hA
  have HA2 := Lib.hid hA2
  have hlen : xs.length = ys.length := absL_len he
  have HE := Lib.hid he
  clear hA hA2 he
  rw [← hlen]
  clear hlen
  go_enter Try.func11, Try.ntmps11
  go_wp2
  go_loopw [5] (fun si wr => ∃ k : Nat, k ≤ xs.length ∧ si = .int .i64 k ∧ ∃ n, w.drewN n = wr)
    (fun si _ => xs.length - (intOf si).toNat)
  case atStart => exact ⟨0, by omega, rfl, 0, rfl⟩
  case round =>
    obtain ⟨k, hk, rfl, n, rfl⟩ := hrel
    by_cases hlt : k < xs.length
    · obtain ⟨x, hx⟩ := get_of_lt hlt
      obtain ⟨y, hy⟩ := get_of_lt (xs := ys) (k := k) (by rw [← absL_len HE.out]; exact hlt)
      obtain ⟨ad, rfl, hbl, hc⟩ := HA.out k x hx
      obtain ⟨ad2, rfl, hbl2, hc2⟩ := HA2.out k y hy
      have HXY := Lib.hid (absL_at HE.out hx hy)
      clear hx hy
      have hk0 : (0 : Int) ≤ (k : Int) := by omega
      have hk1 : (k : Int) < (xs.length : Int) := by omega
      go_wp2
      refine wp_region_fq 12 (fun f args v => f = 34 → ∀ p q, args = #[.float .f64 p, .float .f64 q] → absF .f64 p = absF .f64 q → v = .bool true) (by kernel_rfl) (by kernel_rfl) ?_
      simp only [List.take, List.drop]
      repeat (first | (refine wpFq_one (by rfl) ?_; go_big_quiet_step (fail); refine wpQuiet_nil ?_) | (refine wpFq_nilc (by rfl) _ rfl _ (by rfl) ?_; simp only [Act.put, List.setIfInBounds_toArray, List.set_cons_zero, List.set_cons_succ]) | (refine wpFq_fl (by rfl) _ _ _ _ _ rfl (by rfl) _ _ _ (by rfl) (by rfl) ?_; intro fb hfb; simp only [Act.put, List.setIfInBounds_toArray, List.set_cons_zero, List.set_cons_succ]) | (refine wpFq_up (by rfl) _ _ _ rfl (by kernel_rfl) (by kernel_rfl) _ (by rfl) ?_; intro fb hfb; simp only [Act.put, List.setIfInBounds_toArray, List.set_cons_zero, List.set_cons_succ]) | ((refine wpFq_call (by rfl) 34 _ _ [.float .f64 _, .float .f64 _] rfl rfl enter_sameFloat (fun w' hw' => (sameFloat_any _ _ (by rw [‹absF .f64 _ = upF (absF .f32 x)›, ‹absF .f64 _ = upF (absF .f32 y)›, HXY.out]) w').mono fun e w2 ⟨he, hw⟩ => ⟨_, he, fun _ p q _ _ => rfl, hw ▸ hw'⟩) ?_; intro v hv; obtain rfl := hv rfl _ _ rfl (by rw [‹absF .f64 _ = upF (absF .f32 x)›, ‹absF .f64 _ = upF (absF .f32 y)›, HXY.out])); simp only [Act.put, List.setIfInBounds_toArray, List.set_cons_zero, List.set_cons_succ]))
      refine wpFq_nil ?_
      intro nq
      go_wp2
      go_roundw
      case rel => exact ⟨k + 1, by omega, by go_num, _, rfl⟩
      case measure => simp [intOf]; omega
    · go_wp2
      go_ret
      exact ⟨rfl, _, rfl⟩


set_option maxHeartbeats 400000 in
theorem markFloat32S_any (v : Value) (xs : List Nat) (j : Int) (hj0 : 0 ≤ j) (hj : j ≤ 1099511627776) (base : Nat) (w : World) (ho : Own fV 39 w base v xs) (hn : xs.length ≤ 1099511627776) (hbase : base ≤ w.heap.size) :
    Calls Try.prog 13 #[v, .int .i64 j] w fun e w' => e = .returned (.int .i64 (j + xs.length)) ∧ Own fV 39 w' base v (marksFloat32S j xs.length) ∧ w.grownBy w' v.ownBlock := by
  rcases Nat.eq_zero_or_pos xs.length with h0 | h0
  · have hx : xs = [] := List.eq_nil_of_length_eq_zero h0
    subst hx
    obtain ⟨A, cap, rfl, _, _⟩ := ho.rd
    go_enter Try.func13, Try.ntmps13
    go_wp2
    go_loopw [1, 5] (fun sk si wr => si = .int .i64 0 ∧ sk = .int .i64 j ∧ wr = w) (fun _ _ _ => 0)
    case atStart => exact ⟨rfl, rfl, rfl⟩
    case round =>
      obtain ⟨rfl, rfl, rfl⟩ := hrel
      go_wp2
      go_ret
      exact ⟨ret_int (by simp), ho, World.grownBy.refl _ _⟩
  · obtain ⟨g, cap, rfl, hcap, hg, hgl⟩ := ho.form h0
    unfold Own at ho
    have hl : (xs.map fV) = markRowFloat32S j xs 0 := by simp [markRowFloat32S]
    rw [hl] at ho
    clear hl
    go_enter Try.func13, Try.ntmps13
    go_wp2
    go_loopw [1, 5] (fun sk si wr => ∃ k : Nat, k ≤ xs.length ∧ si = .int .i64 k ∧ sk = .int .i64 (j + k) ∧ wr.ownsRow base 39 1 (.slice (some ⟨g, 0, none⟩) xs.length cap) xs.length (markRowFloat32S j xs k) ∧ w.grownBy wr (some g))
      (fun _ si _ => xs.length - (intOf si).toNat)
    case atStart => exact ⟨0, by omega, rfl, by simp, ho, World.grownBy.refl _ _⟩
    case round =>
      obtain ⟨k, hk, rfl, rfl, hown2, hg2⟩ := hrel
      clear ho
      by_cases hlt : k < xs.length
      · obtain ⟨x, hx⟩ := get_of_lt hlt
        have c2 := hown2.cellAt k (by omega)
        rw [markRowFloat32S_at j hx] at c2
        have f2 := hown2.frozenAt k
        have hset := hown2.stored k (fV (mkFloat32S (j + k)))
        rw [markRowFloat32S_set j hlt] at hset
        clear hx
        simp only [mkFloat32S] at hset
        go_wp2
        go_roundw
        case rel => exact ⟨k + 1, by omega, by go_num, by go_num, hset.1, grown_trans1 hg2 hset.2⟩
        case measure => simp [intOf]; omega
      · have hke : k = xs.length := by omega
        have HK := Lib.hid hke
        clear hke
        go_wp2
        go_ret
        refine ⟨ret_int (by rw [HK.out]), ?_, hg2⟩
        have := hown2
        rw [HK.out, markRowFloat32S_end] at this
        unfold Own
        rw [marksFloat32S_len]
        exact this


theorem heldFloat32S_any (v : Value) (n : Nat) (j : Int) (hj0 : 0 ≤ j) (hj : j ≤ 1099511627776) (w : World) (hr : Rd fV w v (marksFloat32S j n)) (hn : n ≤ 1099511627776) :
    Calls Try.prog 35 #[v, .int .i64 j] w fun e w' => e = .returned (.int .i64 (j + n)) ∧ w = w' := by
  obtain ⟨A, cap, rfl, hcap, hA⟩ := hr
  have HA := Lib.hid hA
  clear hA
  rw [marksFloat32S_len] at hcap ⊢
  go_enter Try.func35, Try.ntmps35
  go_wp2
  go_loop [1, 5] (fun sk si => ∃ k : Nat, k ≤ n ∧ si = .int .i64 k ∧ sk = .int .i64 (j + k)) (fun _ si => n - (intOf si).toNat)
  case atStart => exact ⟨0, by omega, rfl, by simp⟩
  case round =>
    obtain ⟨k, hk, rfl, rfl⟩ := hrel
    by_cases hlt : k < n
    · obtain ⟨x, hx⟩ := get_of_lt (xs := marksFloat32S j n) (by rw [marksFloat32S_len]; exact hlt)
      obtain ⟨ad, rfl, hbl, hc⟩ := HA.out k x hx
      have hxe := marksFloat32S_at hx
      subst hxe
      clear hx
      simp only [mkFloat32S] at hc
      have ho := mkF_ord (j + k)
      go_wp2
      go_round
      case rel => exact ⟨k + 1, by omega, by go_num, by go_num⟩
      case measure => simp [intOf]; omega
    · have hke : k = n := by omega
      have HK := Lib.hid hke
      clear hke
      go_wp2
      go_ret
      exact ⟨ret_int (by rw [HK.out]), rfl⟩
end Go.Proofs.Ytimpabceellihaa
