/-
  The walks of laws.toFloat32S, eqFloat32S, markFloat32S, heldFloat32S.
  The walks of slices.IndexFunc and slices.ContainsFunc at []float32, for whatever function that answers by a predicate and leaves the world alone but for draws.
  Tests on a float32, by name, and the walks of the small functions that make them.
  The walks of small functions over lists of float32: tests of all, sums, absolute values.
  A sum that is nearly 1: impl.absolute, impl.areChances; how the order of numbers stands to signs.
-/
import Derived.Test.YtimpabceellihaaSl
import Derived.Test.YtimpabceellihaaFloat
import Derived.Deep.QuietTactic
import Derived.BigQuiet
import Derived.Test.YtimpabceellihaaFq
import Derived.Laws.Entries
namespace Go.Proofs.Ytimpabceellihaa
section
open Go.RowKit
/-- A float32 as a cell. -/
abbrev fV (b : Nat) : Value := .float .f32 b
/-- What words stand for, one by one. -/
def absL (xs : List Nat) : List (Option Nat) := xs.map (absF .f32)
theorem absL_len {xs ys : List Nat} (h : absL xs = absL ys) : xs.length = ys.length := by
  have := congrArg List.length h
  simpa [absL] using this
theorem absL_at {xs ys : List Nat} (h : absL xs = absL ys) {k : Nat} {x y : Nat} (hx : xs[k]? = some x) (hy : ys[k]? = some y) : absF .f32 x = absF .f32 y := by
  have := congrArg (·[k]?) h
  simp only [absL, List.getElem?_map, hx, hy, Option.map_some, Option.some.injEq] at this
  exact this
/-- What markFloat32S lays from j on. -/
def mkFloat32S (n : Int) : Nat := floatOfInt .f32 n
theorem mkF_ord (n : Int) : FloatKind.f32.format.order (floatOfInt .f32 n) (floatOfInt .f32 n) = some .eq := by
  exact ord_refl (k := .f32) (nan_write Ieee.single (d := .number (n < 0) n.natAbs 0) rfl)
def marksFloat32S (j : Int) (n : Nat) : List Nat := (List.range n).map fun (t : Nat) => mkFloat32S (j + (t : Int))
def markRowFloat32S (j : Int) (xs : List Nat) (k : Nat) : List Value := (List.range k).map (fun (t : Nat) => fV (mkFloat32S (j + (t : Int)))) ++ (xs.drop k).map fV
theorem run_store_float (P : Program) (w : World) (a : Addr) (m : Mode) (k : FloatKind) (b : Nat) : (store a (.float k b) m).run P w = stored P w a (.float k b) m := run_store P w a _ m rfl
attribute [local go_sem] run_store_float
theorem enter_sameFloat (args : Array Value) (w : World) : (callFunc 34 args).run Try.prog w = .ok (.enter 34 args) w :=
  enter_of Try.func34 (by kernel_rfl) (by kernel_rfl) args w
theorem markRowFloat32S_at (j : Int) {xs : List Nat} {k : Nat} {x : Nat} (h : xs[k]? = some x) : (markRowFloat32S j xs k)[k]? = some (fV x) := by
  unfold markRowFloat32S
  rw [List.getElem?_append_right (by simp)]
  simp [h]
theorem markRowFloat32S_set (j : Int) {xs : List Nat} {k : Nat} (h : k < xs.length) : (markRowFloat32S j xs k).set k (fV (mkFloat32S (j + k))) = markRowFloat32S j xs (k + 1) := by
  unfold markRowFloat32S
  have hd : (xs.drop k).map fV = fV (xs[k]'h) :: (xs.drop (k + 1)).map fV := by rw [List.drop_eq_getElem_cons h, List.map_cons]
  rw [List.set_append_right _ _ (by simp), List.range_succ, List.map_append, hd, List.length_map, List.length_range, Nat.sub_self, List.set_cons_zero]
  simp only [List.map_cons, List.map_nil, List.append_assoc, List.cons_append, List.nil_append]
theorem markRowFloat32S_end (j : Int) (xs : List Nat) : markRowFloat32S j xs xs.length = (marksFloat32S j xs.length).map fV := by
  unfold markRowFloat32S marksFloat32S
  simp
theorem marksFloat32S_at {j : Int} {n k : Nat} {x : Nat} (h : (marksFloat32S j n)[k]? = some x) : x = mkFloat32S (j + k) := by
  unfold marksFloat32S at h
  rw [List.getElem?_map] at h
  have hk : k < n := by
    rcases Nat.lt_or_ge k n with h1 | h1
    · exact h1
    · rw [List.getElem?_eq_none (by simpa using h1)] at h; cases h
  rw [List.getElem?_range hk] at h
  simpa using h.symm
theorem marksFloat32S_len (j : Int) (n : Nat) : (marksFloat32S j n).length = n := by simp [marksFloat32S]

theorem elF_ : Elem Try.prog 22 39 (.float .f32 0) 4 := ⟨Try.underlying22, by kernel_rfl, rfl⟩

set_option maxHeartbeats 400000 in
theorem toFloat32S_any (v : Value) (xs : List Nat) (w : World) (hr : Rd fV w v xs) (hn : xs.length ≤ 1099511627776) :
    Calls Try.prog 8 #[v] w fun e w' => ∃ v', e = .returned v' ∧ Own fV 39 w' w.heap.size v' xs ∧ Below w.heap.size w w' ∧ (∃ b, v' = .slice (some ⟨b, 0, none⟩) xs.length xs.length) := by
  obtain ⟨A, cap, rfl, hcap, hA⟩ := hr
  have HA := Lib.hid hA
  clear hA
  go_enter Try.func8, Try.ntmps8
  go_wp2_with (at_make; go_loud (refine elF_.make _ rfl _ _ rfl .i64 .i64 _ _ xs.length rfl rfl rfl rfl (by omega) (by omega) ?_))
  intro w1 hown hb1 hs1
  obtain ⟨B, hB⟩ : ∃ B, B = w.heap.size := ⟨_, rfl⟩
  have HB := Lib.hid hB
  rw [← hB] at hown hb1 hs1 ⊢
  clear hB
  rw [← fillRow_zero fV] at hown
  go_wp2
  go_loopw [4] (fun si wr => ∃ k : Nat, k ≤ xs.length ∧ si = .int .i64 k ∧ wr.ownsRow B 39 1 (.slice (some ⟨B, 0, none⟩) xs.length xs.length) xs.length (fillRow fV (.float .f32 0) xs k) ∧ Below B w wr)
    (fun si _ => xs.length - (intOf si).toNat)
  case atStart => exact ⟨0, by omega, rfl, hown, hb1⟩
  case round =>
    obtain ⟨k, hk, rfl, hown2, hb2⟩ := hrel
    clear hown hb1
    by_cases hlt : k < xs.length
    · obtain ⟨x, hx⟩ := get_of_lt hlt
      obtain ⟨ad, rfl, hbl, hc⟩ := HA.out k x hx
      have hcell : wr.cell? (ad.add k) = some (fV x) := by rw [hb2.cell (by rw [add_block, HB.out]; exact hbl)]; exact hc
      have c2 := hown2.cellAt k (by omega)
      rw [fillRow_at _ _ _ hlt] at c2
      have f2 := hown2.frozenAt k
      have hset := hown2.stored k (fV x)
      rw [fillRow_set _ _ _ hx] at hset
      have HX := Lib.hid hx
      clear hx hc
      go_wp2
      go_roundw
      case rel => exact ⟨k + 1, by omega, by go_num, hset.1, hb2.grown hset.2 (by have := hb2.size; have := HB.out; omega) (by intro k h; cases h; exact Nat.le_refl _)⟩
      case measure => simp [intOf]; omega
    · have hke : k = xs.length := by omega
      have HK := Lib.hid hke
      clear hke
      go_wp2
      go_ret
      refine ⟨_, rfl, ?_, HB.out ▸ hb2, B, rfl⟩
      have := hown2
      rw [HK.out, fillRow_end] at this
      rw [← HB.out]
      exact this

theorem eqFloat32S_any (v u : Value) (xs ys : List Nat) (w : World) (hr : Rd fV w v xs) (hs : Rd fV w u ys) (h1 : xs.length ≤ 1099511627776) (_h2 : ys.length ≤ 1099511627776) (he : absL xs = absL ys) :
    Calls Try.prog 11 #[v, u] w fun e w' => e = .returned (.bool true) ∧ ∃ n, w.drewN n = w' := by
  obtain ⟨A, cap, rfl, hcap, hA⟩ := hr
  obtain ⟨A2, cap2, rfl, hcap2, hA2⟩ := hs
  have HA := Lib.hid hA
  have HA2 := Lib.hid hA2
  have hlen : xs.length = ys.length := absL_len he
  have HE := Lib.hid he
  clear hA hA2 he
  rw [← hlen]
  clear hlen
  go_enter Try.func11, Try.ntmps11
  go_wp2
  go_loopw [5] (fun si wr => ∃ k : Nat, k ≤ xs.length ∧ si = .int .i64 k ∧ ∃ n, w.drewN n = wr)
    (fun si _ => xs.length - (intOf si).toNat)
  case atStart => exact ⟨0, by omega, rfl, 0, rfl⟩
  case round =>
    obtain ⟨k, hk, rfl, n, rfl⟩ := hrel
    by_cases hlt : k < xs.length
    · obtain ⟨x, hx⟩ := get_of_lt hlt
      obtain ⟨y, hy⟩ := get_of_lt (xs := ys) (k := k) (by rw [← absL_len HE.out]; exact hlt)
      obtain ⟨ad, rfl, hbl, hc⟩ := HA.out k x hx
      obtain ⟨ad2, rfl, hbl2, hc2⟩ := HA2.out k y hy
      have HXY := Lib.hid (absL_at HE.out hx hy)
      clear hx hy
      have hk0 : (0 : Int) ≤ (k : Int) := by omega
      have hk1 : (k : Int) < (xs.length : Int) := by omega
      go_wp2
      refine wp_region_fq 12 (fun f args v => f = 34 → ∀ p q, args = #[.float .f64 p, .float .f64 q] → absF .f64 p = absF .f64 q → v = .bool true) (by kernel_rfl) (by kernel_rfl) ?_
      simp only [List.take, List.drop]
      repeat (first | (refine wpFq_one (by rfl) ?_; go_big_quiet_step (fail); refine wpQuiet_nil ?_) | (refine wpFq_nilc (by rfl) _ rfl _ (by rfl) ?_; simp only [Act.put, List.setIfInBounds_toArray, List.set_cons_zero, List.set_cons_succ]) | (refine wpFq_fl (by rfl) _ _ _ _ _ rfl (by rfl) _ _ _ (by rfl) (by rfl) ?_; intro fb hfb; simp only [Act.put, List.setIfInBounds_toArray, List.set_cons_zero, List.set_cons_succ]) | (refine wpFq_up (by rfl) _ _ _ rfl (by kernel_rfl) (by kernel_rfl) _ (by rfl) ?_; intro fb hfb; simp only [Act.put, List.setIfInBounds_toArray, List.set_cons_zero, List.set_cons_succ]) | ((refine wpFq_call (by rfl) 34 _ _ [.float .f64 _, .float .f64 _] rfl rfl enter_sameFloat (fun w' hw' => (sameFloat_any _ _ (by rw [‹absF .f64 _ = upF (absF .f32 x)›, ‹absF .f64 _ = upF (absF .f32 y)›, HXY.out]) w').mono fun e w2 ⟨he, hw⟩ => ⟨_, he, fun _ p q _ _ => rfl, hw ▸ hw'⟩) ?_; intro v hv; obtain rfl := hv rfl _ _ rfl (by rw [‹absF .f64 _ = upF (absF .f32 x)›, ‹absF .f64 _ = upF (absF .f32 y)›, HXY.out])); simp only [Act.put, List.setIfInBounds_toArray, List.set_cons_zero, List.set_cons_succ]))
      refine wpFq_nil ?_
      intro nq
      go_wp2
      go_roundw
      case rel => exact ⟨k + 1, by omega, by go_num, _, rfl⟩
      case measure => simp [intOf]; omega
    · go_wp2
      go_ret
      exact ⟨rfl, _, rfl⟩


set_option maxHeartbeats 400000 in
theorem markFloat32S_any (v : Value) (xs : List Nat) (j : Int) (hj0 : 0 ≤ j) (hj : j ≤ 1099511627776) (base : Nat) (w : World) (ho : Own fV 39 w base v xs) (hn : xs.length ≤ 1099511627776) (hbase : base ≤ w.heap.size) :
    Calls Try.prog 13 #[v, .int .i64 j] w fun e w' => e = .returned (.int .i64 (j + xs.length)) ∧ Own fV 39 w' base v (marksFloat32S j xs.length) ∧ w.grownBy w' v.ownBlock := by
  rcases Nat.eq_zero_or_pos xs.length with h0 | h0
  · have hx : xs = [] := List.eq_nil_of_length_eq_zero h0
    subst hx
    obtain ⟨A, cap, rfl, _, _⟩ := ho.rd
    go_enter Try.func13, Try.ntmps13
    go_wp2
    go_loopw [1, 5] (fun sk si wr => si = .int .i64 0 ∧ sk = .int .i64 j ∧ wr = w) (fun _ _ _ => 0)
    case atStart => exact ⟨rfl, rfl, rfl⟩
    case round =>
      obtain ⟨rfl, rfl, rfl⟩ := hrel
      go_wp2
      go_ret
      exact ⟨ret_int (by simp), ho, World.grownBy.refl _ _⟩
  · obtain ⟨g, cap, rfl, hcap, hg, hgl⟩ := ho.form h0
    unfold Own at ho
    have hl : (xs.map fV) = markRowFloat32S j xs 0 := by simp [markRowFloat32S]
    rw [hl] at ho
    clear hl
    go_enter Try.func13, Try.ntmps13
    go_wp2
    go_loopw [1, 5] (fun sk si wr => ∃ k : Nat, k ≤ xs.length ∧ si = .int .i64 k ∧ sk = .int .i64 (j + k) ∧ wr.ownsRow base 39 1 (.slice (some ⟨g, 0, none⟩) xs.length cap) xs.length (markRowFloat32S j xs k) ∧ w.grownBy wr (some g))
      (fun _ si _ => xs.length - (intOf si).toNat)
    case atStart => exact ⟨0, by omega, rfl, by simp, ho, World.grownBy.refl _ _⟩
    case round =>
      obtain ⟨k, hk, rfl, rfl, hown2, hg2⟩ := hrel
      clear ho
      by_cases hlt : k < xs.length
      · obtain ⟨x, hx⟩ := get_of_lt hlt
        have c2 := hown2.cellAt k (by omega)
        rw [markRowFloat32S_at j hx] at c2
        have f2 := hown2.frozenAt k
        have hset := hown2.stored k (fV (mkFloat32S (j + k)))
        rw [markRowFloat32S_set j hlt] at hset
        clear hx
        simp only [mkFloat32S] at hset
        go_wp2
        go_roundw
        case rel => exact ⟨k + 1, by omega, by go_num, by go_num, hset.1, grown_trans1 hg2 hset.2⟩
        case measure => simp [intOf]; omega
      · have hke : k = xs.length := by omega
        have HK := Lib.hid hke
        clear hke
        go_wp2
        go_ret
        refine ⟨ret_int (by rw [HK.out]), ?_, hg2⟩
        have := hown2
        rw [HK.out, markRowFloat32S_end] at this
        unfold Own
        rw [marksFloat32S_len]
        exact this


theorem heldFloat32S_any (v : Value) (n : Nat) (j : Int) (hj0 : 0 ≤ j) (hj : j ≤ 1099511627776) (w : World) (hr : Rd fV w v (marksFloat32S j n)) (hn : n ≤ 1099511627776) :
    Calls Try.prog 35 #[v, .int .i64 j] w fun e w' => e = .returned (.int .i64 (j + n)) ∧ w = w' := by
  obtain ⟨A, cap, rfl, hcap, hA⟩ := hr
  have HA := Lib.hid hA
  clear hA
  rw [marksFloat32S_len] at hcap ⊢
  go_enter Try.func35, Try.ntmps35
  go_wp2
  go_loop [1, 5] (fun sk si => ∃ k : Nat, k ≤ n ∧ si = .int .i64 k ∧ sk = .int .i64 (j + k)) (fun _ si => n - (intOf si).toNat)
  case atStart => exact ⟨0, by omega, rfl, by simp⟩
  case round =>
    obtain ⟨k, hk, rfl, rfl⟩ := hrel
    by_cases hlt : k < n
    · obtain ⟨x, hx⟩ := get_of_lt (xs := marksFloat32S j n) (by rw [marksFloat32S_len]; exact hlt)
      obtain ⟨ad, rfl, hbl, hc⟩ := HA.out k x hx
      have hxe := marksFloat32S_at hx
      subst hxe
      clear hx
      simp only [mkFloat32S] at hc
      have ho := mkF_ord (j + k)
      go_wp2
      go_round
      case rel => exact ⟨k + 1, by omega, by go_num, by go_num⟩
      case measure => simp [intOf]; omega
    · have hke : k = n := by omega
      have HK := Lib.hid hke
      clear hke
      go_wp2
      go_ret
      exact ⟨ret_int (by rw [HK.out]), rfl⟩
end

section
open Go.RowKit

set_option maxHeartbeats 400000 in
theorem idxFuncF_any (p : Nat → Bool) (K : Nat) (cp : Array Value) (v : Value) (xs : List Nat) (hn : xs.length ≤ 1099511627776)
    (hK : ∀ (args : Array Value) (w : World), (callFunc K args).run Try.prog w = .ok (.enter K args) w) (w : World)
    (hC : ∀ (x n : Nat), x ∈ xs → Calls Try.prog K (#[fV x] ++ cp) (w.drewN n) fun e w' => e = .returned (.bool (p x)) ∧ ∃ n, w.drewN n = w') (hr : Rd fV w v xs) :
    Calls Try.prog 68 #[v, .func (.func K) #[] cp] w fun e w' => e = .returned (.int .i64 (idxP p xs)) ∧ ∃ n, w.drewN n = w' := by
  obtain ⟨A, cap, rfl, hcap, hA⟩ := hr
  have HA := Lib.hid hA
  have HC := Lib.hid hC
  clear hA hC
  go_enter Try.func68, Try.ntmps68
  go_wp2
  go_loopw [8] (fun si wr => ∃ k : Nat, k ≤ xs.length ∧ si = .int .i64 k ∧ (∀ y ∈ xs.take k, p y = false) ∧ ∃ n, w.drewN n = wr)
    (fun si _ => xs.length - (intOf si).toNat)
  case atStart => exact ⟨0, by omega, rfl, by simp, 0, rfl⟩
  case round =>
    obtain ⟨k, hk, rfl, hall, n, rfl⟩ := hrel
    have HALL := Lib.hid hall
    clear hall
    by_cases hlt : k < xs.length
    · obtain ⟨x, hx⟩ := get_of_lt hlt
      obtain ⟨ad, rfl, hbl, hc⟩ := HA.out k x hx
      have HX := Lib.hid hx
      have hm : x ∈ xs := List.mem_of_getElem? hx
      clear hx
      go_wp2_with fail
      refine (HC.out x n hm).mono ?_
      rintro e w' ⟨rfl, n', rfl⟩
      cases hp : p x
      · go_wp2
        go_roundw
        case rel =>
          refine ⟨k + 1, by omega, by go_num, fun y hy => ?_, _, rfl⟩
          rw [take_snoc HX.out, List.mem_append] at hy
          rcases hy with hy | hy
          · exact HALL.out y hy
          · simp at hy; subst hy; exact hp
        case measure => simp [intOf]; omega
      · have HP := Lib.hid hp
        clear hp
        go_wp2
        go_ret
        exact ⟨ret_int (idxP_hit HALL.out HX.out HP.out).symm, _, rfl⟩
    · have hke : k = xs.length := by omega
      have HKE := Lib.hid hke
      clear hke
      go_wp2
      go_ret
      refine ⟨ret_int (idxP_none fun y hy => HALL.out y ?_).symm, _, rfl⟩
      rw [HKE.out, List.take_length]
      exact hy

theorem containsFuncF_any (p : Nat → Bool) (K : Nat) (cp : Array Value) (v : Value) (xs : List Nat) (hn : xs.length ≤ 1099511627776)
    (hK : ∀ (args : Array Value) (w : World), (callFunc K args).run Try.prog w = .ok (.enter K args) w) (w : World)
    (hC : ∀ (x n : Nat), x ∈ xs → Calls Try.prog K (#[fV x] ++ cp) (w.drewN n) fun e w' => e = .returned (.bool (p x)) ∧ ∃ n, w.drewN n = w') (hr : Rd fV w v xs) :
    Calls Try.prog 54 #[v, .func (.func K) #[] cp] w fun e w' => e = .returned (.bool (xs.any p)) ∧ ∃ n, w.drewN n = w' := by
  have HC := Lib.hid hC
  have HR := Lib.hid hr
  clear hC hr
  go_enter Try.func54, Try.ntmps54
  go_wp2_with (go_at_call 68; refine (idxFuncF_any p K cp _ xs hn hK _ HC.out HR.out).mono ?_; rintro e w' ⟨rfl, n, rfl⟩)
  go_ret
  exact ⟨ret_bool (idxP_any p xs), _, rfl⟩
end

section
open Go.RowKit

abbrev ord32 (x y : Nat) : Option Ordering := FloatKind.f32.format.order x y
/-- x is finite. -/
def finB (x : Nat) : Bool := match FloatKind.f32.decode x with | .number .. => true | _ => false
def partB (x : Nat) : Bool := (ord32 x 0 == some .gt || ord32 x 0 == some .eq) && (ord32 x 1065353216 == some .lt || ord32 x 1065353216 == some .eq)
def leastB (x : Nat) : Bool := finB x && (ord32 x 0 == some .gt || ord32 x 0 == some .eq)
def aboveB (x : Nat) : Bool := finB x && (ord32 x 0 == some .gt)
/-- x, but 1 if it is greater. -/
def oneF (x : Nat) : Nat := if ord32 x 1065353216 == some .gt then 1065353216 else x

section
open Ieee
theorem decode_zero (s : Bool) (p : Int) : ∃ t e, FloatKind.f32.decode (FloatKind.f32.encode (.number s 0 p)) = .number t 0 e := by
  have : FloatKind.f32.encode (.number s 0 p) = single.word s 0 := by
    show single.nearest s 0 p = _
    simp [Format.nearest]
  rw [this]
  cases s
  · exact ⟨_, _, rfl⟩
  · exact ⟨_, _, rfl⟩
theorem order_zero {x : Nat} {t : Bool} {e : Int} (h : FloatKind.f32.decode x = .number t 0 e) : ord32 x 0 = some .eq := by
  unfold ord32 Format.order
  have h' : FloatKind.f32.format.read x = .number t 0 e := h
  have h0 : FloatKind.f32.format.read 0 = .number false 0 (-149) := rfl
  rw [h', h0]
  simp [Datum.order, signed]
theorem finite_eq (x : Nat) (W : World) : (ord32 (flR .sub .f32 x x W) 0 == some .eq) = finB x := by
  unfold flR finB
  have hs : floatBits .sub .f32 x x = ((FloatKind.f32.decode x).sum (FloatKind.f32.decode x).opposite).map FloatKind.f32.encode := rfl
  rw [hs]
  cases hx : FloatKind.f32.decode x with
  | nan s t =>
    simp only [Datum.sum, Option.map_none, Option.getD_none]
    have : ∀ t', ord32 ((t' % 2) * 2 ^ 31 + 0x7f800000 + 1 + (t' / 2) % (2 ^ 23 - 1)) 0 = none := fun t' => ord_nan (k := .f32) (nan_bits32 t')
    have h := this (W.tape W.drawn (.nanBits .f32 x x))
    show (ord32 (Question.cut (.nanBits .f32 x x) _) 0 == _) = _
    simp only [Question.cut]
    rw [h]; rfl
  | infinity s =>
    simp only [Datum.opposite, Datum.sum]
    have hne : ¬ (s = !s) := by cases s <;> decide
    rw [if_neg hne]
    simp only [Option.map_none, Option.getD_none]
    have : ∀ t', ord32 ((t' % 2) * 2 ^ 31 + 0x7f800000 + 1 + (t' / 2) % (2 ^ 23 - 1)) 0 = none := fun t' => ord_nan (k := .f32) (nan_bits32 t')
    have h := this (W.tape W.drawn (.nanBits .f32 x x))
    show (ord32 (Question.cut (.nanBits .f32 x x) _) 0 == _) = _
    simp only [Question.cut]
    rw [h]; rfl
  | number s m i =>
    simp only [Datum.opposite, Datum.sum, Int.min_self, Int.sub_self]
    have hz : signed s m (0 : Int).toNat + signed (!s) m (0 : Int).toNat = 0 := by cases s <;> simp [signed] <;> omega
    rw [hz]
    simp only [if_true, Option.map_some, Option.getD_some, Int.natAbs_zero]
    obtain ⟨t, e, he⟩ := decode_zero (s && !s) i
    rw [order_zero he]
    rfl
/-- A finite number compares with zero. -/
theorem finB_ord {x : Nat} (h : finB x = true) : (ord32 x 0 == some .lt) = !(ord32 x 0 == some .gt || ord32 x 0 == some .eq) := by
  unfold finB at h
  have h0 : FloatKind.f32.format.read 0 = .number false 0 (-149) := rfl
  unfold ord32 Format.order
  unfold FloatKind.decode at h
  cases hx : FloatKind.f32.format.read x with
  | nan s t => rw [hx] at h; cases h
  | infinity s => rw [hx] at h; cases h
  | number s m i =>
    rw [h0]
    simp only [Datum.order]
    generalize compare (α := Int) _ _ = o
    cases o <;> rfl
end

theorem isFinite_any (x : Nat) (w : World) : Calls Try.prog 36 #[fV x] w fun e w' => e = .returned (.bool (finB x)) ∧ ∃ n, w.drewN n = w' := by
  have hf := finite_eq x
  have hs := fun W => run_fl_sub (P := Try.prog) 39 .f32 x x W
  go_enter Try.func36, Try.ntmps36
  go_wp2
  go_ret
  exact ⟨rfl, _, rfl⟩
theorem l01Finite_any (x : Nat) (w : World) : Calls Try.prog 48 #[fV x] w fun e w' => e = .returned (.bool (finB x)) ∧ ∃ n, w.drewN n = w' := by
  have hf := finite_eq x
  have hs := fun W => run_fl_sub (P := Try.prog) 39 .f32 x x W
  go_enter Try.func48, Try.ntmps48
  go_wp2
  go_ret
  exact ⟨rfl, _, rfl⟩
theorem areFinite1_any (x : Nat) (w : World) : Calls Try.prog 57 #[fV x] w fun e w' => e = .returned (.bool (!finB x)) ∧ ∃ n, w.drewN n = w' := by
  go_enter Try.func57, Try.ntmps57
  go_wp2_with (go_at_call 36; refine (isFinite_any _ _).mono ?_; rintro e w' ⟨rfl, n, rfl⟩)
  go_ret
  exact ⟨rfl, _, rfl⟩
end

section
open Go.RowKit
attribute [local go_sem] run_fl_add run_fl_sub run_fl_mul run_fl_quo

theorem not_any {α : Type} (p : α → Bool) (xs : List α) : (!(xs.any fun x => !p x)) = xs.all p := by simp [List.all_eq_not_any_not]
theorem all_false_of {α : Type} {p : α → Bool} {xs : List α} {k : Nat} {x : α} (hx : xs[k]? = some x) (hp : p x = false) : xs.all p = false := by
  rw [List.all_eq_false]
  exact ⟨x, List.mem_of_getElem? hx, by simp [hp]⟩
/-- The sum from left to right. -/
def sumF (l : List (Option Nat)) : Option Nat := l.foldl (opF .add .f32) (some 0)
theorem sumF_snoc (l : List (Option Nat)) (x : Option Nat) : sumF (l ++ [x]) = opF .add .f32 (sumF l) x := by simp [sumF]
theorem absL_snoc {xs : List Nat} {k : Nat} {x : Nat} (h : xs[k]? = some x) : absL (xs.take (k + 1)) = absL (xs.take k) ++ [absF .f32 x] := by simp [absL, take_snoc h]

theorem l02Least_any (x : Nat) (w : World) : Calls Try.prog 47 #[fV x] w fun e w' => e = .returned (.bool (leastB x)) ∧ ∃ n, w.drewN n = w' := by
  cases h : finB x
  · have H := Lib.hid h
    go_enter Try.func47, Try.ntmps47
    go_wp2_with (go_at_call 48; refine (l01Finite_any _ _).mono ?_; rintro e w' ⟨rfl, n, rfl⟩; rw [H.out])
    go_ret
    exact ⟨ret_bool (by simp [leastB, H.out]), _, rfl⟩
  · have H := Lib.hid h
    have ho := finB_ord h
    cases h1 : (FloatKind.f32.format.order x 0 == some .gt) <;> cases h2 : (FloatKind.f32.format.order x 0 == some .eq)
    all_goals
      try (exfalso; have a := eq_of_beq h1; rw [a] at h2; cases h2; done)
    all_goals
      have h3 : (FloatKind.f32.format.order x 0 == some .lt) = _ := ho
      rw [show ord32 x 0 = FloatKind.f32.format.order x 0 from rfl, h1, h2] at h3
      clear ho
      simp only [Bool.or_false, Bool.or_true, Bool.or_self, Bool.not_true, Bool.not_false] at h3
      go_enter Try.func47, Try.ntmps47
      go_wp2_with (go_at_call 48; refine (l01Finite_any _ _).mono ?_; rintro e w' ⟨rfl, n, rfl⟩; rw [H.out])
      go_ret
      first | (exact ⟨ret_bool (by first | (simp [leastB, H.out, ord32, h1, h2]; done)), _, rfl⟩) | (exfalso; have a := eq_of_beq h1; rw [a] at h2; cases h2)
theorem l02Above_any (x : Nat) (w : World) : Calls Try.prog 27 #[fV x] w fun e w' => e = .returned (.bool (aboveB x)) ∧ ∃ n, w.drewN n = w' := by
  cases h : finB x
  · have H := Lib.hid h
    go_enter Try.func27, Try.ntmps27
    go_wp2_with (go_at_call 48; refine (l01Finite_any _ _).mono ?_; rintro e w' ⟨rfl, n, rfl⟩; rw [H.out])
    go_ret
    exact ⟨ret_bool (by simp [aboveB, H.out]), _, rfl⟩
  · have H := Lib.hid h
    have ho := finB_ord h
    cases h1 : (FloatKind.f32.format.order x 0 == some .gt) <;> cases h2 : (FloatKind.f32.format.order x 0 == some .eq)
    all_goals
      try (exfalso; have a := eq_of_beq h1; rw [a] at h2; cases h2; done)
    all_goals
      have h3 : (FloatKind.f32.format.order x 0 == some .lt) = _ := ho
      rw [show ord32 x 0 = FloatKind.f32.format.order x 0 from rfl, h1, h2] at h3
      clear ho
      simp only [Bool.or_false, Bool.or_true, Bool.or_self, Bool.not_true, Bool.not_false] at h3
      go_enter Try.func27, Try.ntmps27
      go_wp2_with (go_at_call 48; refine (l01Finite_any _ _).mono ?_; rintro e w' ⟨rfl, n, rfl⟩; rw [H.out])
      go_ret
      first | (exact ⟨ret_bool (by first | (simp [aboveB, H.out, ord32, h1]; done)), _, rfl⟩) | (exfalso; have a := eq_of_beq h1; rw [a] at h2; cases h2)
theorem areChances1_any (x : Nat) (w : World) : Calls Try.prog 55 #[fV x] w fun e w' => e = .returned (.bool (!leastB x)) ∧ ∃ n, w.drewN n = w' := by
  cases h : finB x
  · have H := Lib.hid h
    go_enter Try.func55, Try.ntmps55
    go_wp2_with (go_at_call 36; refine (isFinite_any _ _).mono ?_; rintro e w' ⟨rfl, n, rfl⟩; rw [H.out])
    go_ret
    exact ⟨ret_bool (by simp [leastB, H.out]), _, rfl⟩
  · have H := Lib.hid h
    have ho := finB_ord h
    cases h1 : (FloatKind.f32.format.order x 0 == some .gt) <;> cases h2 : (FloatKind.f32.format.order x 0 == some .eq)
    all_goals
      try (exfalso; have a := eq_of_beq h1; rw [a] at h2; cases h2; done)
    all_goals
      have h3 : (FloatKind.f32.format.order x 0 == some .lt) = _ := ho
      rw [show ord32 x 0 = FloatKind.f32.format.order x 0 from rfl, h1, h2] at h3
      clear ho
      simp only [Bool.or_false, Bool.or_true, Bool.or_self, Bool.not_true, Bool.not_false] at h3
      go_enter Try.func55, Try.ntmps55
      go_wp2_with (go_at_call 36; refine (isFinite_any _ _).mono ?_; rintro e w' ⟨rfl, n, rfl⟩; rw [H.out])
      go_ret
      first | (exact ⟨ret_bool (by first | (simp [leastB, H.out, ord32, h1, h2]; done)), _, rfl⟩) | (exfalso; have a := eq_of_beq h1; rw [a] at h2; cases h2)
theorem arePositive1_any (x : Nat) (w : World) : Calls Try.prog 58 #[fV x] w fun e w' => e = .returned (.bool (!aboveB x)) ∧ ∃ n, w.drewN n = w' := by
  cases h : finB x
  · have H := Lib.hid h
    go_enter Try.func58, Try.ntmps58
    go_wp2_with (go_at_call 36; refine (isFinite_any _ _).mono ?_; rintro e w' ⟨rfl, n, rfl⟩; rw [H.out])
    go_ret
    exact ⟨ret_bool (by simp [aboveB, H.out]), _, rfl⟩
  · have H := Lib.hid h
    have ho := finB_ord h
    cases h1 : (FloatKind.f32.format.order x 0 == some .gt) <;> cases h2 : (FloatKind.f32.format.order x 0 == some .eq)
    all_goals
      try (exfalso; have a := eq_of_beq h1; rw [a] at h2; cases h2; done)
    all_goals
      have h3 : (FloatKind.f32.format.order x 0 == some .lt) = _ := ho
      rw [show ord32 x 0 = FloatKind.f32.format.order x 0 from rfl, h1, h2] at h3
      clear ho
      simp only [Bool.or_false, Bool.or_true, Bool.or_self, Bool.not_true, Bool.not_false] at h3
      go_enter Try.func58, Try.ntmps58
      go_wp2_with (go_at_call 36; refine (isFinite_any _ _).mono ?_; rintro e w' ⟨rfl, n, rfl⟩; rw [H.out])
      go_ret
      first | (exact ⟨ret_bool (by first | (simp [aboveB, H.out, ord32, h1]; done)), _, rfl⟩) | (exfalso; have a := eq_of_beq h1; rw [a] at h2; cases h2)
theorem l02Finite_any (v : Value) (xs : List Nat) (hn : xs.length ≤ 1099511627776) (w : World) (hr : Rd fV w v xs) :
    Calls Try.prog 46 #[v] w fun e w' => e = .returned (.bool (xs.all finB)) ∧ ∃ n, w.drewN n = w' := by
  obtain ⟨A, cap, rfl, hcap, hA⟩ := hr
  have HA := Lib.hid hA
  clear hA
  go_enter Try.func46, Try.ntmps46
  go_wp2
  go_loopw [3] (fun si wr => ∃ k : Nat, k ≤ xs.length ∧ si = .int .i64 k ∧ Hid ((xs.take k).all finB = true) ∧ ∃ n, w.drewN n = wr) (fun si _ => xs.length - (intOf si).toNat)
  case atStart => exact ⟨0, by omega, rfl, rfl, 0, rfl⟩
  case round =>
    obtain ⟨k, hk, rfl, hall, nd, rfl⟩ := hrel
    by_cases hlt : k < xs.length
    · obtain ⟨x, hx⟩ := get_of_lt hlt
      obtain ⟨ad, rfl, hbl, hc⟩ := HA.out k x hx
      have HX := Lib.hid hx
      clear hx
      cases hp : finB x
      · have HP := Lib.hid hp
        clear hp
        go_wp2_with (go_at_call 48; refine (l01Finite_any _ _).mono ?_; rintro e w' ⟨rfl, n, rfl⟩; rw [HP.out])
        go_ret
        exact ⟨ret_bool (by first | exact (all_false_of HX.out HP.out).symm | (rw [all_false_of HX.out HP.out]; simp)), _, rfl⟩
      · have HP := Lib.hid hp
        clear hp
        go_wp2_with (go_at_call 48; refine (l01Finite_any _ _).mono ?_; rintro e w' ⟨rfl, n, rfl⟩; rw [HP.out])
        go_roundw
        case rel => exact ⟨k + 1, by omega, by go_num, by unfold Hid; rw [take_snoc HX.out, List.all_append, hall.out]; simp [HP.out], _, rfl⟩
        case measure => simp [intOf]; omega
    · have hke : k = xs.length := by omega
      have HK := Lib.hid hke
      clear hke
      have ha : Hid (xs.all finB = true) := by
        have := hall.out
        rw [HK.out, List.take_length] at this
        exact this
      go_wp2
      go_ret
      exact ⟨ret_bool ha.out.symm, _, rfl⟩
theorem enter_areFinite1 (args : Array Value) (w : World) : (callFunc 57 args).run Try.prog w = .ok (.enter 57 args) w :=
  enter_of Try.func57 (by kernel_rfl) (by kernel_rfl) args w
theorem areFinite_any (v : Value) (xs : List Nat) (hn : xs.length ≤ 1099511627776) (w : World) (hr : Rd fV w v xs) :
    Calls Try.prog 41 #[v] w fun e w' => e = .returned (.bool (xs.all finB)) ∧ ∃ n, w.drewN n = w' := by
  have HR := Lib.hid hr
  obtain ⟨A, cap, rfl, hcap, hA⟩ := hr
  clear hA
  have HE := Lib.hid (not_any finB xs)
  go_enter Try.func41, Try.ntmps41
  go_wp2_with (go_at_call 54; go_loud (refine (containsFuncF_any (fun x => !finB x) 57 #[] _ xs hn enter_areFinite1 _ (fun x n _ => quietly (areFinite1_any x _)) HR.out).mono ?_); rintro e w' ⟨rfl, n, rfl⟩)
  go_ret
  exact ⟨ret_bool HE.out, _, rfl⟩
theorem enter_arePositive1 (args : Array Value) (w : World) : (callFunc 58 args).run Try.prog w = .ok (.enter 58 args) w :=
  enter_of Try.func58 (by kernel_rfl) (by kernel_rfl) args w
theorem arePositive_any (v : Value) (xs : List Nat) (hn : xs.length ≤ 1099511627776) (w : World) (hr : Rd fV w v xs) :
    Calls Try.prog 42 #[v] w fun e w' => e = .returned (.bool (xs.all aboveB)) ∧ ∃ n, w.drewN n = w' := by
  have HR := Lib.hid hr
  obtain ⟨A, cap, rfl, hcap, hA⟩ := hr
  clear hA
  have HE := Lib.hid (not_any aboveB xs)
  go_enter Try.func42, Try.ntmps42
  go_wp2_with (go_at_call 54; go_loud (refine (containsFuncF_any (fun x => !aboveB x) 58 #[] _ xs hn enter_arePositive1 _ (fun x n _ => quietly (arePositive1_any x _)) HR.out).mono ?_); rintro e w' ⟨rfl, n, rfl⟩)
  go_ret
  exact ⟨ret_bool HE.out, _, rfl⟩

theorem sum_any (v : Value) (xs : List Nat) (hn : xs.length ≤ 1099511627776) (w : World) (hr : Rd fV w v xs) :
    Calls Try.prog 38 #[v] w fun e w' => ∃ b, e = .returned (fV b) ∧ absF .f32 b = sumF (absL xs) ∧ ∃ n, w.drewN n = w' := by
  obtain ⟨A, cap, rfl, hcap, hA⟩ := hr
  have HA := Lib.hid hA
  clear hA
  go_enter Try.func38, Try.ntmps38
  go_wp2
  go_loopw [3, 8] (fun ss si wr => ∃ k : Nat, k ≤ xs.length ∧ si = .int .i64 k ∧ (∃ b, ss = fV b ∧ Hid (absF .f32 b = sumF (absL (xs.take k)))) ∧ ∃ n, w.drewN n = wr) (fun _ si _ => xs.length - (intOf si).toNat)
  case atStart => exact ⟨0, by omega, rfl, ⟨0, rfl, rfl⟩, 0, rfl⟩
  case round =>
    obtain ⟨k, hk, rfl, ⟨b, rfl, hb⟩, nd, rfl⟩ := hrel
    by_cases hlt : k < xs.length
    · obtain ⟨x, hx⟩ := get_of_lt hlt
      obtain ⟨ad, rfl, hbl, hc⟩ := HA.out k x hx
      have HX := Lib.hid hx
      clear hx
      go_wp2
      go_roundw
      case rel => exact ⟨k + 1, by omega, by go_num, ⟨_, rfl, by unfold Hid; rw [absL_snoc HX.out, sumF_snoc, abs_flR .add rfl, hb.out]⟩, _, rfl⟩
      case measure => simp [intOf]; omega
    · have hke : k = xs.length := by omega
      have HK := Lib.hid hke
      clear hke
      go_wp2
      go_ret
      exact ⟨_, rfl, by rw [hb.out, HK.out, List.take_length], _, rfl⟩
end

section
open Go.RowKit
attribute [local go_sem] run_fl_add run_fl_sub run_fl_mul run_fl_quo

section
open Ieee
theorem order_swap (x y : Datum) : y.order x = (x.order y).map Ordering.swap := by
  cases x <;> cases y <;> simp only [Datum.order, Option.map_none, Option.map_some, Option.some.injEq]
  all_goals first
    | rfl
    | (rename_i s t; cases s <;> cases t <;> rfl)
    | (split <;> rfl)
    | (rename_i s m i t n j; rw [Int.min_comm j i]; exact (Std.OrientedOrd.eq_swap (α := Int)))
    | skip
theorem ord_swap32 (x y : Nat) : ord32 y x = (ord32 x y).map Ordering.swap := order_swap _ _
theorem ord_flip_gt (x y : Nat) : (ord32 y x == some .gt) = (ord32 x y == some .lt) := by
  rw [ord_swap32 x y]
  cases ord32 x y with
  | none => rfl
  | some o => cases o <;> rfl
theorem ord_flip_lt (x y : Nat) : (ord32 y x == some .lt) = (ord32 x y == some .gt) := by
  rw [ord_swap32 x y]
  cases ord32 x y with
  | none => rfl
  | some o => cases o <;> rfl
theorem ord_flip_eq (x y : Nat) : (ord32 y x == some .eq) = (ord32 x y == some .eq) := by
  rw [ord_swap32 x y]
  cases ord32 x y with
  | none => rfl
  | some o => cases o <;> rfl
theorem read_neg (b : Nat) : FloatKind.f32.format.read (Op.negFloat .f32 b) = (FloatKind.f32.format.read b).opposite := by
  have h1 : Op.negFloat .f32 b / 2147483648 % 2 = (b / 2147483648 + 1) % 2 := by
    show (b ^^^ 2 ^ 31) / 2 ^ 31 % 2 = _
    have : (b ^^^ 2 ^ 31).testBit 31 = !b.testBit 31 := by rw [Nat.testBit_xor, Nat.testBit_two_pow_self]; simp
    rw [Nat.testBit, Nat.testBit, Nat.shiftRight_eq_div_pow, Nat.shiftRight_eq_div_pow] at this
    simp only [Nat.one_and_eq_mod_two] at this
    have a := Nat.mod_two_eq_zero_or_one ((b ^^^ 2 ^ 31) / 2 ^ 31)
    have c := Nat.mod_two_eq_zero_or_one (b / 2 ^ 31)
    have e : (2147483648 : Nat) = 2 ^ 31 := rfl
    rw [e]
    rcases a with a | a <;> rcases c with c | c <;> rw [a, c] at this <;> first | (simp at this; done) | omega
  have h2 : Op.negFloat .f32 b % 2147483648 = b % 2147483648 := by
    show (b ^^^ 2 ^ 31) % 2 ^ 31 = b % 2 ^ 31
    apply Nat.eq_of_testBit_eq
    intro i
    rw [Nat.testBit_mod_two_pow, Nat.testBit_mod_two_pow]
    by_cases hi : i < 31
    · rw [Nat.testBit_xor, Nat.testBit_two_pow]
      have : decide (31 = i) = false := by simp; omega
      simp [this]
    · simp [hi]
  have hs : single.signWeight = 2147483648 := rfl
  show single.read _ = (single.read b).opposite
  unfold Format.read
  simp only [hs, h1, h2]
  have h3 : ((b / 2147483648 + 1) % 2 == 1) = !(b / 2147483648 % 2 == 1) := by
    have := Nat.mod_two_eq_zero_or_one (b / 2147483648)
    rcases this with h | h
    · have : (b / 2147483648 + 1) % 2 = 1 := by omega
      rw [h, this]; rfl
    · have : (b / 2147483648 + 1) % 2 = 0 := by omega
      rw [h, this]; rfl
  rw [h3]
  split
  · rfl
  · split
    · rfl
    · split
      · rfl
      · rfl
theorem signed_not (s : Bool) (m u : Nat) : signed (!s) m u = - signed s m u := by cases s <;> simp [signed]
theorem order_opp (x y : Datum) : x.opposite.order y = (x.order y.opposite).map Ordering.swap := by
  cases x <;> cases y <;> simp only [Datum.opposite, Datum.order, Option.map_none, Option.map_some, Option.some.injEq]
  all_goals first
    | rfl
    | (rename_i s t; cases s <;> cases t <;> rfl)
    | (rename_i s t n j; cases s <;> rfl)
    | (rename_i s m i t; cases t <;> rfl)
    | (rename_i s m i t n j; rw [signed_not, signed_not]; generalize signed s m _ = a; generalize signed t n _ = b; simp only [compare, compareOfLessAndEq]; (repeat' split) <;> first | rfl | omega)
    | skip
/-- '-x op c' as 'x op -c', the other way round. -/
theorem ord_neg (x c : Nat) : ord32 (Op.negFloat .f32 x) c = (ord32 x (Op.negFloat .f32 c)).map Ordering.swap := by
  unfold ord32 Format.order
  rw [read_neg, read_neg, order_opp]
theorem signed_nn (m u : Nat) : 0 ≤ signed false m u := by unfold signed; exact Int.natCast_nonneg _
theorem signed_np (m u : Nat) : signed true m u ≤ 0 := by unfold signed; exact Int.neg_nonpos_of_nonneg (Int.natCast_nonneg _)
theorem signed_pos {m : Nat} (h : m ≠ 0) (u : Nat) : 0 < signed false m u := by
  unfold signed
  have := Nat.mul_pos (Nat.pos_of_ne_zero h) (Nat.two_pow_pos u)
  rw [← Nat.shiftLeft_eq] at this
  exact Int.natCast_pos.2 this
theorem signed_z (s : Bool) (u : Nat) : signed s 0 u = 0 := by cases s <;> simp [signed]
theorem ord_zero_trans {x : Nat} {c : Nat} (hc : ord32 c 0 = some .gt) (h : ord32 x 0 = some .lt ∨ ord32 x 0 = some .eq) : ord32 x c = some .lt := by
  unfold ord32 Format.order at *
  have h0 : FloatKind.f32.format.read 0 = .number false 0 (-149) := rfl
  rw [h0] at h hc
  cases hx : FloatKind.f32.format.read x with
  | nan s t => rw [hx] at h; rcases h with h | h <;> cases h
  | infinity s =>
    rw [hx] at h
    cases s
    · rcases h with h | h <;> cases h
    · cases hy : FloatKind.f32.format.read c with
      | nan s t => rw [hy] at hc; cases hc
      | infinity s => rw [hy] at hc; cases s <;> first | rfl | (exfalso; simp [Datum.order] at hc)
      | number s m p => rfl
  | number s m i =>
    rw [hx] at h
    cases hy : FloatKind.f32.format.read c with
    | nan s t => rw [hy] at hc; cases hc
    | infinity s => rw [hy] at hc; cases s <;> first | rfl | (exfalso; simp [Datum.order] at hc)
    | number t n j =>
      rw [hy] at hc
      simp only [Datum.order] at h hc ⊢
      rw [signed_z] at h hc
      simp only [Option.some.injEq] at h hc ⊢
      have h1 : signed s m (i - min i (-149)).toNat ≤ 0 := by
        rcases h with h | h
        · rw [Int.compare_eq_lt] at h; omega
        · rw [Int.compare_eq_eq] at h; omega
      have h2 : 0 < signed t n (j - min j (-149)).toNat := by
        rw [Int.compare_eq_gt] at hc; exact hc
      rw [Int.compare_eq_lt]
      have a1 : ∀ q : Nat, signed s m q ≤ 0 := by
        intro q
        cases s
        · by_cases hm : m = 0
          · subst hm; rw [signed_z]; exact Int.le_refl _
          · have := signed_pos hm (i - min i (-149)).toNat; omega
        · exact signed_np m q
      have a2 : ∀ q : Nat, 0 < signed t n q := by
        intro q
        cases t
        · exact signed_pos (by rintro rfl; rw [signed_z] at h2; omega) q
        · have := signed_np n (j - min j (-149)).toNat; omega
      have := a1 (i - min i j).toNat
      have := a2 (j - min i j).toNat
      omega
theorem ord_negzero (x : Nat) : ord32 x (Op.negFloat .f32 0) = ord32 x 0 := by
  unfold ord32 Format.order
  rw [read_neg, show FloatKind.f32.format.read 0 = .number false 0 (-149) from rfl]
  cases FloatKind.f32.format.read x <;> simp [Datum.order, Datum.opposite, signed_z]
end

/-- The absolute value. -/
def absB (x : Nat) : Nat := if ord32 x 0 == some .lt then Op.negFloat .f32 x else x
def leB (x y : Nat) : Bool := ord32 x y == some .lt || ord32 x y == some .eq
def geB (x y : Nat) : Bool := ord32 x y == some .gt || ord32 x y == some .eq
theorem abs_le (x c d : Nat) (hc : ord32 c 0 = some .gt) (hd : d = Op.negFloat .f32 c) : leB (absB x) c = (leB x c && geB x d) := by
  unfold absB leB geB
  cases h : (ord32 x 0 == some .lt)
  · simp only [Bool.false_eq_true, if_false]
    cases hn : ord32 x 0 with
    | none =>
      -- a NaN
      have hx : (FloatKind.f32.decode x).isNaN = true := by
        unfold ord32 Ieee.Format.order at hn
        unfold FloatKind.decode
        rw [show FloatKind.f32.format.read 0 = .number false 0 (-149) from rfl] at hn
        cases e : FloatKind.f32.format.read x <;> rw [e] at hn <;> first | rfl | cases hn
      have e1 : ord32 x c = none := ord_nan (k := .f32) hx
      have e2 : ord32 x d = none := ord_nan (k := .f32) hx
      rw [e1, e2]; rfl
    | some o =>
      have hy : ord32 (Op.negFloat .f32 x) 0 = some .lt ∨ ord32 (Op.negFloat .f32 x) 0 = some .eq := by
        rw [ord_neg, ord_negzero, hn]
        cases o
        · rw [hn] at h; cases h
        · exact .inr rfl
        · exact .inl rfl
      have h1 := ord_zero_trans hc hy
      rw [ord_neg] at h1
      rw [hd]
      cases e : ord32 x (Op.negFloat .f32 c) with
      | none => rw [e] at h1; cases h1
      | some p =>
        rw [e] at h1
        cases p <;> first | (rw [show (some Ordering.gt == some Ordering.gt || some Ordering.gt == some Ordering.eq) = true from rfl, Bool.and_true]) | cases h1
  · simp only [if_true]
    have h1 := ord_zero_trans hc (.inl (eq_of_beq h))
    rw [h1, hd, ord_neg]
    cases ord32 x (Op.negFloat .f32 c) with
    | none => rfl
    | some o => cases o <;> rfl

/-- The sum differs from 1 by at most 0.001. -/
def nearA (s : Option Nat) : Bool :=
  let d := opF .sub .f32 s (some 1065353216)
  (ordF .f32 d (some 981668463) == some .lt || ordF .f32 d (some 981668463) == some .eq) && (ordF .f32 d (some 3129152111) == some .gt || ordF .f32 d (some 3129152111) == some .eq)
theorem abs_lit {b : Nat} (h : (FloatKind.f32.decode b).isNaN = false) : absF .f32 b = some b := absF_of h
theorem near_bits {b d : Nat} {s : Option Nat} (hb : absF .f32 b = s) (hd : absF .f32 d = opF .sub .f32 (absF .f32 b) (absF .f32 1065353216)) : (leB d 981668463 && geB d 3129152111) = nearA s := by
  unfold nearA leB geB
  rw [show ord32 d 981668463 = ordF .f32 (absF .f32 d) (absF .f32 981668463) from ord_abs .f32 _ _, show ord32 d 3129152111 = ordF .f32 (absF .f32 d) (absF .f32 3129152111) from ord_abs .f32 _ _, hd, hb, abs_lit (b := 1065353216) (by decide), abs_lit (b := 981668463) (by decide), abs_lit (b := 3129152111) (by decide)]

theorem run_neg_fl {P : Program} (k : FloatKind) (b : Nat) (w : World) : (Op.unary .neg (.float k b)).run P w = .ok (.float k (Op.negFloat k b)) w := rfl
attribute [local go_sem] run_neg_fl
theorem absolute_any (x : Nat) (w : World) : Calls Try.prog 56 #[fV x] w fun e w' => e = .returned (fV (absB x)) ∧ w = w' := by
  unfold absB
  cases h : (FloatKind.f32.format.order x 0 == some .lt)
  all_goals
    go_enter Try.func56, Try.ntmps56
    go_wp2
    go_ret
    exact ⟨by first | rfl | (simp; done), rfl⟩

theorem enter_areChances1 (args : Array Value) (w : World) : (callFunc 55 args).run Try.prog w = .ok (.enter 55 args) w :=
  enter_of Try.func55 (by kernel_rfl) (by kernel_rfl) args w
theorem areChances_any (v : Value) (xs : List Nat) (hn : xs.length ≤ 1099511627776) (w : World) (hr : Rd fV w v xs) :
    Calls Try.prog 40 #[v] w fun e w' => e = .returned (.bool (xs.all leastB && nearA (sumF (absL xs)))) ∧ ∃ n, w.drewN n = w' := by
  have HR := Lib.hid hr
  obtain ⟨A, cap, rfl, hcap, hA⟩ := hr
  clear hA
  have HE := Lib.hid (not_any leastB xs)
  cases h : (xs.any fun x => !leastB x)
  · have H := Lib.hid h
    clear h
    go_enter Try.func40, Try.ntmps40
    go_wp2_with fail
    go_loud (refine (containsFuncF_any (fun x => !leastB x) 55 #[] _ xs hn enter_areChances1 _ (fun x n _ => quietly (areChances1_any x _)) HR.out).mono ?_)
    rintro e w' ⟨rfl, n, rfl⟩
    rw [H.out]
    go_wp2_with fail
    refine (sum_any _ xs hn _ (Rd.drewN HR.out _)).mono ?_
    rintro e w' ⟨b, rfl, hb, m, rfl⟩
    have HB := Lib.hid hb
    clear hb
    go_wp2_with fail
    refine (absolute_any _ _).mono ?_
    rintro e w' ⟨rfl, rfl⟩
    go_wp2
    go_ret
    refine ⟨ret_bool ?_, _, rfl⟩
    have := abs_le (flR .sub .f32 b 1065353216 (w.drewN (n + m))) 981668463 3129152111 (by decide) (by decide)
    rw [← HE.out, H.out]
    rw [show (FloatKind.f32.format.order (absB (flR .sub .f32 b 1065353216 (w.drewN (n + m)))) 981668463 == some Ordering.lt || FloatKind.f32.format.order (absB (flR .sub .f32 b 1065353216 (w.drewN (n + m)))) 981668463 == some Ordering.eq) = leB (absB (flR .sub .f32 b 1065353216 (w.drewN (n + m)))) 981668463 from rfl, this, near_bits HB.out (abs_flR .sub rfl .f32 _ _ _)]
    rfl
  · have H := Lib.hid h
    clear h
    go_enter Try.func40, Try.ntmps40
    go_wp2_with fail
    go_loud (refine (containsFuncF_any (fun x => !leastB x) 55 #[] _ xs hn enter_areChances1 _ (fun x n _ => quietly (areChances1_any x _)) HR.out).mono ?_)
    rintro e w' ⟨rfl, n, rfl⟩
    rw [H.out]
    go_wp2
    go_ret
    exact ⟨ret_bool (by rw [← HE.out, H.out]; rfl), _, rfl⟩
end
end Go.Proofs.Ytimpabceellihaa
