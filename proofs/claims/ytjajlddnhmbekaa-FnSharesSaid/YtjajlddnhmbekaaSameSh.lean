/-
  The same numbers, lists and shares: spec.l01Bits, l01Same, l01SameAll, impl.SameNumber, sameNumbers, slices.EqualFunc, both SameShare.
-/
import Derived.Test.YtjajlddnhmbekaaFloat
import Derived.Test.YtjajlddnhmbekaaShareIs
namespace Go.Proofs.Ytjajlddnhmbekaa
open Go.RowKit
attribute [local go_sem] run_up_

/-- The words stand for the same. -/
def sameB (x y : Nat) : Bool := decide (absF .f32 x = absF .f32 y)
def sameLB (xs ys : List Nat) : Bool := decide (absL xs = absL ys)
theorem sameLB_len {xs ys : List Nat} (h : xs.length ≠ ys.length) : sameLB xs ys = false := by
  unfold sameLB
  exact decide_eq_false fun e => h (absL_len e)
theorem sameLB_false {xs ys : List Nat} {k x y : Nat} (hx : xs[k]? = some x) (hy : ys[k]? = some y) (h : sameB x y = false) : sameLB xs ys = false := by
  unfold sameLB
  unfold sameB at h
  exact decide_eq_false fun e => of_decide_eq_false h (absL_at e hx hy)
theorem sameLB_true {xs ys : List Nat} (hl : xs.length = ys.length) (h : ∀ (k x y : Nat), xs[k]? = some x → ys[k]? = some y → sameB x y = true) : sameLB xs ys = true := by
  unfold sameLB
  refine decide_eq_true ?_
  unfold absL
  apply List.ext_getElem?
  intro k
  rw [List.getElem?_map, List.getElem?_map]
  cases hx : xs[k]? with
  | none =>
    have : ys[k]? = none := by rw [List.getElem?_eq_none_iff] at hx ⊢; omega
    rw [this]
  | some x =>
    obtain ⟨y, hy⟩ := get_of_lt (xs := ys) (k := k) (by rw [← hl]; exact lt_of_get hx)
    have := h k x y hx hy
    unfold sameB at this
    rw [hy, Option.map_some, Option.map_some]; exact congrArg some (of_decide_eq_true this)

theorem run_bits32 (b : Nat) (w : World) : (callFunc 59 #[.float .f32 b]).run Try.prog w = .ok (.value (.int .u32 b)) w := by kernel_rfl
theorem run_bits64 (b : Nat) (w : World) : (callFunc 58 #[.float .f64 b]).run Try.prog w = .ok (.value (.int .u64 b)) w := by kernel_rfl

/-- The bits, one word for all NaNs. -/
def canonB (x : Nat) : Int := if (FloatKind.f32.decode x).isNaN then 2143289344 else x
theorem canon_same {x y : Nat} : (canonB x == canonB y) = sameB x y := by
  have nn : (FloatKind.f32.decode 2143289344).isNaN = true := by decide
  unfold canonB sameB
  rw [Bool.eq_iff_iff]
  simp only [beq_iff_eq, decide_eq_true_eq]
  cases hx : (FloatKind.f32.decode x).isNaN <;> cases hy : (FloatKind.f32.decode y).isNaN
  · rw [absF_of hx, absF_of hy]; simp only [Bool.false_eq_true, if_false, Option.some.injEq]; omega
  · rw [absF_of hx, absF_nan hy]
    simp only [Bool.false_eq_true, if_false, if_true, reduceCtorEq, iff_false]
    intro e
    have : x = 2143289344 := by omega
    subst this
    rw [nn] at hx; cases hx
  · rw [absF_nan hx, absF_of hy]
    simp only [Bool.false_eq_true, if_false, if_true, reduceCtorEq, iff_false]
    intro e
    have : y = 2143289344 := by omega
    subst this
    rw [nn] at hy; cases hy
  · rw [absF_nan hx, absF_nan hy]; simp

theorem l01Bits_any (x : Nat) (hx : x < 4294967296) (w : World) :
    Calls Try.prog 55 #[fV x] w fun e w' => e = .returned (.int .i64 (canonB x)) ∧ w = w' := by
  have hr := run_bits32 x
  unfold canonB
  cases hn : (FloatKind.f32.decode x).isNaN
  · have ho := ord_refl (k := .f32) hn
    have hcv : ∀ W : World, (convert 81 2 (.int .u32 (x : Int))).run Try.prog W = .ok (.int .i64 (x : Int)) W := fun W => by
      have h := run_convert_int (P := Try.prog) W 81 2 .u32 (x : Int) (by kernel_rfl) (by kernel_rfl)
      rw [show Try.prog.intKind 2 = .i64 from by kernel_rfl, IntWalk.i64_in _ (by omega)] at h
      exact h
    clear hx hn
    go_enter Try.func55, Try.ntmps55
    go_wp2
    go_ret
    exact ⟨ret_int (by simp; try omega), rfl⟩
  · have ho := ord_nan (k := .f32) (y := x) hn
    clear hx hn
    go_enter Try.func55, Try.ntmps55
    go_wp2
    go_ret
    exact ⟨ret_int (by simp), rfl⟩
theorem l01Same_any (x y : Nat) (hx : x < 4294967296) (hy : y < 4294967296) (w : World) :
    Calls Try.prog 45 #[fV x, fV y] w fun e w' => e = .returned (.bool (sameB x y)) ∧ w = w' := by
  have hs := Lib.hid (canon_same (x := x) (y := y))
  go_enter Try.func45, Try.ntmps45
  go_wp2_with fail
  refine (l01Bits_any x hx _).mono ?_
  rintro e w' ⟨rfl, rfl⟩
  go_wp2_with fail
  refine (l01Bits_any y hy _).mono ?_
  rintro e w' ⟨rfl, rfl⟩
  go_wp2
  go_ret
  exact ⟨ret_bool hs.out, rfl⟩

/-- A wide word's sign. -/
theorem up_sign {x : Nat} (hn : (FloatKind.f32.decode x).isNaN = false) : upBits x < 18446744073709551616 ∧ (decide (9223372036854775808 ≤ upBits x)) = negW x := by
  have hw : ∀ (s : Bool) (r : Nat), r ≤ Ieee.double.infRung → Ieee.double.word s r < 18446744073709551616 ∧ decide (9223372036854775808 ≤ Ieee.double.word s r) = s := by
    intro s r hr
    have hi : Ieee.double.infRung = 9218868437227405312 := rfl
    have hs : Ieee.double.signWeight = 9223372036854775808 := rfl
    rw [hi] at hr
    unfold Ieee.Format.word
    rw [hs]
    cases s
    · simp only [Bool.false_eq_true, if_false]
      exact ⟨by omega, decide_eq_false (by omega)⟩
    · simp only [if_true]
      exact ⟨by omega, decide_eq_true (by omega)⟩
  rw [← neg_read x]
  unfold upBits FloatKind.encode
  have e : FloatKind.f32.decode x = Ieee.single.read x := rfl
  rw [e] at hn ⊢
  cases hr : Ieee.single.read x with
  | nan s t => rw [hr] at hn; cases hn
  | infinity s => exact hw s _ (Nat.le_refl _)
  | number s m p =>
    show Ieee.double.nearest s m p < _ ∧ _
    by_cases hm : m = 0
    · have : Ieee.double.nearest s m p = Ieee.double.word s 0 := by unfold Ieee.Format.nearest; rw [if_pos hm]
      rw [show FloatKind.f64.format.write (.number s m p) = Ieee.double.nearest s m p from rfl, this]
      exact hw s 0 (Nat.zero_le _)
    · rw [show FloatKind.f64.format.write (.number s m p) = Ieee.double.nearest s m p from rfl, nearest_eq _ _ _ hm]
      exact hw s _ (Nat.min_le_right _ _)

theorem signbit_any (b : Nat) (hb : b < 18446744073709551616) (w : World) :
    Calls Try.prog 54 #[.float .f64 b] w fun e w' => e = .returned (.bool (decide (9223372036854775808 ≤ b))) ∧ w = w' := by
  have hr := run_bits64 b
  have hw : (IntKind.i64.wrap (b : Int) < 0) = (9223372036854775808 ≤ b) := by
    rw [eq_iff_iff]
    unfold IntKind.wrap IntKind.signed IntKind.bits
    simp only [Bool.true_and, decide_eq_true_eq]
    split <;> omega
  have hcv : ∀ W : World, (convert 57 2 (.int .u64 (b : Int))).run Try.prog W = .ok (.int .i64 (IntKind.i64.wrap (b : Int))) W := fun W => by
    have h := run_convert_int (P := Try.prog) W 57 2 .u64 (b : Int) (by kernel_rfl) (by kernel_rfl)
    rw [show Try.prog.intKind 2 = .i64 from by kernel_rfl] at h
    exact h
  obtain ⟨n, hn⟩ : ∃ n, n = IntKind.i64.wrap (b : Int) := ⟨_, rfl⟩
  rw [← hn] at hw
  simp only [← hn] at hcv
  have HW := Lib.hid hw
  clear hw hn hb
  go_enter Try.func54, Try.ntmps54
  go_wp2
  go_ret
  exact ⟨ret_bool (by rw [Bool.eq_iff_iff, decide_eq_true_eq, decide_eq_true_eq, HW.out]), rfl⟩

theorem ord_self (x : Nat) : FloatKind.f32.format.order x x = if (FloatKind.f32.decode x).isNaN then none else some .eq := by
  cases h : (FloatKind.f32.decode x).isNaN
  · rw [ord_refl (k := .f32) h]; rfl
  · rw [ord_nan (k := .f32) h]; rfl
theorem sameNumber_any (x y : Nat) (hx : x < 4294967296) (hy : y < 4294967296) (w : World) :
    Calls Try.prog 44 #[fV x, fV y] w fun e w' => e = .returned (.bool (sameB x y)) ∧ ∃ n, w.drewN n = w' := by
  cases nx : (FloatKind.f32.decode x).isNaN <;> cases ny : (FloatKind.f32.decode y).isNaN
  · have ox := ord_refl (k := .f32) nx
    have oy := ord_refl (k := .f32) ny
    have hS : Hid (sameB x y = ((FloatKind.f32.format.order x y == some .eq) && (negW x == negW y))) := by
      unfold Hid sameB
      rw [absF_of nx, absF_of ny, Bool.eq_iff_iff]
      simp only [decide_eq_true_eq, Option.some.injEq, Bool.and_eq_true, beq_iff_eq]
      constructor
      · rintro rfl; exact ⟨ox, rfl⟩
      · rintro ⟨h1, h2⟩; exact ord_same hx hy h1 h2
    have ux := up_sign nx
    have uy := up_sign ny
    have rx : ∀ W : World, (convert 28 36 (.float .f32 x)).run Try.prog W = .ok (.float .f64 (upBits x)) W := fun W => by
      rw [run_up_]; simp [upR, upN, nx, World.drewN_zero]
    have ry : ∀ W : World, (convert 28 36 (.float .f32 y)).run Try.prog W = .ok (.float .f64 (upBits y)) W := fun W => by
      rw [run_up_]; simp [upR, upN, ny, World.drewN_zero]
    have S1 := Lib.hid (fun w => (ux.2 ▸ signbit_any (upBits x) ux.1 w : Calls Try.prog 54 #[.float .f64 (upBits x)] w fun e w' => e = .returned (.bool (negW x)) ∧ w = w'))
    have S2 := Lib.hid (fun w => (uy.2 ▸ signbit_any (upBits y) uy.1 w : Calls Try.prog 54 #[.float .f64 (upBits y)] w fun e w' => e = .returned (.bool (negW y)) ∧ w = w'))
    clear hx hy nx ny ux uy
    cases ho : (FloatKind.f32.format.order x y == some .eq)
    · have HO := Lib.hid ho
      go_enter Try.func44, Try.ntmps44
      go_wp2
      go_ret
      exact ⟨ret_bool (by rw [hS.out, HO.out]; rfl), 0, rfl⟩
    · have HO := Lib.hid ho
      go_enter Try.func44, Try.ntmps44
      go_wp2_with fail
      refine (S1.out _).mono ?_
      rintro e w' ⟨rfl, rfl⟩
      go_wp2_with fail
      refine (S2.out _).mono ?_
      rintro e w' ⟨rfl, rfl⟩
      go_wp2
      go_ret
      exact ⟨ret_bool (by rw [hS.out, HO.out]; rfl), 0, rfl⟩
  all_goals
    have hS : Hid (sameB x y = ((FloatKind.f32.decode x).isNaN && (FloatKind.f32.decode y).isNaN)) := by
      unfold Hid sameB
      first
        | (rw [absF_of nx, absF_nan ny, nx, ny]; rfl)
        | (rw [absF_nan nx, absF_of ny, nx, ny]; rfl)
        | (rw [absF_nan nx, absF_nan ny, nx, ny]; rfl)
    rw [nx, ny] at hS
    have ox := ord_self x
    have oy := ord_self y
    rw [nx] at ox
    rw [ny] at oy
    simp only [Bool.false_eq_true, if_false, if_true] at ox oy
    clear nx ny hx hy
    go_enter Try.func44, Try.ntmps44
    go_wp2
    go_ret
    exact ⟨ret_bool (by rw [hS.out]; rfl), 0, rfl⟩
theorem enter_sameNumber (args : Array Value) (w : World) : (callFunc 44 args).run Try.prog w = .ok (.enter 44 args) w :=
  enter_of Try.func44 (by kernel_rfl) (by kernel_rfl) args w

set_option maxHeartbeats 800000 in
theorem l01SameAll_any (v u : Value) (xs ys : List Nat) (hn : xs.length ≤ 1099511627776) (_hm : ys.length ≤ 1099511627776) (hx : ∀ x ∈ xs, x < 4294967296) (hy : ∀ y ∈ ys, y < 4294967296) (w : World) (hr1 : Rd fV w v xs) (hr2 : Rd fV w u ys) :
    Calls Try.prog 29 #[v, u] w fun e w' => e = .returned (.bool (sameLB xs ys)) ∧ ∃ n, w.drewN n = w' := by
  have HX := Lib.hid hx
  have HY := Lib.hid hy
  clear hx hy
  have HR1 := Lib.hid hr1
  obtain ⟨A1, cap1, rfl, hcap1, hA1⟩ := hr1
  have HA1 := Lib.hid hA1
  clear hA1
  have HR2 := Lib.hid hr2
  obtain ⟨A2, cap2, rfl, hcap2, hA2⟩ := hr2
  have HA2 := Lib.hid hA2
  clear hA2
  by_cases hl : xs.length = ys.length
  · have HL := Lib.hid hl
    rw [← hl] at hcap2 ⊢
    clear hl
    go_enter Try.func29, Try.ntmps29
    go_wp2
    go_loopw [5] (fun si wr => ∃ k : Nat, k ≤ xs.length ∧ si = .int .i64 k ∧ Hid (∀ (j x y : Nat), j < k → xs[j]? = some x → ys[j]? = some y → sameB x y = true) ∧ ∃ n, w.drewN n = wr) (fun si _ => xs.length - (intOf si).toNat)
    case atStart => exact ⟨0, by omega, rfl, (fun j x y hj => absurd hj (Nat.not_lt_zero _)), 0, rfl⟩
    case round =>
      obtain ⟨k, hk, rfl, hall, hd⟩ := hrel
      have hb := below_of_drew hd
      by_cases hlt : k < xs.length
      · obtain ⟨x, hx⟩ := get_of_lt hlt
        obtain ⟨y, hy⟩ := get_of_lt (xs := ys) (k := k) (by rw [← HL.out]; exact hlt)
        obtain ⟨ad, rfl, hbl, hc⟩ := HA1.out k x hx
        obtain ⟨ad2, rfl, hbl2, hc2⟩ := HA2.out k y hy
        have e0 : wr.cell? (ad.add k) = some (fV x) := by rw [hb.cell (by rw [add_block]; exact hbl)]; exact hc
        have e1 : wr.cell? (ad2.add k) = some (fV y) := by rw [hb.cell (by rw [add_block]; exact hbl2)]; exact hc2
        have C := Lib.hid (fun n => quiet_mine (n := n) (w := wr) (l01Same_any x y (HX.out x (List.mem_of_getElem? hx)) (HY.out y (List.mem_of_getElem? hy)) _))
        have Hx := Lib.hid hx
        have Hy := Lib.hid hy
        have hk0 : (0 : Int) ≤ (k : Int) := by omega
        have hk1 : (k : Int) < (xs.length : Int) := by omega
        clear hx hy hc hc2
        cases hs : sameB x y
        all_goals
          rw [hs] at C
          have HS := Lib.hid hs
          clear hs
          go_wp2
          go_quiet (exact C.out _)
          go_wp2
          first
            | (go_ret; exact ⟨ret_bool (sameLB_false Hx.out Hy.out HS.out).symm, by obtain ⟨n, rfl⟩ := hd; exact ⟨_, (World.drewN_drewN _ _ _).symm⟩⟩)
            | (go_roundw
               case rel => exact ⟨k + 1, by omega, by go_num, (fun j a b hj ha hb' => by
                 rcases Nat.lt_succ_iff_lt_or_eq.1 hj with h | h
                 · exact hall.out j a b h ha hb'
                 · subst h; rw [Hx.out] at ha; rw [Hy.out] at hb'; cases ha; cases hb'; exact HS.out), by obtain ⟨n, rfl⟩ := hd; exact ⟨_, (World.drewN_drewN _ _ _).symm⟩⟩
               case measure => simp [intOf]; omega)
      · have hke : k = xs.length := by omega
        have Hke := Lib.hid hke
        clear hke
        go_wp2
        go_ret
        exact ⟨ret_bool (sameLB_true HL.out (fun j x y hx hy => hall.out j x y (by rw [Hke.out]; exact lt_of_get hx) hx hy)).symm, hd⟩
  · have hl' : ((xs.length : Int) != (ys.length : Int)) = true := by simp; omega
    have HL := Lib.hid hl
    clear hl
    go_enter Try.func29, Try.ntmps29
    go_wp2
    go_ret
    exact ⟨ret_bool (sameLB_len HL.out).symm, 0, rfl⟩

set_option maxHeartbeats 800000 in
theorem equalFuncF_any (v u : Value) (xs ys : List Nat) (hn : xs.length ≤ 1099511627776) (_hm : ys.length ≤ 1099511627776) (hx : ∀ x ∈ xs, x < 4294967296) (hy : ∀ y ∈ ys, y < 4294967296) (w : World) (hr1 : Rd fV w v xs) (hr2 : Rd fV w u ys) :
    Calls Try.prog 43 #[v, u, .func (.func 44) #[] #[]] w fun e w' => e = .returned (.bool (sameLB xs ys)) ∧ ∃ n, w.drewN n = w' := by
  have HX := Lib.hid hx
  have HY := Lib.hid hy
  clear hx hy
  have HR1 := Lib.hid hr1
  obtain ⟨A1, cap1, rfl, hcap1, hA1⟩ := hr1
  have HA1 := Lib.hid hA1
  clear hA1
  have HR2 := Lib.hid hr2
  obtain ⟨A2, cap2, rfl, hcap2, hA2⟩ := hr2
  have HA2 := Lib.hid hA2
  clear hA2
  by_cases hl : xs.length = ys.length
  · have HL := Lib.hid hl
    rw [← hl] at hcap2 ⊢
    clear hl
    have hK := enter_sameNumber
    go_enter Try.func43, Try.ntmps43
    go_wp2
    go_loopw [17] (fun si wr => ∃ k : Nat, k ≤ xs.length ∧ si = .int .i64 k ∧ Hid (∀ (j x y : Nat), j < k → xs[j]? = some x → ys[j]? = some y → sameB x y = true) ∧ ∃ n, w.drewN n = wr) (fun si _ => xs.length - (intOf si).toNat)
    case atStart => exact ⟨0, by omega, rfl, (fun j x y hj => absurd hj (Nat.not_lt_zero _)), 0, rfl⟩
    case round =>
      obtain ⟨k, hk, rfl, hall, n, rfl⟩ := hrel
      by_cases hlt : k < xs.length
      · obtain ⟨x, hx⟩ := get_of_lt hlt
        obtain ⟨y, hy⟩ := get_of_lt (xs := ys) (k := k) (by rw [← HL.out]; exact hlt)
        obtain ⟨ad, rfl, hbl, hc⟩ := HA1.out k x hx
        obtain ⟨ad2, rfl, hbl2, hc2⟩ := HA2.out k y hy
        have HC := Lib.hid (sameNumber_any x y (HX.out x (List.mem_of_getElem? hx)) (HY.out y (List.mem_of_getElem? hy)))
        have Hx := Lib.hid hx
        have Hy := Lib.hid hy
        clear hx hy
        go_wp2_with fail
        refine (HC.out _).mono ?_
        rintro e w' ⟨rfl, m, rfl⟩
        cases hs : sameB x y
        all_goals
          have HS := Lib.hid hs
          clear hs
          go_wp2
          first
            | (go_ret; exact ⟨ret_bool (sameLB_false Hx.out Hy.out HS.out).symm, _, rfl⟩)
            | (go_roundw
               case rel => exact ⟨k + 1, by omega, by go_num, (fun j a b hj ha hb' => by
                 rcases Nat.lt_succ_iff_lt_or_eq.1 hj with h | h
                 · exact hall.out j a b h ha hb'
                 · subst h; rw [Hx.out] at ha; rw [Hy.out] at hb'; cases ha; cases hb'; exact HS.out), _, rfl⟩
               case measure => simp [intOf]; omega)
      · have hke : k = xs.length := by omega
        have Hke := Lib.hid hke
        clear hke
        go_wp2
        go_ret
        exact ⟨ret_bool (sameLB_true HL.out (fun j x y hx hy => hall.out j x y (by rw [Hke.out]; exact lt_of_get hx) hx hy)).symm, _, rfl⟩
  · have hl' : ((xs.length : Int) != (ys.length : Int)) = true := by simp; omega
    have HL := Lib.hid hl
    clear hl
    go_enter Try.func43, Try.ntmps43
    go_wp2
    go_ret
    exact ⟨ret_bool (sameLB_len HL.out).symm, 0, rfl⟩
theorem sameNumbers_any (v u : Value) (xs ys : List Nat) (hn : xs.length ≤ 1099511627776) (hm : ys.length ≤ 1099511627776) (hx : ∀ x ∈ xs, x < 4294967296) (hy : ∀ y ∈ ys, y < 4294967296) (w : World) (hr1 : Rd fV w v xs) (hr2 : Rd fV w u ys) :
    Calls Try.prog 28 #[v, u] w fun e w' => e = .returned (.bool (sameLB xs ys)) ∧ ∃ n, w.drewN n = w' := by
  have HX := Lib.hid hx
  have HY := Lib.hid hy
  clear hx hy
  have HR1 := Lib.hid hr1
  obtain ⟨A1, cap1, rfl, hcap1, hA1⟩ := hr1
  have HA1 := Lib.hid hA1
  clear hA1
  have HR2 := Lib.hid hr2
  obtain ⟨A2, cap2, rfl, hcap2, hA2⟩ := hr2
  have HA2 := Lib.hid hA2
  clear hA2
  go_enter Try.func28, Try.ntmps28
  go_wp2_with fail
  refine (equalFuncF_any _ _ xs ys hn hm HX.out HY.out _ HR1.out HR2.out).mono ?_
  rintro e w' ⟨rfl, n, rfl⟩
  go_wp2
  go_ret
  exact ⟨rfl, _, rfl⟩

/-- Two shares that stand for the same. -/
def sameSh (a0 a1 b0 b1 : List Nat) : Bool := sameLB a0 b0 && sameLB a1 b1
theorem specSameShare_any (s0 : Value) (x0 : List Nat) (s1 : Value) (x1 : List Nat) (hn0 : x0.length ≤ 1099511627776) (hn1 : x1.length ≤ 1099511627776) (hw0 : ∀ x ∈ x0, x < 4294967296) (hw1 : ∀ x ∈ x1, x < 4294967296)
    (r0 : Value) (y0 : List Nat) (r1 : Value) (y1 : List Nat) (hm0 : y0.length ≤ 1099511627776) (hm1 : y1.length ≤ 1099511627776) (hv0 : ∀ x ∈ y0, x < 4294967296) (hv1 : ∀ x ∈ y1, x < 4294967296) (w : World) (hr0 : Rd fV w s0 x0) (hr1 : Rd fV w s1 x1) (hr2 : Rd fV w r0 y0) (hr3 : Rd fV w r1 y1) :
    Calls Try.prog 12 #[shV s0 s1, shV r0 r1] w fun e w' => e = .returned (.bool (sameSh x0 x1 y0 y1)) ∧ Below w.heap.size w w' := by
  have HW0 := Lib.hid hw0
  have HW1 := Lib.hid hw1
  have HV0 := Lib.hid hv0
  have HV1 := Lib.hid hv1
  clear hw0 hw1 hv0 hv1
  have HR0 := Lib.hid hr0
  obtain ⟨A0, cap0, rfl, hcap0, hA0⟩ := hr0
  have HA0 := Lib.hid hA0
  clear hA0
  have HR1 := Lib.hid hr1
  obtain ⟨A1, cap1, rfl, hcap1, hA1⟩ := hr1
  have HA1 := Lib.hid hA1
  clear hA1
  have HR2 := Lib.hid hr2
  obtain ⟨A2, cap2, rfl, hcap2, hA2⟩ := hr2
  have HA2 := Lib.hid hA2
  clear hA2
  have HR3 := Lib.hid hr3
  obtain ⟨A3, cap3, rfl, hcap3, hA3⟩ := hr3
  have HA3 := Lib.hid hA3
  clear hA3
  have hb := ((Below.refl w.heap.size w).alloc (Nat.le_refl _) (.cells #[.slice A0 x0.length cap0, .slice A1 x1.length cap1] 26)).alloc (by simp) (.cells #[.slice A2 y0.length cap2, .slice A3 y1.length cap3] 26)
  have HB := Lib.hid hb
  clear hb
  cases h : sameLB x0 y0
  all_goals
    have H := Lib.hid h
    clear h
    go_enter Try.func12, Try.ntmps12
    go_wp2_with fail
    refine (l01SameAll_any _ _ x0 y0 hn0 hm0 HW0.out HV0.out _ (HR0.out.below HB.out) (HR2.out.below HB.out)).mono ?_
    rintro e w1 ⟨rfl, n, rfl⟩
    rw [H.out]
    go_wp2_with fail
    first
      | (refine (l01SameAll_any _ _ x1 y1 hn1 hm1 HW1.out HV1.out _ (HR1.out.below (below_drewN_ HB.out)) (HR3.out.below (below_drewN_ HB.out))).mono ?_
         rintro e w2 ⟨rfl, m, rfl⟩
         go_wp2
         go_ret
         exact ⟨ret_bool (by unfold sameSh; rw [H.out]; rfl), below_drewN_ HB.out⟩)
      | (go_ret
         exact ⟨ret_bool (by unfold sameSh; rw [H.out]; rfl), below_drewN_ HB.out⟩)
theorem implSameShare_any (s0 : Value) (x0 : List Nat) (s1 : Value) (x1 : List Nat) (hn0 : x0.length ≤ 1099511627776) (hn1 : x1.length ≤ 1099511627776) (hw0 : ∀ x ∈ x0, x < 4294967296) (hw1 : ∀ x ∈ x1, x < 4294967296)
    (r0 : Value) (y0 : List Nat) (r1 : Value) (y1 : List Nat) (hm0 : y0.length ≤ 1099511627776) (hm1 : y1.length ≤ 1099511627776) (hv0 : ∀ x ∈ y0, x < 4294967296) (hv1 : ∀ x ∈ y1, x < 4294967296) (w : World) (hr0 : Rd fV w s0 x0) (hr1 : Rd fV w s1 x1) (hr2 : Rd fV w r0 y0) (hr3 : Rd fV w r1 y1) :
    Calls Try.prog 11 #[shV s0 s1, shV r0 r1] w fun e w' => e = .returned (.bool (sameSh x0 x1 y0 y1)) ∧ Below w.heap.size w w' := by
  have HW0 := Lib.hid hw0
  have HW1 := Lib.hid hw1
  have HV0 := Lib.hid hv0
  have HV1 := Lib.hid hv1
  clear hw0 hw1 hv0 hv1
  have HR0 := Lib.hid hr0
  obtain ⟨A0, cap0, rfl, hcap0, hA0⟩ := hr0
  have HA0 := Lib.hid hA0
  clear hA0
  have HR1 := Lib.hid hr1
  obtain ⟨A1, cap1, rfl, hcap1, hA1⟩ := hr1
  have HA1 := Lib.hid hA1
  clear hA1
  have HR2 := Lib.hid hr2
  obtain ⟨A2, cap2, rfl, hcap2, hA2⟩ := hr2
  have HA2 := Lib.hid hA2
  clear hA2
  have HR3 := Lib.hid hr3
  obtain ⟨A3, cap3, rfl, hcap3, hA3⟩ := hr3
  have HA3 := Lib.hid hA3
  clear hA3
  have hb := ((Below.refl w.heap.size w).alloc (Nat.le_refl _) (.cells #[.slice A0 x0.length cap0, .slice A1 x1.length cap1] 26)).alloc (by simp) (.cells #[.slice A2 y0.length cap2, .slice A3 y1.length cap3] 26)
  have HB := Lib.hid hb
  clear hb
  cases h : sameLB x0 y0
  all_goals
    have H := Lib.hid h
    clear h
    go_enter Try.func11, Try.ntmps11
    go_wp2_with fail
    refine (sameNumbers_any _ _ x0 y0 hn0 hm0 HW0.out HV0.out _ (HR0.out.below HB.out) (HR2.out.below HB.out)).mono ?_
    rintro e w1 ⟨rfl, n, rfl⟩
    rw [H.out]
    go_wp2_with fail
    first
      | (refine (sameNumbers_any _ _ x1 y1 hn1 hm1 HW1.out HV1.out _ (HR1.out.below (below_drewN_ HB.out)) (HR3.out.below (below_drewN_ HB.out))).mono ?_
         rintro e w2 ⟨rfl, m, rfl⟩
         go_wp2
         go_ret
         exact ⟨ret_bool (by unfold sameSh; rw [H.out]; rfl), below_drewN_ HB.out⟩)
      | (go_ret
         exact ⟨ret_bool (by unfold sameSh; rw [H.out]; rfl), below_drewN_ HB.out⟩)
end Go.Proofs.Ytjajlddnhmbekaa
