/-
  A sum that is nearly 1: impl.absolute, impl.areChances; how the order of numbers stands to signs.
-/
import Derived.Test.YtimpabceellihaaFl
namespace Go.Proofs.Ytimpabceellihaa
open Go.RowKit
attribute [local go_sem] run_fl_add run_fl_sub run_fl_mul run_fl_quo

section
open Ieee
theorem order_swap (x y : Datum) : y.order x = (x.order y).map Ordering.swap := by
  cases x <;> cases y <;> simp only [Datum.order, Option.map_none, Option.map_some, Option.some.injEq]
  all_goals first
    | rfl
    | (rename_i s t; cases s <;> cases t <;> rfl)
    | (split <;> rfl)
    | (rename_i s m i t n j; rw [Int.min_comm j i]; exact (Std.OrientedOrd.eq_swap (α := Int)))
    | skip
theorem ord_swap32 (x y : Nat) : ord32 y x = (ord32 x y).map Ordering.swap := order_swap _ _
theorem ord_flip_gt (x y : Nat) : (ord32 y x == some .gt) = (ord32 x y == some .lt) := by
  rw [ord_swap32 x y]
  cases ord32 x y with
  | none => rfl
  | some o => cases o <;> rfl
theorem ord_flip_lt (x y : Nat) : (ord32 y x == some .lt) = (ord32 x y == some .gt) := by
  rw [ord_swap32 x y]
  cases ord32 x y with
  | none => rfl
  | some o => cases o <;> rfl
theorem ord_flip_eq (x y : Nat) : (ord32 y x == some .eq) = (ord32 x y == some .eq) := by
  rw [ord_swap32 x y]
  cases ord32 x y with
  | none => rfl
  | some o => cases o <;> rfl
theorem read_neg (b : Nat) : FloatKind.f32.format.read (Op.negFloat .f32 b) = (FloatKind.f32.format.read b).opposite := by
  have h1 : Op.negFloat .f32 b / 2147483648 % 2 = (b / 2147483648 + 1) % 2 := by
    show (b ^^^ 2 ^ 31) / 2 ^ 31 % 2 = _
    have : (b ^^^ 2 ^ 31).testBit 31 = !b.testBit 31 := by rw [Nat.testBit_xor, Nat.testBit_two_pow_self]; simp
    rw [Nat.testBit, Nat.testBit, Nat.shiftRight_eq_div_pow, Nat.shiftRight_eq_div_pow] at this
    simp only [Nat.one_and_eq_mod_two] at this
    have a := Nat.mod_two_eq_zero_or_one ((b ^^^ 2 ^ 31) / 2 ^ 31)
    have c := Nat.mod_two_eq_zero_or_one (b / 2 ^ 31)
    have e : (2147483648 : Nat) = 2 ^ 31 := rfl
    rw [e]
    rcases a with a | a <;> rcases c with c | c <;> rw [a, c] at this <;> first | (simp at this; done) | omega
  have h2 : Op.negFloat .f32 b % 2147483648 = b % 2147483648 := by
    show (b ^^^ 2 ^ 31) % 2 ^ 31 = b % 2 ^ 31
    apply Nat.eq_of_testBit_eq
    intro i
    rw [Nat.testBit_mod_two_pow, Nat.testBit_mod_two_pow]
    by_cases hi : i < 31
    · rw [Nat.testBit_xor, Nat.testBit_two_pow]
      have : decide (31 = i) = false := by simp; omega
      simp [this]
    · simp [hi]
  have hs : single.signWeight = 2147483648 := rfl
  show single.read _ = (single.read b).opposite
  unfold Format.read
  simp only [hs, h1, h2]
  have h3 : ((b / 2147483648 + 1) % 2 == 1) = !(b / 2147483648 % 2 == 1) := by
    have := Nat.mod_two_eq_zero_or_one (b / 2147483648)
    rcases this with h | h
    · have : (b / 2147483648 + 1) % 2 = 1 := by omega
      rw [h, this]; rfl
    · have : (b / 2147483648 + 1) % 2 = 0 := by omega
      rw [h, this]; rfl
  rw [h3]
  split
  · rfl
  · split
    · rfl
    · split
      · rfl
      · rfl
theorem signed_not (s : Bool) (m u : Nat) : signed (!s) m u = - signed s m u := by cases s <;> simp [signed]
theorem order_opp (x y : Datum) : x.opposite.order y = (x.order y.opposite).map Ordering.swap := by
  cases x <;> cases y <;> simp only [Datum.opposite, Datum.order, Option.map_none, Option.map_some, Option.some.injEq]
  all_goals first
    | rfl
    | (rename_i s t; cases s <;> cases t <;> rfl)
    | (rename_i s t n j; cases s <;> rfl)
    | (rename_i s m i t; cases t <;> rfl)
    | (rename_i s m i t n j; rw [signed_not, signed_not]; generalize signed s m _ = a; generalize signed t n _ = b; simp only [compare, compareOfLessAndEq]; (repeat' split) <;> first | rfl | omega)
    | skip
/-- '-x op c' as 'x op -c', the other way round. -/
theorem ord_neg (x c : Nat) : ord32 (Op.negFloat .f32 x) c = (ord32 x (Op.negFloat .f32 c)).map Ordering.swap := by
  unfold ord32 Format.order
  rw [read_neg, read_neg, order_opp]
theorem signed_nn (m u : Nat) : 0 ≤ signed false m u := by unfold signed; exact Int.natCast_nonneg _
theorem signed_np (m u : Nat) : signed true m u ≤ 0 := by unfold signed; exact Int.neg_nonpos_of_nonneg (Int.natCast_nonneg _)
theorem signed_pos {m : Nat} (h : m ≠ 0) (u : Nat) : 0 < signed false m u := by
  unfold signed
  have := Nat.mul_pos (Nat.pos_of_ne_zero h) (Nat.two_pow_pos u)
  rw [← Nat.shiftLeft_eq] at this
  exact Int.natCast_pos.2 this
theorem signed_z (s : Bool) (u : Nat) : signed s 0 u = 0 := by cases s <;> simp [signed]
theorem ord_zero_trans {x : Nat} {c : Nat} (hc : ord32 c 0 = some .gt) (h : ord32 x 0 = some .lt ∨ ord32 x 0 = some .eq) : ord32 x c = some .lt := by
  unfold ord32 Format.order at *
  have h0 : FloatKind.f32.format.read 0 = .number false 0 (-149) := rfl
  rw [h0] at h hc
  cases hx : FloatKind.f32.format.read x with
  | nan s t => rw [hx] at h; rcases h with h | h <;> cases h
  | infinity s =>
    rw [hx] at h
    cases s
    · rcases h with h | h <;> cases h
    · cases hy : FloatKind.f32.format.read c with
      | nan s t => rw [hy] at hc; cases hc
      | infinity s => rw [hy] at hc; cases s <;> first | rfl | (exfalso; simp [Datum.order] at hc)
      | number s m p => rfl
  | number s m i =>
    rw [hx] at h
    cases hy : FloatKind.f32.format.read c with
    | nan s t => rw [hy] at hc; cases hc
    | infinity s => rw [hy] at hc; cases s <;> first | rfl | (exfalso; simp [Datum.order] at hc)
    | number t n j =>
      rw [hy] at hc
      simp only [Datum.order] at h hc ⊢
      rw [signed_z] at h hc
      simp only [Option.some.injEq] at h hc ⊢
      have h1 : signed s m (i - min i (-149)).toNat ≤ 0 := by
        rcases h with h | h
        · rw [Int.compare_eq_lt] at h; omega
        · rw [Int.compare_eq_eq] at h; omega
      have h2 : 0 < signed t n (j - min j (-149)).toNat := by
        rw [Int.compare_eq_gt] at hc; exact hc
      rw [Int.compare_eq_lt]
      have a1 : ∀ q : Nat, signed s m q ≤ 0 := by
        intro q
        cases s
        · by_cases hm : m = 0
          · subst hm; rw [signed_z]; exact Int.le_refl _
          · have := signed_pos hm (i - min i (-149)).toNat; omega
        · exact signed_np m q
      have a2 : ∀ q : Nat, 0 < signed t n q := by
        intro q
        cases t
        · exact signed_pos (by rintro rfl; rw [signed_z] at h2; omega) q
        · have := signed_np n (j - min j (-149)).toNat; omega
      have := a1 (i - min i j).toNat
      have := a2 (j - min i j).toNat
      omega
theorem ord_negzero (x : Nat) : ord32 x (Op.negFloat .f32 0) = ord32 x 0 := by
  unfold ord32 Format.order
  rw [read_neg, show FloatKind.f32.format.read 0 = .number false 0 (-149) from rfl]
  cases FloatKind.f32.format.read x <;> simp [Datum.order, Datum.opposite, signed_z]
end

/-- The absolute value. -/
def absB (x : Nat) : Nat := if ord32 x 0 == some .lt then Op.negFloat .f32 x else x
def leB (x y : Nat) : Bool := ord32 x y == some .lt || ord32 x y == some .eq
def geB (x y : Nat) : Bool := ord32 x y == some .gt || ord32 x y == some .eq
theorem abs_le (x c d : Nat) (hc : ord32 c 0 = some .gt) (hd : d = Op.negFloat .f32 c) : leB (absB x) c = (leB x c && geB x d) := by
  unfold absB leB geB
  cases h : (ord32 x 0 == some .lt)
  · simp only [Bool.false_eq_true, if_false]
    cases hn : ord32 x 0 with
    | none =>
      -- a NaN
      have hx : (FloatKind.f32.decode x).isNaN = true := by
        unfold ord32 Ieee.Format.order at hn
        unfold FloatKind.decode
        rw [show FloatKind.f32.format.read 0 = .number false 0 (-149) from rfl] at hn
        cases e : FloatKind.f32.format.read x <;> rw [e] at hn <;> first | rfl | cases hn
      have e1 : ord32 x c = none := ord_nan (k := .f32) hx
      have e2 : ord32 x d = none := ord_nan (k := .f32) hx
      rw [e1, e2]; rfl
    | some o =>
      have hy : ord32 (Op.negFloat .f32 x) 0 = some .lt ∨ ord32 (Op.negFloat .f32 x) 0 = some .eq := by
        rw [ord_neg, ord_negzero, hn]
        cases o
        · rw [hn] at h; cases h
        · exact .inr rfl
        · exact .inl rfl
      have h1 := ord_zero_trans hc hy
      rw [ord_neg] at h1
      rw [hd]
      cases e : ord32 x (Op.negFloat .f32 c) with
      | none => rw [e] at h1; cases h1
      | some p =>
        rw [e] at h1
        cases p <;> first | (rw [show (some Ordering.gt == some Ordering.gt || some Ordering.gt == some Ordering.eq) = true from rfl, Bool.and_true]) | cases h1
  · simp only [if_true]
    have h1 := ord_zero_trans hc (.inl (eq_of_beq h))
    rw [h1, hd, ord_neg]
    cases ord32 x (Op.negFloat .f32 c) with
    | none => rfl
    | some o => cases o <;> rfl

/-- The sum differs from 1 by at most 0.001. -/
def nearA (s : Option Nat) : Bool :=
  let d := opF .sub .f32 s (some 1065353216)
  (ordF .f32 d (some 981668463) == some .lt || ordF .f32 d (some 981668463) == some .eq) && (ordF .f32 d (some 3129152111) == some .gt || ordF .f32 d (some 3129152111) == some .eq)
theorem abs_lit {b : Nat} (h : (FloatKind.f32.decode b).isNaN = false) : absF .f32 b = some b := absF_of h
theorem near_bits {b d : Nat} {s : Option Nat} (hb : absF .f32 b = s) (hd : absF .f32 d = opF .sub .f32 (absF .f32 b) (absF .f32 1065353216)) : (leB d 981668463 && geB d 3129152111) = nearA s := by
  unfold nearA leB geB
  rw [show ord32 d 981668463 = ordF .f32 (absF .f32 d) (absF .f32 981668463) from ord_abs .f32 _ _, show ord32 d 3129152111 = ordF .f32 (absF .f32 d) (absF .f32 3129152111) from ord_abs .f32 _ _, hd, hb, abs_lit (b := 1065353216) (by decide), abs_lit (b := 981668463) (by decide), abs_lit (b := 3129152111) (by decide)]

theorem run_neg_fl {P : Program} (k : FloatKind) (b : Nat) (w : World) : (Op.unary .neg (.float k b)).run P w = .ok (.float k (Op.negFloat k b)) w := rfl
attribute [local go_sem] run_neg_fl
theorem absolute_any (x : Nat) (w : World) : Calls Try.prog 56 #[fV x] w fun e w' => e = .returned (fV (absB x)) ∧ w = w' := by
  unfold absB
  cases h : (FloatKind.f32.format.order x 0 == some .lt)
  all_goals
    go_enter Try.func56, Try.ntmps56
    go_wp2
    go_ret
    exact ⟨by first | rfl | (simp; done), rfl⟩

theorem enter_areChances1 (args : Array Value) (w : World) : (callFunc 55 args).run Try.prog w = .ok (.enter 55 args) w :=
  enter_of Try.func55 (by kernel_rfl) (by kernel_rfl) args w
theorem areChances_any (v : Value) (xs : List Nat) (hn : xs.length ≤ 1099511627776) (w : World) (hr : Rd fV w v xs) :
    Calls Try.prog 40 #[v] w fun e w' => e = .returned (.bool (xs.all leastB && nearA (sumF (absL xs)))) ∧ ∃ n, w.drewN n = w' := by
  have HR := Lib.hid hr
  obtain ⟨A, cap, rfl, hcap, hA⟩ := hr
  clear hA
  have HE := Lib.hid (not_any leastB xs)
  cases h : (xs.any fun x => !leastB x)
  · have H := Lib.hid h
    clear h
    go_enter Try.func40, Try.ntmps40
    go_wp2_with fail
    go_loud (refine (containsFuncF_any (fun x => !leastB x) 55 #[] _ xs hn enter_areChances1 _ (fun x n _ => quietly (areChances1_any x _)) HR.out).mono ?_)
    rintro e w' ⟨rfl, n, rfl⟩
    rw [H.out]
    go_wp2_with fail
    refine (sum_any _ xs hn _ (Rd.drewN HR.out _)).mono ?_
    rintro e w' ⟨b, rfl, hb, m, rfl⟩
    have HB := Lib.hid hb
    clear hb
    go_wp2_with fail
    refine (absolute_any _ _).mono ?_
    rintro e w' ⟨rfl, rfl⟩
    go_wp2
    go_ret
    refine ⟨ret_bool ?_, _, rfl⟩
    have := abs_le (flR .sub .f32 b 1065353216 (w.drewN (n + m))) 981668463 3129152111 (by decide) (by decide)
    rw [← HE.out, H.out]
    rw [show (FloatKind.f32.format.order (absB (flR .sub .f32 b 1065353216 (w.drewN (n + m)))) 981668463 == some Ordering.lt || FloatKind.f32.format.order (absB (flR .sub .f32 b 1065353216 (w.drewN (n + m)))) 981668463 == some Ordering.eq) = leB (absB (flR .sub .f32 b 1065353216 (w.drewN (n + m)))) 981668463 from rfl, this, near_bits HB.out (abs_flR .sub rfl .f32 _ _ _)]
    rfl
  · have H := Lib.hid h
    clear h
    go_enter Try.func40, Try.ntmps40
    go_wp2_with fail
    go_loud (refine (containsFuncF_any (fun x => !leastB x) 55 #[] _ xs hn enter_areChances1 _ (fun x n _ => quietly (areChances1_any x _)) HR.out).mono ?_)
    rintro e w' ⟨rfl, n, rfl⟩
    rw [H.out]
    go_wp2
    go_ret
    exact ⟨ret_bool (by rw [← HE.out, H.out]; rfl), _, rfl⟩
end Go.Proofs.Ytimpabceellihaa
