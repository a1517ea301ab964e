/-
  The walks of impl.areDegrees, spec.l04AreDegrees, slices.Clone, slices.Max at []int64, impl.numbersFrom.
-/
import Derived.Test.YthdnelfggmlalaaGrP
import Derived.Test.YthdnelfggmlalaaTreeS
import Derived.Test.YthdnelfggmlalaaIdxFuncI
namespace Go.Proofs.Ythdnelfggmlalaa
open Go.RowKit

theorem size1_any (n : Int) (w : World) : Calls Try.prog 45 #[.int .i64 n] w fun e w' => e = .returned (.bool (inB n 1 64)) ∧ w = w' := by
  go_enter Try.func45, Try.ntmps45
  go_wp2_with (go_at_call 58; refine (within_any _ _ _ _).mono ?_; rintro e w' ⟨rfl, rfl⟩)
  go_ret
  exact ⟨rfl, rfl⟩
theorem count1_any (n : Int) (w : World) : Calls Try.prog 41 #[.int .i64 n] w fun e w' => e = .returned (.bool (inB n 1 64)) ∧ w = w' := by
  go_enter Try.func41, Try.ntmps41
  go_wp2_with (go_at_call 62; refine (l00In_any _ _ _ _).mono ?_; rintro e w' ⟨rfl, rfl⟩)
  go_ret
  exact ⟨rfl, rfl⟩

/-- Whether a list has degrees. -/
def okDeg (xs : List Int) : Bool := inB xs.length 1 64 && xs.all fun x => inB x 0 16
theorem okDeg_true {xs : List Int} (h : okDeg xs = true) : 1 ≤ xs.length ∧ xs.length ≤ 64 ∧ ∀ x ∈ xs, 0 ≤ x ∧ x ≤ 16 := by
  unfold okDeg at h
  rw [Bool.and_eq_true] at h
  have h1 := inB_true h.1
  exact ⟨by omega, by omega, fun x hx => inB_true (List.all_eq_true.1 h.2 x hx)⟩
theorem enter_areDeg1 (args : Array Value) (w : World) : (callFunc 95 args).run Try.prog w = .ok (.enter 95 args) w := enter_of Try.func95 (by kernel_rfl) (by kernel_rfl) args w
theorem areDeg1_any (x : Int) (w : World) : Calls Try.prog 95 #[.int .i64 x] w fun e w' => e = .returned (.bool (!inB x 0 16)) ∧ w = w' := by
  go_enter Try.func95, Try.ntmps95
  go_wp2_with (go_at_call 58; refine (within_any _ _ _ _).mono ?_; rintro e w' ⟨rfl, rfl⟩)
  go_ret
  exact ⟨rfl, rfl⟩
theorem same_q {P : Program} {f : FuncId} {args : Array Value} {w : World} {n : Nat} {v : Value}
    (h : Calls P f args (w.drewN n) fun e w' => e = .returned v ∧ w.drewN n = w') : Calls P f args (w.drewN n) fun e w' => e = .returned v ∧ ∃ n, w.drewN n = w' := h.mono fun _ _ ⟨h1, h2⟩ => ⟨h1, n, h2⟩

theorem areDeg_any (v : Value) (xs : List Int) (hn : xs.length ≤ 1099511627776) (w : World) (hr : Rd iV w v xs) :
    Calls Try.prog 72 #[v] w fun e w' => e = .returned (.bool (okDeg xs)) ∧ ∃ n, w.drewN n = w' := by
  have HR := Lib.hid hr
  obtain ⟨A, cap, rfl, hcap, hA⟩ := hr
  clear hA
  have he : (!(xs.any fun x => !inB x 0 16)) = xs.all fun x => inB x 0 16 := by simp [List.all_eq_not_any_not]
  have HE := Lib.hid he
  clear he
  cases h1 : inB (xs.length : Int) 1 64
  · have HO : Hid (okDeg xs = false) := by unfold Hid okDeg; rw [h1]; rfl
    go_enter Try.func72, Try.ntmps72
    go_wp2_with (go_at_call 45; refine (size1_any _ _).mono ?_; rintro e w' ⟨rfl, rfl⟩; rw [h1])
    go_ret
    exact ⟨ret_bool (by rw [HO.out]), 0, rfl⟩
  · have HO : Hid (okDeg xs = xs.all fun x => inB x 0 16) := by unfold Hid okDeg; rw [h1]; rfl
    go_enter Try.func72, Try.ntmps72
    go_wp2_with (first | (go_at_call 45; refine (size1_any _ _).mono ?_; rintro e w' ⟨rfl, rfl⟩; rw [h1]) | (go_at_call 94; go_loud (refine (containsFunc_any (fun x => !inB x 0 16) 95 #[] _ xs hn enter_areDeg1 _ (fun x n _ => same_q (areDeg1_any x _)) HR.out).mono ?_); rintro e w' ⟨rfl, n, rfl⟩))
    go_ret
    exact ⟨ret_bool (by rw [HO.out, ← HE.out]), _, rfl⟩

theorem l04AreDeg_any (v : Value) (xs : List Int) (hn : xs.length ≤ 1099511627776) (w : World) (hr : Rd iV w v xs) :
    Calls Try.prog 70 #[v] w fun e w' => (∃ s : Int, e = .returned (.tuple #[.int .i64 s, .bool (okDeg xs)])) ∧ w = w' := by
  obtain ⟨A, cap, rfl, hcap, hA⟩ := hr
  have HA := Lib.hid hA
  clear hA
  go_enter Try.func70, Try.ntmps70
  go_wp2
  go_loop [4, 5] (fun ss si => ∃ (k : Nat) (s : Int), k ≤ xs.length ∧ si = .int .i64 k ∧ ss = .int .i64 s ∧ Hid (∀ x ∈ xs.take k, inB x 0 16 = true)) (fun _ si => xs.length - (intOf si).toNat)
  case atStart => exact ⟨0, 0, Nat.zero_le _, rfl, rfl, fun x h => by simp at h⟩
  case round =>
    obtain ⟨k, s, hk, rfl, rfl, HALL⟩ := hrel
    by_cases hlt : k < xs.length
    · obtain ⟨x, hx⟩ := get_of_lt hlt
      obtain ⟨ad, rfl, hbl, hc⟩ := HA.out k x hx
      have HX := Lib.hid hx
      clear hx
      cases hb : inB x 0 16
      · have HO : Hid (okDeg xs = false) := by
          unfold Hid okDeg
          have : xs.all (fun x => inB x 0 16) = false := by
            rw [List.all_eq_false]
            exact ⟨x, List.mem_of_getElem? HX.out, by simpa using hb⟩
          rw [this, Bool.and_false]
        go_wp2_with (go_at_call 62; refine (l00In_any _ _ _ _).mono ?_; rintro e w' ⟨rfl, rfl⟩; rw [hb])
        go_ret2
        exact ⟨⟨0, by rw [HO.out]; rfl⟩, rfl⟩
      · have HB := Lib.hid hb
        go_wp2_with (go_at_call 62; refine (l00In_any _ _ _ _).mono ?_; rintro e w' ⟨rfl, rfl⟩; rw [hb])
        go_round
        case rel =>
          refine ⟨k + 1, _, by omega, by go_num, rfl, fun y hy => ?_⟩
          rw [take_snoc HX.out, List.mem_append] at hy
          rcases hy with hy | hy
          · exact HALL.out y hy
          · simp at hy; subst hy; exact HB.out
        case measure => simp [intOf]; omega
    · have hke : k = xs.length := by omega
      have HO : Hid (okDeg xs = inB (xs.length : Int) 1 64) := by
        unfold Hid okDeg
        have := HALL.out
        rw [hke, List.take_length] at this
        rw [List.all_eq_true.2 this, Bool.and_true]
      clear hke
      go_wp2_with (go_at_call 41; refine (count1_any _ _).mono ?_; rintro e w' ⟨rfl, rfl⟩)
      go_ret2
      exact ⟨⟨s, by rw [HO.out]; rfl⟩, rfl⟩

theorem nil_slI (A : Option Addr) (n c : Nat) (w : World) : (binOp .eql 36 (.slice A n c) (.slice none 0 0)).run Try.prog w = .ok (.bool A.isNone) w := by cases A <;> kernel_rfl
set_option maxRecDepth 100000 in
theorem cloneI_any (v : Value) (xs : List Int) (hn : xs.length ≤ 1099511627776) (w : World) (hr : Rd iV w v xs) :
    Calls Try.prog 67 #[v] w fun e w' => ∃ v', e = .returned v' ∧ Own iV 2 w' w.heap.size v' xs ∧ Below w.heap.size w w' := by
  have HR := Lib.hid hr
  obtain ⟨A, cap, rfl, hcap, hA⟩ := hr
  cases A with
  | none =>
    have hx : xs = [] := by
      cases xs with
      | nil => rfl
      | cons x t => obtain ⟨ad, e, _⟩ := hA 0 x rfl; cases e
    subst hx
    clear hA
    have hnil := nil_slI none 0 cap
    go_enter Try.func67, Try.ntmps67
    go_wp2
    go_ret
    exact ⟨_, rfl, Own.nil, Below.refl _ _⟩
  | some ad =>
    clear hA
    go_enter Try.func67, Try.ntmps67
    have hrd : Rd iV (w.alloc (.cells #[] 2)) (.slice (some ad) xs.length cap) xs := HR.out.alloc _
    have HRD := Lib.hid hrd
    clear hrd
    have hnil := nil_slI (some ad) xs.length cap
    go_wp2_with (at_builtin; go_loud (refine elI_.app one_iV _ rfl _ _ rfl w.heap.size _ [] rfl (own_nil_new iV w 2) _ xs rfl HRD.out (by omega) (by simp; omega) (by simp) ?_))
    intro v' w' ho hg hbb hp
    go_wp2
    go_ret
    exact ⟨_, rfl, ho, ((Below.refl _ _).alloc (Nat.le_refl _) _).trans hbb⟩

theorem maxI_any (v : Value) (xs : List Int) (h1 : 1 ≤ xs.length) (hn : xs.length ≤ 1000000) (w : World) (hr : Rd iV w v xs) :
    Calls Try.prog 73 #[v] w fun e w' => ∃ M : Int, e = .returned (.int .i64 M) ∧ w = w' ∧ M ∈ xs ∧ ∀ x ∈ xs, x ≤ M := by
  obtain ⟨A, cap, rfl, hcap, hA⟩ := hr
  have HA := Lib.hid hA
  obtain ⟨x0, hx0⟩ := get_of_lt (xs := xs) (k := 0) (by omega)
  obtain ⟨ad, rfl, hbl0, hc0⟩ := hA 0 x0 hx0
  have HX0 := Lib.hid hx0
  have c0 : w.cell? ad = some (iV x0) := by have := hc0; rwa [show ad.add 0 = ad from if_pos rfl] at this
  have hpos : ¬ xs.length < 1 := by omega
  clear hA hx0
  go_enter Try.func73, Try.ntmps73
  go_wp2
  go_loop [3, 4] (fun sm si => ∃ (k : Nat) (M : Int), k ≤ xs.length ∧ 1 ≤ k ∧ si = .int .i64 k ∧ sm = .int .i64 M ∧ Hid (M ∈ xs) ∧ Hid (∀ x ∈ xs.take k, x ≤ M)) (fun _ si => xs.length - (intOf si).toNat)
  case atStart =>
    refine ⟨1, x0, by omega, Nat.le_refl _, rfl, rfl, List.mem_of_getElem? HX0.out, fun x hx => ?_⟩
    rw [show (1 : Nat) = 0 + 1 from rfl, take_snoc HX0.out] at hx
    simp at hx
    omega
  case round =>
    obtain ⟨k, M, hk, hk1, rfl, rfl, HM, HALL⟩ := hrel
    by_cases hlt : k < xs.length
    · obtain ⟨x, hx⟩ := get_of_lt hlt
      obtain ⟨ad', e, hbl, hc⟩ := HA.out k x hx
      cases e
      have HX := Lib.hid hx
      have HMX : Hid ((if M < x then x else M) = max M x) := by unfold Hid; split <;> omega
      have HM2 : Hid (max M x ∈ xs) := by
        unfold Hid
        rcases Int.le_total M x with h | h
        · rw [Int.max_eq_right h]; exact List.mem_of_getElem? hx
        · rw [Int.max_eq_left h]; exact HM.out
      clear hx
      go_wp2
      go_round
      case rel =>
        refine ⟨k + 1, _, by omega, by omega, by go_num, rfl, by rw [HMX.out]; exact HM2, fun y hy => ?_⟩
        rw [HMX.out]
        rw [take_snoc HX.out, List.mem_append] at hy
        rcases hy with hy | hy
        · have := HALL.out y hy; omega
        · simp at hy; omega
      case measure => simp [intOf]; omega
    · have hke : k = xs.length := by omega
      have HE : Hid (∀ x ∈ xs, x ≤ M) := by
        have := HALL.out
        rw [hke, List.take_length] at this
        exact this
      clear hke
      go_wp2
      go_ret
      exact ⟨M, rfl, rfl, HM.out, HE.out⟩

/-- The numbers from 0 to n - 1. -/
def numI (n : Nat) : List Int := (List.range n).map fun (i : Nat) => (i : Int)
theorem numI_succ (n : Nat) : numI (n + 1) = numI n ++ [(n : Int)] := by simp [numI, List.range_succ]
theorem numI_len (n : Nat) : (numI n).length = n := by simp [numI]
theorem numbersI_any (n : Nat) (hn : n ≤ 100000000) (H : Int) (hH : H = (n : Int) - 1) (w : World) :
    Calls Try.prog 84 #[.int .i64 0, .int .i64 H] w fun e w' => ∃ v', e = .returned v' ∧ Own iV 2 w' w.heap.size v' (numI n) ∧ Below w.heap.size w w' := by
  have HH := Lib.hid hH
  clear hH
  go_enter Try.func84, Try.ntmps84
  go_wp2
  go_loopw [5, 6] (fun so si wr => ∃ k : Nat, k ≤ n ∧ si = .int .i64 k ∧ Own iV 2 wr w.heap.size so (numI k) ∧ Below w.heap.size w wr) (fun _ si _ => n - (intOf si).toNat)
  case atStart => exact ⟨0, by omega, rfl, own_nil_new iV w 2, (Below.refl _ _).alloc (Nat.le_refl _) _⟩
  case round =>
    obtain ⟨k, hk, rfl, hown, hb⟩ := hrel
    by_cases hlt : k < n
    · have hz := hb.size
      have hcl := numI_len k
      have Hcl := Lib.hid hcl
      have hle : (k : Int) ≤ H := by rw [HH.out]; omega
      clear hcl
      go_wp2_with (at_builtin; go_loud (refine elI_.app one_iV _ rfl _ _ rfl w.heap.size _ (numI k) rfl (Own.alloc hown _) _ _ rfl (rd_one iV _ _ _) (by omega) (by rw [Hcl.out]; simp; omega) (by simp; omega) ?_))
      intro v' w' ho hg hbb hp
      rw [← numI_succ] at ho
      go_wp2
      go_roundw
      case rel => exact ⟨k + 1, by omega, by go_num, ho, (hb.alloc (by simpa using hz) _).trans hbb⟩
      case measure => simp [intOf]; omega
    · have hke : k = n := by omega
      have hle : ¬ (k : Int) ≤ H := by rw [HH.out]; omega
      have HKE := Lib.hid hke
      clear hke
      go_wp2
      go_ret
      exact ⟨_, rfl, by rw [← HKE.out]; exact hown, hb⟩
end Go.Proofs.Ythdnelfggmlalaa
