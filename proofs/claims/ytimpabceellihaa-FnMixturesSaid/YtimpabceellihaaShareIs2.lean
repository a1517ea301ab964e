/-
  Shares by value: laws.szShare, toShare, eqShare, markShare, heldShare.
  A share is one: spec.l05Is, spec.ValidShare, impl.ValidShare.
-/
import Derived.Test.YtimpabceellihaaSl
import Derived.Test.YtimpabceellihaaF32s
namespace Go.Proofs.Ytimpabceellihaa
section
open Go.RowKit

/-- A Share as a value. -/
abbrev shV (s0 s1 : Value) : Value := .agg #[s0, s1]

theorem szFloat32S_any (s : Value) (xs : List Nat) (m : Int) (hm0 : 0 ≤ m) (hm : m ≤ 1048576) (w : World) (hr : Rd fV w s xs) (hx : xs.length ≤ 9223372036854775807) : Calls Try.prog 22 #[s, .int .i64 m] w fun e w' => e = .returned (.int .i64 (if m < xs.length then -1 else m - xs.length)) ∧ w = w' := by
  obtain ⟨A, cap, rfl, hcap, hA⟩ := hr
  clear hA
  by_cases h : m < xs.length
  · go_enter Try.func22, Try.ntmps22
    go_wp2
    go_ret
    exact ⟨ret_int (by first | rfl | rw [if_pos h]), rfl⟩
  · go_enter Try.func22, Try.ntmps22
    go_wp2
    go_ret
    exact ⟨ret_int (by first | rfl | rw [if_neg h] | (rw [if_neg (by omega)])), rfl⟩

end

section
open Go.RowKit
attribute [local go_sem] run_fl_add run_fl_sub run_fl_mul run_fl_quo

/-- The value at place i is greater than the one before it. -/
def pairB (xs : List Nat) (i : Nat) : Bool := i == 0 || !leB (xs.getD i 0) (xs.getD (i - 1) 0)
def riseTo (xs : List Nat) (k : Nat) : Bool := (List.range k).all (pairB xs)
theorem riseTo_succ (xs : List Nat) (k : Nat) : riseTo xs (k + 1) = (riseTo xs k && pairB xs k) := by simp [riseTo, List.range_succ]
theorem riseTo_false {xs : List Nat} {k : Nat} (hk : k < xs.length) (h : pairB xs k = false) : riseTo xs xs.length = false := by
  unfold riseTo
  rw [List.all_eq_false]
  exact ⟨k, by simp [hk], by simp [h]⟩
def shareB (v c : List Nat) : Bool := decide (1 ≤ v.length ∧ v.length ≤ 64) && decide (c.length = v.length) && v.all finB && riseTo v v.length && (c.all leastB && nearA (sumF (absL c)))
theorem shareB_f1 {v c : List Nat} (h : ¬ (1 ≤ v.length ∧ v.length ≤ 64)) : shareB v c = false := by unfold shareB; rw [decide_eq_false h]; rfl
theorem shareB_f2 {v c : List Nat} (h : ¬ c.length = v.length) : shareB v c = false := by unfold shareB; rw [decide_eq_false h]; simp
theorem shareB_f3 {v c : List Nat} (h : v.all finB = false) : shareB v c = false := by unfold shareB; rw [h]; simp
theorem shareB_f4 {v c : List Nat} (h : riseTo v v.length = false) : shareB v c = false := by unfold shareB; rw [h]; simp
theorem shareB_f5 {v c : List Nat} (h : c.all leastB = false) : shareB v c = false := by unfold shareB; rw [h]; simp
theorem shareB_t {v c : List Nat} (h1 : 1 ≤ v.length ∧ v.length ≤ 64) (h2 : c.length = v.length) (h3 : v.all finB = true) (h4 : riseTo v v.length = true) : shareB v c = (c.all leastB && nearA (sumF (absL c))) := by
  unfold shareB
  rw [decide_eq_true h1, decide_eq_true h2, h3, h4]; rfl
theorem shareB_len {v c : List Nat} (h : shareB v c = true) : (1 ≤ v.length ∧ v.length ≤ 64) ∧ c.length = v.length := by
  unfold shareB at h
  simp only [Bool.and_eq_true, decide_eq_true_eq] at h
  exact ⟨h.1.1.1.1, h.1.1.1.2⟩
theorem getD_of {α : Type} {xs : List α} {k : Nat} {x d : α} (h : xs[k]? = some x) : xs.getD k d = x := by simp [h]
theorem near_lt (b c : Nat) (_hc : (FloatKind.f32.decode c).isNaN = false) : ∃ t, ∀ W, (FloatKind.f32.format.order (flR .sub .f32 b 1065353216 W) c == some .lt) = t :=
  ⟨_, fun W => by rw [ord_abs .f32, abs_flR .sub rfl]⟩
theorem near_eq (b c : Nat) (_hc : (FloatKind.f32.decode c).isNaN = false) : ∃ t, ∀ W, (FloatKind.f32.format.order (flR .sub .f32 b 1065353216 W) c == some .eq) = t :=
  ⟨_, fun W => by rw [ord_abs .f32, abs_flR .sub rfl]⟩
theorem near_gt (b c : Nat) (_hc : (FloatKind.f32.decode c).isNaN = false) : ∃ t, ∀ W, (FloatKind.f32.format.order (flR .sub .f32 b 1065353216 W) c == some .gt) = t :=
  ⟨_, fun W => by rw [ord_abs .f32, abs_flR .sub rfl]⟩
theorem quietR {P : Program} {f : FuncId} {args : Array Value} {v : Value} (h : ∀ w, Calls P f args w fun e w' => e = .returned v ∧ ∃ n, w.drewN n = w') (w : World) (n : Nat) :
    Calls P f args (w.drewN n) fun e w'' => e = .returned v ∧ ∃ m, w'' = w.drewN m :=
  (h _).mono fun e w' ⟨he, m, hm⟩ => ⟨he, n + m, by rw [← hm, World.drewN_drewN]⟩

end
end Go.Proofs.Ytimpabceellihaa
