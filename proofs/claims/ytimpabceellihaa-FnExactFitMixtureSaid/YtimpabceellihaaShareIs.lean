/-
  A share is one: spec.l05Is, spec.ValidShare, impl.ValidShare.
-/
import Derived.Test.YtimpabceellihaaNear
import Derived.Test.YtimpabceellihaaShare
namespace Go.Proofs.Ytimpabceellihaa
open Go.RowKit
attribute [local go_sem] run_fl_add run_fl_sub run_fl_mul run_fl_quo

/-- The value at place i is greater than the one before it. -/
def pairB (xs : List Nat) (i : Nat) : Bool := i == 0 || !leB (xs.getD i 0) (xs.getD (i - 1) 0)
def riseTo (xs : List Nat) (k : Nat) : Bool := (List.range k).all (pairB xs)
theorem riseTo_succ (xs : List Nat) (k : Nat) : riseTo xs (k + 1) = (riseTo xs k && pairB xs k) := by simp [riseTo, List.range_succ]
theorem riseTo_false {xs : List Nat} {k : Nat} (hk : k < xs.length) (h : pairB xs k = false) : riseTo xs xs.length = false := by
  unfold riseTo
  rw [List.all_eq_false]
  exact ⟨k, by simp [hk], by simp [h]⟩
def shareB (v c : List Nat) : Bool := decide (1 ≤ v.length ∧ v.length ≤ 64) && decide (c.length = v.length) && v.all finB && riseTo v v.length && (c.all leastB && nearA (sumF (absL c)))
theorem shareB_f1 {v c : List Nat} (h : ¬ (1 ≤ v.length ∧ v.length ≤ 64)) : shareB v c = false := by unfold shareB; rw [decide_eq_false h]; rfl
theorem shareB_f2 {v c : List Nat} (h : ¬ c.length = v.length) : shareB v c = false := by unfold shareB; rw [decide_eq_false h]; simp
theorem shareB_f3 {v c : List Nat} (h : v.all finB = false) : shareB v c = false := by unfold shareB; rw [h]; simp
theorem shareB_f4 {v c : List Nat} (h : riseTo v v.length = false) : shareB v c = false := by unfold shareB; rw [h]; simp
theorem shareB_f5 {v c : List Nat} (h : c.all leastB = false) : shareB v c = false := by unfold shareB; rw [h]; simp
theorem shareB_t {v c : List Nat} (h1 : 1 ≤ v.length ∧ v.length ≤ 64) (h2 : c.length = v.length) (h3 : v.all finB = true) (h4 : riseTo v v.length = true) : shareB v c = (c.all leastB && nearA (sumF (absL c))) := by
  unfold shareB
  rw [decide_eq_true h1, decide_eq_true h2, h3, h4]; rfl
theorem shareB_len {v c : List Nat} (h : shareB v c = true) : (1 ≤ v.length ∧ v.length ≤ 64) ∧ c.length = v.length := by
  unfold shareB at h
  simp only [Bool.and_eq_true, decide_eq_true_eq] at h
  exact ⟨h.1.1.1.1, h.1.1.1.2⟩
theorem getD_of {α : Type} {xs : List α} {k : Nat} {x d : α} (h : xs[k]? = some x) : xs.getD k d = x := by simp [h]
theorem near_lt (b c : Nat) (_hc : (FloatKind.f32.decode c).isNaN = false) : ∃ t, ∀ W, (FloatKind.f32.format.order (flR .sub .f32 b 1065353216 W) c == some .lt) = t :=
  ⟨_, fun W => by rw [ord_abs .f32, abs_flR .sub rfl]⟩
theorem near_eq (b c : Nat) (_hc : (FloatKind.f32.decode c).isNaN = false) : ∃ t, ∀ W, (FloatKind.f32.format.order (flR .sub .f32 b 1065353216 W) c == some .eq) = t :=
  ⟨_, fun W => by rw [ord_abs .f32, abs_flR .sub rfl]⟩
theorem near_gt (b c : Nat) (_hc : (FloatKind.f32.decode c).isNaN = false) : ∃ t, ∀ W, (FloatKind.f32.format.order (flR .sub .f32 b 1065353216 W) c == some .gt) = t :=
  ⟨_, fun W => by rw [ord_abs .f32, abs_flR .sub rfl]⟩
theorem quietR {P : Program} {f : FuncId} {args : Array Value} {v : Value} (h : ∀ w, Calls P f args w fun e w' => e = .returned v ∧ ∃ n, w.drewN n = w') (w : World) (n : Nat) :
    Calls P f args (w.drewN n) fun e w'' => e = .returned v ∧ ∃ m, w'' = w.drewN m :=
  (h _).mono fun e w' ⟨he, m, hm⟩ => ⟨he, n + m, by rw [← hm, World.drewN_drewN]⟩

end Go.Proofs.Ytimpabceellihaa
