/-
  EntropyOf, walked in the program and in the reference.
-/
import Derived.Test.YtimpabceellihaaEnt
import Derived.Test.YtimpabceellihaaMean
namespace Go.Proofs.Ytimpabceellihaa
open Go.RowKit
attribute [local go_sem] run_fl_add run_fl_sub run_fl_mul run_fl_quo run_up_ run_neg_fl

def entR (x0 x1 : List Nat) : Option Nat := if shareB x0 x1 = true then (entTo x1 x1.length).map (Op.negFloat .f32) else some 0
def RetEntropyOf (x0 x1 : List Nat) (w : World) (e : Ending) (w' : World) : Prop :=
  ∃ b, e = .returned (.tuple #[fV b, .bool (shareB x0 x1)]) ∧ absF .f32 b = entR x0 x1 ∧ Below w.heap.size w w'
theorem entR_no {x0 x1 : List Nat} (h : shareB x0 x1 = false) : entR x0 x1 = some 0 := by unfold entR; rw [h]; rfl
theorem ent_out {x0 x1 : List Nat} {b : Nat} (h : shareB x0 x1 = true) (hb : absF .f32 b = entTo x1 x1.length) : finB (Op.negFloat .f32 b) = true ∧ numF (Op.negFloat .f32 b) = Op.negFloat .f32 b ∧ absF .f32 (Op.negFloat .f32 b) = entR x0 x1 := by
  obtain ⟨b', s, m, p, e, er⟩ := ent_num h
  rw [e] at hb
  obtain ⟨rfl, _⟩ := absF_some hb
  have hr : FloatKind.f32.format.read (Op.negFloat .f32 b) = .number (!s) m p := by rw [read_neg, er]; rfl
  have hf : finB (Op.negFloat .f32 b) = true := by
    unfold finB
    have : FloatKind.f32.decode (Op.negFloat .f32 b) = .number (!s) m p := hr
    rw [this]
  refine ⟨hf, by unfold numF; rw [hf]; rfl, ?_⟩
  unfold entR
  rw [if_pos h, e, num_abs hr]
  rfl
theorem infOk_fin {c : Nat} (h : finB c = true) : InfOk c := by
  intro e
  unfold finB at h
  rw [e] at h
  cases h
theorem chance_at {x0 x1 : List Nat} {k c : Nat} (h : shareB x0 x1 = true) (hc : x1[k]? = some c) : InfOk c ∧ entTo x1 (k + 1) = entStep (entTo x1 k) c := by
  have hl := List.all_eq_true.1 (shareB_near h).1 c (List.mem_of_getElem? hc)
  unfold leastB at hl
  rw [Bool.and_eq_true] at hl
  exact ⟨infOk_fin hl.1, entTo_succ hc⟩
theorem entStep_t {s : Option Nat} {c : Nat} (h : (FloatKind.f32.format.order c 0 == some .gt) = true) : entStep s c = opF .add .f32 s (opF .quo .f32 (opF .mul .f32 (absF .f32 c) (log32 c)) (some 1060205080)) := if_pos h
theorem entStep_f {s : Option Nat} {c : Nat} (h : (FloatKind.f32.format.order c 0 == some .gt) = false) : entStep s c = s := by
  unfold entStep posG
  rw [h]; rfl
theorem enter_l01Log (args : Array Value) (w : World) : (callFunc 43 args).run Try.prog w = .ok (.enter 43 args) w :=
  enter_of Try.func43 (by kernel_rfl) (by kernel_rfl) args w
theorem drew_trans {w w1 w2 : World} (h : ∃ n, w1 = w.drewN n) (h2 : ∃ n, w1.drewN n = w2) : ∃ n, w2 = w.drewN n := by
  obtain ⟨n, rfl⟩ := h
  obtain ⟨m, rfl⟩ := h2
  exact ⟨n + m, by rw [World.drewN_drewN]⟩
theorem lit_ln2 : absF .f32 1060205080 = some 1060205080 := absF_of (by decide)

end Go.Proofs.Ytimpabceellihaa
