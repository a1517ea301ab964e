/-
  A bell's value and its way back, reckoned fast.
-/
import Derived.Test.YthafpbhjpmnddaaFastL
namespace Go.Proofs.Ythafpbhjpmnddaa
open Go.RowKit

def bellV (x : Nat) : Option Nat :=
  forceN (writeL FloatKind.f64.format (FloatKind.f32.decode x)) fun X => forceN (X % 9223372036854775808) fun R =>
    bif (ordF .f32 (some x) (some 3233808384) == some .lt) || (ordF .f32 (some x) (some 1086324736) == some .gt) then none
    else bif Nat.beq (sgw (Nat.ble 9223372036854775808 X) R) X && Nat.blt R INF then
      match goF R kT R R with
      | some r => outO (dnL (rawL (Nat.ble 9223372036854775808 X) R r)) clampA
      | none => none
    else none
theorem bellV_ok {x A : Nat} (h : bellV x = some A) : bellA (some x) = some A := by
  unfold bellV at h
  rw [force_eq, force_eq, writeL_eq, show FloatKind.f64.format.write (FloatKind.f32.decode x) = upBits x from rfl] at h
  cases h1 : (ordF .f32 (some x) (some 3233808384) == some .lt)
  · cases h2 : (ordF .f32 (some x) (some 1086324736) == some .gt)
    · rw [h1, h2] at h
      simp only [Bool.or_self, cond_false] at h
      cases h3 : (Nat.beq (sgw (Nat.ble 9223372036854775808 (upBits x)) (upBits x % 9223372036854775808)) (upBits x) && Nat.blt (upBits x % 9223372036854775808) INF)
      · rw [h3] at h; cases h
      · rw [h3, cond_true] at h
        rw [Bool.and_eq_true] at h3
        have e := Nat.eq_of_beq_eq_true h3.1
        have hR := blt_t h3.2
        generalize Nat.ble 9223372036854775808 (upBits x) = s at *
        generalize upBits x % 9223372036854775808 = R at *
        cases hg : goF R kT R R with
        | none => rw [hg] at h; cases h
        | some r =>
          rw [hg] at h
          unfold bellA
          rw [h1, h2]
          simp only [Bool.false_eq_true, if_false]
          dsimp only at h
          rw [← h, out_eq, dnL_eq, rawL_eq]
          refine congrArg (fun o => clampA (dnF o)) ?_
          unfold rawA
          rw [show upF (some x) = some (sgw s R) by rw [e]; rfl, (sumA_fast hR hg).1]
    · rw [h1, h2] at h; cases h
  · rw [h1] at h; cases h
/-- The bisection from l, h: what it ends in. -/
def bisV (P : Nat) : Nat → Nat → Nat → Option Nat
  | 0, l, _ => some l
  | n + 1, l, h => match midL (some l) (some h) with
    | none => none
    | some m0 => forceN m0 fun m => match bellV m with
      | none => none
      | some A => bif (ordF .f32 (some A) (some P) == some .lt) then bisV P n m h else bisV P n l m
theorem bisV_ok {P T : Nat} : ∀ (n l h k : Nat), bisV P n l h = some T → bisA (some P) k = (some l, some h) → (bisA (some P) (k + n)).1 = some T
  | 0, l, h, k, h1, h2 => by
    unfold bisV at h1
    rw [Nat.add_zero, h2]
    exact h1
  | n + 1, l, h, k, h1, h2 => by
    unfold bisV at h1
    rw [midL_eq] at h1
    cases hm : midA (some l) (some h) with
    | none => rw [hm] at h1; cases h1
    | some m =>
      rw [hm] at h1
      dsimp only at h1
      rw [force_eq] at h1
      cases hb : bellV m with
      | none => rw [hb] at h1; cases h1
      | some A =>
        rw [hb] at h1
        dsimp only at h1
        have hA := bellV_ok hb
        have e1 : (bisA (some P) k).1 = some l := by rw [h2]
        have e2 : (bisA (some P) k).2 = some h := by rw [h2]
        rw [show k + (n + 1) = k + 1 + n by omega]
        cases ho : (ordF .f32 (some A) (some P) == some .lt)
        · rw [ho, cond_false] at h1
          refine bisV_ok n l m (k + 1) h1 ?_
          rw [bis_ge (by rw [e1, e2, hm, hA]; exact ho), e1, e2, hm]
        · rw [ho, cond_true] at h1
          refine bisV_ok n m h (k + 1) h1 ?_
          rw [bis_lt (by rw [e1, e2, hm, hA]; exact ho), e1, e2, hm]
theorem bis_start {P T : Nat} (h : bisV P 40 3233808384 1086324736 = some T) : (bisA (some P) 40).1 = some T := by
  have := bisV_ok 40 _ _ 0 h rfl
  rwa [Nat.zero_add] at this
end Go.Proofs.Ythafpbhjpmnddaa
