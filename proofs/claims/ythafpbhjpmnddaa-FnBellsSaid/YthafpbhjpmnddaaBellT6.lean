/-
  The first half of FnBells, reckoned out.
-/
import Derived.Test.YthafpbhjpmnddaaBellT1
import Derived.Test.YthafpbhjpmnddaaBellT2
import Derived.Test.YthafpbhjpmnddaaBellT3
import Derived.Test.YthafpbhjpmnddaaBellT4
import Derived.Test.YthafpbhjpmnddaaBellT5
import Derived.Test.YthafpbhjpmnddaaB10
namespace Go.Proofs.Ythafpbhjpmnddaa
open Go.RowKit
theorem gapL_eq (a b : Nat) : gapL a b = gapW a b := by
  unfold gapL gapW
  rw [fbL_eq, fbL_eq]
theorem tT_ok : ((pT.zip tT).all fun p => bisV p.1 40 3233808384 1086324736 == some p.2) = true := by
  unfold pT tT
  simp only [List.zip_cons_cons, List.zip_nil_left, List.all_cons, List.all_nil, tT_ok0, tT_ok1, tT_ok2, tT_ok3, tT_ok4, tT_ok5, tT_ok6, tT_ok7, tT_ok8, tT_ok9, tT_ok10, tT_ok11, tT_ok12, tT_ok13, tT_ok14, tT_ok15, tT_ok16, tT_ok17, tT_ok18, tT_ok19, tT_ok20, tT_ok21, tT_ok22, tT_ok23, tT_ok24, tT_ok25, tT_ok26, tT_ok27, tT_ok28, tT_ok29, tT_ok30, beq_self_eq_true, Bool.and_self]
def nn (b : Nat) : Bool := !(FloatKind.f32.decode b).isNaN
def ckX (i : Nat) : Bool := finB (xT.getD i 0) && (nn (xT.getD i 0) && (nn (aT.getD i 0) && (!(FloatKind.f32.format.order (aT.getD i 0) 0 == some .lt) && !(FloatKind.f32.format.order (aT.getD i 0) 1065353216 == some .gt))))
def ckV (v : Nat) : Bool := fbL .quo .f32 (floatOfInt .f32 ((v : Int) - 32)) 1090519040 == some (xT.getD v 0) && (Op.negFloat .f32 (xT.getD v 0) == nT.getD v 0 && (finB (nT.getD v 0) && (nn (nT.getD v 0) && (nn (cT.getD v 0) &&
  match fbL .add .f64 (upBits (aT.getD v 0)) (upBits (cT.getD v 0)) with
  | some s => (match gapL s 4607182418800017408 with | some g => !(FloatKind.f64.format.order g 4562254508917369340 == some .gt) | none => false)
  | none => false))))
def ckU (v u : Nat) : Bool := fbL .add .f32 (xT.getD v 0) (xT.getD (33 + u) 0) == some (xT.getD (v + u + 1) 0) &&
  match fbL .add .f64 (upBits (aT.getD (v + u + 1) 0)) 4547007122018943789 with
  | some s => !(FloatKind.f64.format.order (upBits (aT.getD v 0)) s == some .gt)
  | none => false
def ckQ (u : Nat) : Bool := fbL .quo .f32 (floatOfInt .f32 (1 + (u : Int))) 1090519040 == some (xT.getD (33 + u) 0)
def ckT (t : Nat) : Bool := fbL .quo .f32 (floatOfInt .f32 (1 + (t : Int))) 1107296256 == some (pT.getD t 0) && (openB (pT.getD t 0) && (nn (pT.getD t 0) && (finB (tT.getD t 0) && (nn (tT.getD t 0) && (nn (kkT.getD t 0) &&
  match gapL (upBits (kkT.getD t 0)) (upBits (pT.getD t 0)) with
  | some g => !(FloatKind.f64.format.order g 4562254508917369340 == some .gt)
  | none => false)))))
theorem ckX_ok : ∀ i, i < 73 → ckX i = true := by decide +kernel
theorem ckV_ok : ∀ i, i < 65 → ckV i = true := by decide +kernel
theorem ckU_ok : ∀ v, v < 65 → ∀ u, u < 8 → ckU v u = true := by decide +kernel
theorem ckQ_ok : ∀ u, u < 8 → ckQ u = true := by decide +kernel
theorem ckT_ok : ∀ t, t < 31 → ckT t = true := by decide +kernel
theorem bell0 : bellV 0 = some 1056964608 := by decide +kernel
def ckF : Bool := match gapL (upBits 1056964608) 4602678819172646912 with
  | some g => !(FloatKind.f64.format.order g 4547007122018943789 == some .gt)
  | none => false
theorem ckF_ok : ckF = true := by decide +kernel
theorem nn_t {b : Nat} (h : nn b = true) : (FloatKind.f32.decode b).isNaN = false := by unfold nn at h; simpa using h
theorem not_t {b : Bool} (h : (!b) = true) : b = false := by simpa using h
theorem bellP_all (v u t : Nat) (hv : v < 65) (hu : u < 8) (ht : t < 31) : ∃ x q y p A B C T K F s1 s2 g1 g2 g3, BellP v u t x q y p A B C T K F s1 s2 g1 g2 g3 := by
  have hX := ckX_ok v (by omega)
  have hY := ckX_ok (v + u + 1) (by omega)
  have hV := ckV_ok v hv
  have hU := ckU_ok v hv u hu
  have hQ := ckQ_ok u hu
  have hT := ckT_ok t ht
  have hF := ckF_ok
  unfold ckX at hX hY
  unfold ckV at hV
  unfold ckU at hU
  unfold ckQ at hQ
  unfold ckT at hT
  unfold ckF at hF
  have bA := all_at aT_ok (i := v) (by simp [xT]; omega) (by simp [aT]; omega)
  have bB := all_at aT_ok (i := v + u + 1) (by simp [xT]; omega) (by simp [aT]; omega)
  have bC := all_at cT_ok (i := v) (by simp [nT]; omega) (by simp [cT]; omega)
  have bT := all_at tT_ok (i := t) (by simp [pT]; omega) (by simp [tT]; omega)
  have bK := all_at kkT_ok (i := t) (by simp [tT]; omega) (by simp [kkT]; omega)
  simp only [beq_iff_eq] at bA bB bC bT bK
  simp only [Bool.and_eq_true, beq_iff_eq] at hX hY hV hU hQ hT
  generalize xT.getD v 0 = x at *
  generalize xT.getD (33 + u) 0 = q at *
  generalize xT.getD (v + u + 1) 0 = y at *
  generalize aT.getD v 0 = A at *
  generalize aT.getD (v + u + 1) 0 = B at *
  generalize nT.getD v 0 = n at *
  generalize cT.getD v 0 = C at *
  generalize pT.getD t 0 = p at *
  generalize tT.getD t 0 = T at *
  generalize kkT.getD t 0 = K at *
  obtain ⟨x1, x2, x3, x4, -⟩ := hX
  obtain ⟨y1, y2, y3, -, y5⟩ := hY
  obtain ⟨v1, v2, v3, v4, v5, v6⟩ := hV
  obtain ⟨u1, u2⟩ := hU
  obtain ⟨t1, t2, t3, t4, t5, t6, t7⟩ := hT
  cases e2 : fbL .add .f64 (upBits A) (upBits C) with
  | none => rw [e2] at v6; cases v6
  | some s2 =>
  rw [e2] at v6
  dsimp only at v6
  cases e3 : gapL s2 4607182418800017408 with
  | none => rw [e3] at v6; cases v6
  | some g1 =>
  rw [e3] at v6
  dsimp only at v6
  cases e1 : fbL .add .f64 (upBits B) 4547007122018943789 with
  | none => rw [e1] at u2; cases u2
  | some s1 =>
  rw [e1] at u2
  dsimp only at u2
  cases e4 : gapL (upBits K) (upBits p) with
  | none => rw [e4] at t7; cases t7
  | some g2 =>
  rw [e4] at t7
  dsimp only at t7
  cases e5 : gapL (upBits 1056964608) 4602678819172646912 with
  | none => rw [e5] at hF; cases hF
  | some g3 =>
  rw [e5] at hF
  dsimp only at hF
  rw [fbL_eq] at v1 hQ u1 t1 e1 e2
  rw [gapL_eq] at e3 e4 e5
  refine ⟨x, q, y, p, A, B, C, T, K, 1056964608, s1, s2, g1, g2, g3, v1, hQ, u1, t1, x1, y1, by rw [v2]; exact v3, t2, t4, ?_, ?_, ?_, ?_, ?_, ?_, nn_t x3, nn_t y3, nn_t v5, nn_t t6, by decide, nn_t t3, not_t x4, not_t y5, e1, not_t u2, e2, e3, not_t v6, e4, not_t t7, e5, not_t hF⟩
  · rw [absF_of (nn_t x2)]; exact bellV_ok bA
  · rw [absF_of (nn_t y2)]; exact bellV_ok bB
  · rw [v2, absF_of (nn_t v4)]; exact bellV_ok bC
  · rw [absF_of (nn_t t3)]; exact bis_start bT
  · rw [absF_of (nn_t t5)]; exact bellV_ok bK
  · rw [show absF .f32 0 = some 0 from abs_zero]; exact bellV_ok bell0
end Go.Proofs.Ythafpbhjpmnddaa
