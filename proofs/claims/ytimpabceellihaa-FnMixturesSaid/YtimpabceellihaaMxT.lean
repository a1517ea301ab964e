/-
  What the first density of FnMixtures is: 63 mixtures of one part, by the kernel.
-/
import Derived.Test.YtimpabceellihaaMixAt
import Derived.Test.YtimpabceellihaaB10A
namespace Go.Proofs.Ytimpabceellihaa
open Go.RowKit

/-- The words of halves and of quarters. -/
def hlf (z : Int) : Nat := (floatBits .quo .f32 (floatOfInt .f32 z) 1073741824).getD 0
def qrt (z : Int) : Nat := (floatBits .quo .f32 (floatOfInt .f32 z) 1082130432).getD 0
theorem hlf_tab : ∀ m : Nat, m < 17 → floatBits .quo .f32 (floatOfInt .f32 ((m : Int) - 8)) 1073741824 = some (hlf ((m : Int) - 8)) ∧ finB (hlf ((m : Int) - 8)) = true ∧ val (hlf ((m : Int) - 8)) = (((m : Int) - 8 : Int) : Rat) / 2 := by decide +kernel
theorem qrt_tab : ∀ m : Nat, m < 7 → floatBits .quo .f32 (floatOfInt .f32 (2 + (m : Int))) 1082130432 = some (qrt (2 + (m : Int))) ∧ finB (qrt (2 + (m : Int))) = true ∧ val (qrt (2 + (m : Int))) = ((2 + (m : Int) : Int) : Rat) / 4 := by decide +kernel
def topW (v u : Nat) : Nat := (mixS [1065353216] [hlf ((v : Int) - 4)] [qrt (2 + (u : Int))] (hlf ((v : Int) - 4))).getD 0
def quoW (u : Nat) : Nat := (floatBits .quo .f64 4600858325132107264 (upBits (qrt (2 + (u : Int))))).getD 0
def gapT (v u : Nat) : Nat := (gapW (upBits (topW v u)) (quoW u)).getD 0
def topOk (v u : Nat) : Bool :=
  mixOk [1065353216] [hlf ((v : Int) - 4)] [qrt (2 + (u : Int))] (hlf ((v : Int) - 4)) &&
  decide (mixS [1065353216] [hlf ((v : Int) - 4)] [qrt (2 + (u : Int))] (hlf ((v : Int) - 4)) = some (topW v u)) &&
  !(FloatKind.f32.decode (topW v u)).isNaN && !(FloatKind.f32.decode (qrt (2 + (u : Int)))).isNaN &&
  decide (floatBits .quo .f64 4600858325132107264 (upBits (qrt (2 + (u : Int)))) = some (quoW u)) &&
  decide (gapW (upBits (topW v u)) (quoW u) = some (gapT v u)) && !(FloatKind.f64.format.order (gapT v u) 4562254508917369340 == some .gt)
theorem top_tab0 : ∀ u : Nat, u < 7 → topOk 0 u = true := by decide +kernel
theorem top_tab1 : ∀ u : Nat, u < 7 → topOk 1 u = true := by decide +kernel
theorem top_tab2 : ∀ u : Nat, u < 7 → topOk 2 u = true := by decide +kernel
theorem top_tab3 : ∀ u : Nat, u < 7 → topOk 3 u = true := by decide +kernel
theorem top_tab4 : ∀ u : Nat, u < 7 → topOk 4 u = true := by decide +kernel
theorem top_tab5 : ∀ u : Nat, u < 7 → topOk 5 u = true := by decide +kernel
theorem top_tab6 : ∀ u : Nat, u < 7 → topOk 6 u = true := by decide +kernel
theorem top_tab7 : ∀ u : Nat, u < 7 → topOk 7 u = true := by decide +kernel
theorem top_tab8 : ∀ u : Nat, u < 7 → topOk 8 u = true := by decide +kernel
theorem top_all {v u : Nat} (hv : v < 9) (hu : u < 7) : topOk v u = true := by
  have : v = 0 ∨ v = 1 ∨ v = 2 ∨ v = 3 ∨ v = 4 ∨ v = 5 ∨ v = 6 ∨ v = 7 ∨ v = 8 := by omega
  rcases this with rfl | rfl | rfl | rfl | rfl | rfl | rfl | rfl | rfl
  · exact top_tab0 u hu
  · exact top_tab1 u hu
  · exact top_tab2 u hu
  · exact top_tab3 u hu
  · exact top_tab4 u hu
  · exact top_tab5 u hu
  · exact top_tab6 u hu
  · exact top_tab7 u hu
  · exact top_tab8 u hu
/-- What is reckoned of the first density. -/
theorem top_facts {v u : Nat} (hv : v < 9) (hu : u < 7) :
    mixOk [1065353216] [hlf ((v : Int) - 4)] [qrt (2 + (u : Int))] (hlf ((v : Int) - 4)) = true ∧ mixV [1065353216] [hlf ((v : Int) - 4)] [qrt (2 + (u : Int))] (hlf ((v : Int) - 4)) = some (topW v u) ∧
      (FloatKind.f32.decode (topW v u)).isNaN = false ∧ (FloatKind.f32.decode (qrt (2 + (u : Int)))).isNaN = false ∧ floatBits .quo .f64 4600858325132107264 (upBits (qrt (2 + (u : Int)))) = some (quoW u) ∧
      gapW (upBits (topW v u)) (quoW u) = some (gapT v u) ∧ (FloatKind.f64.format.order (gapT v u) 4562254508917369340 == some .gt) = false := by
  have h := top_all hv hu
  unfold topOk at h
  simp only [Bool.and_eq_true, Bool.not_eq_true', decide_eq_true_iff] at h
  obtain ⟨⟨⟨⟨⟨⟨h1, h2⟩, h3⟩, h4⟩, h5⟩, h6⟩, h7⟩ := h
  exact ⟨h1, by unfold mixV; rw [if_pos h1, h2], h3, h4, h5, h6, h7⟩
end Go.Proofs.Ytimpabceellihaa
