/-
  The reference's combination of two shares: spec.l05Pairs, walked; the two closures of the program.
  AddShares and GreaterShare, walked in the program and in the reference.
-/
import Derived.Test.YtjajlddnhmbekaaGreatComb
namespace Go.Proofs.YtjajlddnhmbekaaGreat
section
open Go.RowKit
attribute [local go_sem] run_fl_add run_fl_sub run_fl_mul run_fl_quo run_up_

/-- The sum of two words, and the greater of two. -/
def addR (a b : Nat) : Nat := (floatBits .add .f32 a b).getD 0
def pairR (plus : Bool) (a b : Nat) : Nat := if plus then addR a b else grW a b
def pairG (plus : Bool) (a b : Nat) : Option Nat := if plus then addW a b else absF .f32 (grW a b)
theorem addR_bits {a b : Nat} (ha : finB a = true) (hb : finB b = true) : floatBits .add .f32 a b = some (addR a b) := by
  obtain ⟨r, hr⟩ := fin_sum ha hb
  unfold addR
  rw [hr]; rfl
theorem pair_abs (plus : Bool) (a b : Nat) (ha : finB a = true) (hb : finB b = true) : absF .f32 (pairR plus a b) = pairG plus a b := by
  unfold pairR pairG
  cases plus
  · rfl
  · exact abs_bits (addR_bits ha hb)
section
variable {w : World} {base : Nat} {v0 v1 u0 u1 : Value} {x0 x1 : List Nat}
/-- The first of two rows has grown. -/
theorem own_apart (o1 : Own fV 28 w base v1 x1) (ap : v0.ownBlock = none ∨ v0.ownBlock ≠ v1.ownBlock) {N : Nat} (hN : w.heap.size ≤ N) (hp : u0.ownBlock = v0.ownBlock ∨ u0.ownBlock = some N) : u0.ownBlock = none ∨ u0.ownBlock ≠ v1.ownBlock := by
  cases hu : u0.ownBlock with
  | none => exact .inl rfl
  | some a =>
    refine .inr fun e => ?_
    have hl := (o1.lt a e.symm).2
    rcases hp with e' | e'
    · rcases ap with k | k
      · rw [hu, k] at e'; cases e'
      · exact k (e'.symm.trans (hu.trans e))
    · rw [hu] at e'; injection e' with e'; omega
/-- The second one has grown. -/
theorem own_apart2 (o0 : Own fV 28 w base v0 x0) (ap : v0.ownBlock = none ∨ v0.ownBlock ≠ v1.ownBlock) (hp : u1.ownBlock = v1.ownBlock ∨ u1.ownBlock = some w.heap.size) : v0.ownBlock = none ∨ v0.ownBlock ≠ u1.ownBlock :=
  apart_symm (own_apart o0 (apart_symm ap) (Nat.le_refl _) hp)
end

end

section
open Go.RowKit
attribute [local go_sem] run_fl_add run_fl_sub run_fl_mul run_fl_quo run_up_

theorem grClosure (a b : Nat) (w : World) : Calls Tryz.prog 30 #[fV a, fV b] w fun e w' => e = .returned (fV (pairR false a b)) ∧ w = w' := by
  cases hgt : (FloatKind.f32.format.order b a == some .gt)
  · have HE : Hid (pairR false a b = a) := by unfold Hid pairR grW; rw [hgt]; rfl
    go_enter Tryz.func30, Tryz.ntmps30
    go_wp2
    refine bodyPost_ret (v := fV a) (by simp [results, Tryz.results30, go_sem]) rfl ⟨by rw [HE.out], rfl⟩
  · have HE : Hid (pairR false a b = b) := by unfold Hid pairR grW; rw [hgt]; rfl
    go_enter Tryz.func30, Tryz.ntmps30
    go_wp2
    refine bodyPost_ret (v := fV b) (by simp [results, Tryz.results30, go_sem]) rfl ⟨by rw [HE.out], rfl⟩

set_option maxHeartbeats 3200000 in
set_option maxRecDepth 100000 in
theorem implGreaterShare_any (s0 : Value) (x0 : List Nat) (s1 : Value) (x1 : List Nat) (hn0 : x0.length ≤ 1099511627776) (hn1 : x1.length ≤ 1099511627776) (s2 : Value) (x2 : List Nat) (s3 : Value) (x3 : List Nat) (hn2 : x2.length ≤ 1099511627776) (hn3 : x3.length ≤ 1099511627776) (w : World) (hr0 : Rd fV w s0 x0) (hr1 : Rd fV w s1 x1) (hr2 : Rd fV w s2 x2) (hr3 : Rd fV w s3 x3) :
    Calls Tryz.prog 9 #[shV s0 s1, shV s2 s3] w (RetComb (pairG false) x0 x1 x2 x3 w) := by
  have HR0 := Lib.hid hr0
  obtain ⟨A0, cap0, rfl, hcap0, hA0⟩ := hr0
  have HA0 := Lib.hid hA0
  clear hA0
  have HR1 := Lib.hid hr1
  obtain ⟨A1, cap1, rfl, hcap1, hA1⟩ := hr1
  have HA1 := Lib.hid hA1
  clear hA1
  have HR2 := Lib.hid hr2
  obtain ⟨A2, cap2, rfl, hcap2, hA2⟩ := hr2
  have HA2 := Lib.hid hA2
  clear hA2
  have HR3 := Lib.hid hr3
  obtain ⟨A3, cap3, rfl, hcap3, hA3⟩ := hr3
  have HA3 := Lib.hid hA3
  clear hA3
  go_enter Tryz.func9, Tryz.ntmps9
  go_wp2_with fail
  have B0 : BoxAt (((w.alloc (.cells ([.slice A0 x0.length cap0, .slice A1 x1.length cap1] : List Value).toArray 26)).alloc (.cells ([.slice A2 x2.length cap2, .slice A3 x3.length cap3] : List Value).toArray 26)).alloc (.cells ([.slice none 0 0, .slice none 0 0] : List Value).toArray 26)) w.heap.size [.slice A0 x0.length cap0, .slice A1 x1.length cap1] := ((BoxAt.new w _ _).alloc _).alloc _
  have B2 : BoxAt (((w.alloc (.cells ([.slice A0 x0.length cap0, .slice A1 x1.length cap1] : List Value).toArray 26)).alloc (.cells ([.slice A2 x2.length cap2, .slice A3 x3.length cap3] : List Value).toArray 26)).alloc (.cells ([.slice none 0 0, .slice none 0 0] : List Value).toArray 26)) (w.heap.size + 1) [.slice A2 x2.length cap2, .slice A3 x3.length cap3] := by
    have := (BoxAt.new (w.alloc (.cells ([.slice A0 x0.length cap0, .slice A1 x1.length cap1] : List Value).toArray 26)) [.slice A2 x2.length cap2, .slice A3 x3.length cap3] 26).alloc (.cells ([.slice none 0 0, .slice none 0 0] : List Value).toArray 26)
    rwa [size_alloc] at this
  have B1 : BoxAt (((w.alloc (.cells ([.slice A0 x0.length cap0, .slice A1 x1.length cap1] : List Value).toArray 26)).alloc (.cells ([.slice A2 x2.length cap2, .slice A3 x3.length cap3] : List Value).toArray 26)).alloc (.cells ([.slice none 0 0, .slice none 0 0] : List Value).toArray 26)) (w.heap.size + 2) [.slice none 0 0, .slice none 0 0] := by
    have := BoxAt.new ((w.alloc (.cells ([.slice A0 x0.length cap0, .slice A1 x1.length cap1] : List Value).toArray 26)).alloc (.cells ([.slice A2 x2.length cap2, .slice A3 x3.length cap3] : List Value).toArray 26)) [.slice none 0 0, .slice none 0 0] 26
    rwa [size_alloc, size_alloc] at this
  have hT : Below w.heap.size w (((w.alloc (.cells ([.slice A0 x0.length cap0, .slice A1 x1.length cap1] : List Value).toArray 26)).alloc (.cells ([.slice A2 x2.length cap2, .slice A3 x3.length cap3] : List Value).toArray 26)).alloc (.cells ([.slice none 0 0, .slice none 0 0] : List Value).toArray 26)) := (((Below.refl _ _).alloc (Nat.le_refl _) _).alloc (by simp) _).alloc (by simp; omega) _
  generalize hg : ((w.alloc _).alloc _).alloc _ = W0 at *
  clear hg
  clear B0 B2
  refine (implCombine_any (pairG false) (pairR false) 30 (fun _ _ => rfl) (fun a b w _ _ => grClosure a b w) (pair_abs false) _ x0 _ x1 _ x2 _ x3 hn0 hn1 hn2 hn3 _ (HR0.out.below hT) (HR1.out.below hT) (HR2.out.below hT) (HR3.out.below hT)).mono ?_
  rintro e w6 ⟨u0, z0, u1, z1, rfl, o0, o1, ap, l0, l1, a0, a1, hb6⟩
  have hB := B1.below hb6
  have hT6 := below_to hT hb6 hT.size
  have hlt6 := B1.lt
  obtain ⟨E0, c0, rfl, -, -⟩ := o0.rd
  obtain ⟨E1, c1, rfl, -, -⟩ := o1.rd
  have HF := Lib.hid (fun u v => retSh_stored (w := w) (b := w.heap.size + 2) o0 o1 ap l0 l1 a0 a1 hT6 (by omega) hlt6 hT.size u v)
  clear o0 o1 ap a0 a1 l0 l1 hb6 hT6 B1 hT hlt6
  have r0 := hB.cell 0 _ rfl
  have r1 := hB.cell 1 _ rfl
  have f0 := hB.free 0
  have f1 := hB.free 1
  have HB := Lib.hid hB
  clear hB
  go_wp2
  refine bodyPost_ret (v := .tuple #[shV (.slice E0 z0.length c0) (.slice E1 z1.length c1), .bool (combOk (pairG false) x0 x1 x2 x3)]) (by simp [results, Tryz.results9, go_sem, *]) rfl ?_
  unfold RetComb
  exact HF.out _ _
end
end Go.Proofs.YtjajlddnhmbekaaGreat
