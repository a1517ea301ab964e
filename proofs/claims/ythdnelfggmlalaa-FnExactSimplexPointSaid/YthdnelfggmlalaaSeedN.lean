/-
  The next word of a seed, walked in the program and in the reference.
-/
import Derived.Test.YthdnelfggmlalaaSeed
namespace Go.Proofs.Ythdnelfggmlalaa
open Go.RowKit

def NextRes (k a b : Int) (w : World) (e : Ending) (w' : World) : Prop :=
  e = .returned (.tuple #[sdV k (nextA k a b) (nextB k a b), .int .i64 (nextW k a b / 4294967296)]) ∧ Below w.heap.size w w'
theorem next_any (k a b : Int) (w : World) : Calls Try.prog 78 #[sdV k a b] w (NextRes k a b w) := by
  unfold NextRes
  have hT : Below w.heap.size w w := Below.refl _ _
  by_cases h0 : k = 0
  · subst h0
    have H := Lib.hid (seed0 a b)
    have H2 := Lib.hid (half_i64 0 a b)
    go_enter Try.func78, Try.ntmps78
    go_wp2
    refine bodyPost_ret (v := .tuple #[sdV 0 (lineZ a b) b, .int .i64 (wrap64 (lineZ a b / 4294967296))]) (by simp [results, Try.results78, go_sem, lineZ, wu]) rfl ⟨?_, (hT.alloc (Nat.le_refl _) _).alloc (by simp) _⟩
    rw [H.out.1, H.out.2.1, ← H2.out, H.out.2.2]
  by_cases h1 : k = 1
  · subst h1
    have H := Lib.hid (seed1 a b)
    have H2 := Lib.hid (half_i64 1 a b)
    clear h0
    go_enter Try.func78, Try.ntmps78
    go_wp2
    refine bodyPost_ret (v := .tuple #[sdV 1 (shiftZ a) b, .int .i64 (wrap64 (wu (shiftZ a * 2685821657736338717) / 4294967296))]) (by simp [results, Try.results78, go_sem, shiftZ, sh1, sh2, wu, xr]) rfl ⟨?_, (hT.alloc (Nat.le_refl _) _).alloc (by simp) _⟩
    rw [H.out.1, H.out.2.1, ← H2.out, H.out.2.2]
  by_cases h2 : k = 2
  · subst h2
    have H := Lib.hid (seed2 a b)
    have H2 := Lib.hid (half_i64 2 a b)
    clear h0 h1
    go_enter Try.func78, Try.ntmps78
    go_wp2_with (go_at_call 103; refine (mixWord_any _ _).mono ?_; rintro e w' ⟨rfl, rfl⟩)
    refine bodyPost_ret (v := .tuple #[sdV 2 (wu (a + 11400714819323198485)) b, .int .i64 (wrap64 (mixZ (wu (wu (a + 11400714819323198485) + b)) / 4294967296))]) (by simp [results, Try.results78, go_sem, wu]) rfl ⟨?_, (hT.alloc (Nat.le_refl _) _).alloc (by simp) _⟩
    rw [H.out.1, H.out.2.1, ← H2.out, H.out.2.2]
  have H := Lib.hid (seed3 h0 h1 h2 a b)
  have H2 := Lib.hid (half_i64 k a b)
  go_enter Try.func78, Try.ntmps78
  go_wp2_with (go_at_call 104; refine (rotl_any _ _ (by first | exact .inl rfl | exact .inr rfl) _).mono ?_; rintro e w' ⟨rfl, rfl⟩)
  refine bodyPost_ret (v := .tuple #[sdV k (xr (xr (turnZ a 24) (pairX a b)) (wu (pairX a b * 65536))) (turnZ (pairX a b) 37), .int .i64 (wrap64 (wu (a + b) / 4294967296))]) (by simp [results, Try.results78, go_sem, wu, xr, pairX]) rfl ⟨?_, (hT.alloc (Nat.le_refl _) _).alloc (by simp) _⟩
  rw [H.out.1, H.out.2.1, ← H2.out, H.out.2.2]

theorem touch_set {g : Nat} {w w1 : World} (h : Touch g (g + 1) w w1) (n i : Nat) (u : Value) : Touch g (g + 1) w ((w1.drewN n).setCell ⟨g, i, none⟩ u) :=
  Touch.trans (b := w1.drewN n) ⟨h.os, h.tape, h.output, h.size, h.block⟩ (Touch.setCell _ ⟨g, i, none⟩ u)
theorem touch_reflS (g : Nat) (w : World) : Touch g (g + 1) w w := ⟨rfl, rfl, rfl, Nat.le_refl _, fun _ _ _ => rfl⟩
theorem touch_drew {g : Nat} {w w1 : World} (h : Touch g (g + 1) w w1) (n : Nat) : Touch g (g + 1) w (w1.drewN n) := ⟨h.os, h.tape, h.output, h.size, h.block⟩
theorem box_drew {g : Nat} {w : World} {vs : List Value} (h : BoxAt w g vs) (n : Nat) : BoxAt (w.drewN n) g vs := ⟨h.lt, h.cell, h.free⟩
theorem enter_l02Mix (args : Array Value) (w : World) : (callFunc 101 args).run Try.prog w = .ok (.enter 101 args) w :=
  enter_of Try.func101 (by kernel_rfl) (by kernel_rfl) args w
/-- In the reference: the seed lies in a box. -/
def NextBox (k a b : Int) (g : Nat) (w : World) (e : Ending) (w' : World) : Prop :=
  e = .returned (.int .u32 (nextW k a b / 4294967296)) ∧ BoxAt w' g [.int .i64 k, u64V (nextA k a b), u64V (nextB k a b)] ∧ Touch g (g + 1) w w'
set_option maxRecDepth 100000 in
set_option maxHeartbeats 1600000 in
theorem l02Next_any (g : Nat) (k a b : Int) (w : World) (hB : BoxAt w g [.int .i64 k, u64V a, u64V b]) : Calls Try.prog 77 #[.pointer (some ⟨g, 0, none⟩)] w (NextBox k a b g w) := by
  unfold NextBox
  have hT := touch_reflS g w
  have HB := Lib.hid hB
  have d0 := hB.cell 0 _ rfl
  have d1 := hB.cell 1 _ rfl
  have d2 := hB.cell 2 _ rfl
  have f1 := hB.free 1
  have f2 := hB.free 2
  clear hB
  by_cases h0 : k = 0
  · subst h0
    have H := Lib.hid (seed0 a b)
    have H2 := Lib.hid (half_u32 0 a b)
    go_enter Try.func77, Try.ntmps77
    go_wp2
    refine wp_region_fq 13 (fun _ _ _ => True) (by kernel_rfl) (by kernel_rfl) ?_
    simp only [List.take, List.drop]
    repeat (first | (refine wpFq_one (by rfl) ?_; go_big_quiet_step (fail); refine wpQuiet_nil ?_) | (refine wpFq_nilc (by rfl) _ rfl _ (by rfl) ?_; simp only [Act.put, List.setIfInBounds_toArray, List.set_cons_zero, List.set_cons_succ]) | (refine wpFq_fl (by rfl) _ _ _ _ _ rfl (by rfl) _ _ _ (by rfl) (by rfl) ?_; intro fb hfb; simp only [Act.put, List.setIfInBounds_toArray, List.set_cons_zero, List.set_cons_succ]) | (refine wpFq_up (by rfl) _ _ _ rfl (by kernel_rfl) (by kernel_rfl) _ (by rfl) ?_; intro fb hfb; simp only [Act.put, List.setIfInBounds_toArray, List.set_cons_zero, List.set_cons_succ]))
    refine wpFq_nil ?_
    intro nq
    go_wp2
    go_ret
    refine ⟨?_, ?_, touch_set hT nq 1 _⟩
    · show Ending.returned (.int .u32 (IntKind.u32.wrap (lineZ a b / 4294967296))) = _
      rw [← H2.out, H.out.2.2]
    · rw [H.out.1, H.out.2.1]
      exact (box_drew HB.out nq).set (i := 1) rfl _
  by_cases h1 : k = 1
  · subst h1
    have H := Lib.hid (seed1 a b)
    have H2 := Lib.hid (half_u32 1 a b)
    clear h0
    go_enter Try.func77, Try.ntmps77
    go_wp2
    refine wp_region_fq 12 (fun _ _ _ => True) (by kernel_rfl) (by kernel_rfl) ?_
    simp only [List.take, List.drop]
    repeat (first | (refine wpFq_one (by rfl) ?_; go_big_quiet_step (fail); refine wpQuiet_nil ?_) | (refine wpFq_nilc (by rfl) _ rfl _ (by rfl) ?_; simp only [Act.put, List.setIfInBounds_toArray, List.set_cons_zero, List.set_cons_succ]) | (refine wpFq_fl (by rfl) _ _ _ _ _ rfl (by rfl) _ _ _ (by rfl) (by rfl) ?_; intro fb hfb; simp only [Act.put, List.setIfInBounds_toArray, List.set_cons_zero, List.set_cons_succ]) | (refine wpFq_up (by rfl) _ _ _ rfl (by kernel_rfl) (by kernel_rfl) _ (by rfl) ?_; intro fb hfb; simp only [Act.put, List.setIfInBounds_toArray, List.set_cons_zero, List.set_cons_succ]))
    refine wpFq_nil ?_
    intro nq
    go_wp2
    rw [show bits .xor .u64 a (IntKind.u64.wrap (a * 8192)) = sh1 a from rfl]
    have B1 : Hid (BoxAt ((w.drewN nq).setCell ⟨g, 1, none⟩ (u64V (sh1 a))) g [.int .i64 1, u64V (sh1 a), u64V b]) := (box_drew HB.out nq).set (i := 1) rfl (u64V (sh1 a))
    have T1 := touch_set hT nq 1 (u64V (sh1 a))
    generalize (w.drewN nq).setCell ⟨g, 1, none⟩ (u64V (sh1 a)) = W1 at B1 T1 ⊢
    clear d0 d1 d2 f1 f2 hT
    have d1 := B1.out.cell 1 _ rfl
    have f1 := B1.out.free 1
    refine wp_region_fq 12 (fun _ _ _ => True) (by kernel_rfl) (by kernel_rfl) ?_
    simp only [List.take, List.drop]
    repeat (first | (refine wpFq_one (by rfl) ?_; go_big_quiet_step (fail); refine wpQuiet_nil ?_) | (refine wpFq_nilc (by rfl) _ rfl _ (by rfl) ?_; simp only [Act.put, List.setIfInBounds_toArray, List.set_cons_zero, List.set_cons_succ]) | (refine wpFq_fl (by rfl) _ _ _ _ _ rfl (by rfl) _ _ _ (by rfl) (by rfl) ?_; intro fb hfb; simp only [Act.put, List.setIfInBounds_toArray, List.set_cons_zero, List.set_cons_succ]) | (refine wpFq_up (by rfl) _ _ _ rfl (by kernel_rfl) (by kernel_rfl) _ (by rfl) ?_; intro fb hfb; simp only [Act.put, List.setIfInBounds_toArray, List.set_cons_zero, List.set_cons_succ]))
    refine wpFq_nil ?_
    intro nq
    go_wp2
    rw [show bits .xor .u64 (sh1 a) (sh1 a / 128) = sh2 a from rfl]
    have B2 : Hid (BoxAt ((W1.drewN nq).setCell ⟨g, 1, none⟩ (u64V (sh2 a))) g [.int .i64 1, u64V (sh2 a), u64V b]) := (box_drew B1.out nq).set (i := 1) rfl (u64V (sh2 a))
    have T2 := touch_set T1 nq 1 (u64V (sh2 a))
    generalize (W1.drewN nq).setCell ⟨g, 1, none⟩ (u64V (sh2 a)) = W2 at B2 T2 ⊢
    clear d1 f1 T1 B1
    have d1 := B2.out.cell 1 _ rfl
    have f1 := B2.out.free 1
    refine wp_region_fq 12 (fun _ _ _ => True) (by kernel_rfl) (by kernel_rfl) ?_
    simp only [List.take, List.drop]
    repeat (first | (refine wpFq_one (by rfl) ?_; go_big_quiet_step (fail); refine wpQuiet_nil ?_) | (refine wpFq_nilc (by rfl) _ rfl _ (by rfl) ?_; simp only [Act.put, List.setIfInBounds_toArray, List.set_cons_zero, List.set_cons_succ]) | (refine wpFq_fl (by rfl) _ _ _ _ _ rfl (by rfl) _ _ _ (by rfl) (by rfl) ?_; intro fb hfb; simp only [Act.put, List.setIfInBounds_toArray, List.set_cons_zero, List.set_cons_succ]) | (refine wpFq_up (by rfl) _ _ _ rfl (by kernel_rfl) (by kernel_rfl) _ (by rfl) ?_; intro fb hfb; simp only [Act.put, List.setIfInBounds_toArray, List.set_cons_zero, List.set_cons_succ]))
    refine wpFq_nil ?_
    intro nq
    go_wp2
    rw [show bits .xor .u64 (sh2 a) (IntKind.u64.wrap (sh2 a * 131072)) = shiftZ a from rfl]
    have B3 : Hid (BoxAt ((W2.drewN nq).setCell ⟨g, 1, none⟩ (u64V (shiftZ a))) g [.int .i64 1, u64V (shiftZ a), u64V b]) := (box_drew B2.out nq).set (i := 1) rfl (u64V (shiftZ a))
    have T3 := touch_set T2 nq 1 (u64V (shiftZ a))
    generalize (W2.drewN nq).setCell ⟨g, 1, none⟩ (u64V (shiftZ a)) = W3 at B3 T3 ⊢
    clear d1 f1 T2 B2
    have d1 := B3.out.cell 1 _ rfl
    go_wp2
    go_ret
    refine ⟨?_, ?_, T3⟩
    · show Ending.returned (.int .u32 (IntKind.u32.wrap (wu (shiftZ a * 2685821657736338717) / 4294967296))) = _
      rw [← H2.out, H.out.2.2]
    · rw [H.out.1, H.out.2.1]
      exact B3.out
  by_cases h2 : k = 2
  · subst h2
    have H := Lib.hid (seed2 a b)
    have H2 := Lib.hid (half_u32 2 a b)
    clear h0 h1
    go_enter Try.func77, Try.ntmps77
    go_wp2
    rw [show IntKind.u64.wrap (a + 11400714819323198485) = wu (a + 11400714819323198485) from rfl]
    have B1 : Hid (BoxAt (w.setCell ⟨g, 1, none⟩ (u64V (wu (a + 11400714819323198485)))) g [.int .i64 2, u64V (wu (a + 11400714819323198485)), u64V b]) := HB.out.set (i := 1) rfl (u64V (wu (a + 11400714819323198485)))
    have T1 : Touch g (g + 1) w (w.setCell ⟨g, 1, none⟩ (u64V (wu (a + 11400714819323198485)))) := Touch.setCell _ ⟨g, 1, none⟩ _
    generalize w.setCell ⟨g, 1, none⟩ (u64V (wu (a + 11400714819323198485))) = W1 at B1 T1 ⊢
    generalize wu (a + 11400714819323198485) = a' at *
    clear d0 d1 d2 f1 f2 hT
    have d1 := B1.out.cell 1 _ rfl
    have d2 := B1.out.cell 2 _ rfl
    refine wp_region_fq 13 (fun _ _ v => v = u64V (mixZ (wu (a' + b)))) (by kernel_rfl) (by kernel_rfl) ?_
    simp only [List.take, List.drop]
    repeat (first | (refine wpFq_one (by rfl) ?_; go_big_quiet_step (fail); refine wpQuiet_nil ?_) | (refine wpFq_nilc (by rfl) _ rfl _ (by rfl) ?_; simp only [Act.put, List.setIfInBounds_toArray, List.set_cons_zero, List.set_cons_succ]) | (refine wpFq_fl (by rfl) _ _ _ _ _ rfl (by rfl) _ _ _ (by rfl) (by rfl) ?_; intro fb hfb; simp only [Act.put, List.setIfInBounds_toArray, List.set_cons_zero, List.set_cons_succ]) | (refine wpFq_up (by rfl) _ _ _ rfl (by kernel_rfl) (by kernel_rfl) _ (by rfl) ?_; intro fb hfb; simp only [Act.put, List.setIfInBounds_toArray, List.set_cons_zero, List.set_cons_succ]) | ((refine wpFq_call (by rfl) 101 _ _ [u64V (wu (a' + b))] rfl rfl enter_l02Mix (fun w' hw' => (l02Mix_any _ w').mono fun e w2 ⟨he, hw⟩ => ⟨_, he, rfl, hw ▸ hw'⟩) ?_; rintro v rfl); simp only [Act.put, List.setIfInBounds_toArray, List.set_cons_zero, List.set_cons_succ]))
    refine wpFq_nil ?_
    intro nq
    go_wp2
    go_ret
    refine ⟨?_, ?_, touch_drew T1 _⟩
    · show Ending.returned (.int .u32 (IntKind.u32.wrap (mixZ (wu (a' + b)) / 4294967296))) = _
      rw [← H2.out, H.out.2.2]
    · rw [H.out.1, H.out.2.1]
      exact box_drew B1.out _
  have H := Lib.hid (seed3 h0 h1 h2 a b)
  have H2 := Lib.hid (half_u32 k a b)
  go_enter Try.func77, Try.ntmps77
  go_wp2
  refine wp_region_fq 12 (fun _ _ _ => True) (by kernel_rfl) (by kernel_rfl) ?_
  simp only [List.take, List.drop]
  repeat (first | (refine wpFq_one (by rfl) ?_; go_big_quiet_step (fail); refine wpQuiet_nil ?_) | (refine wpFq_nilc (by rfl) _ rfl _ (by rfl) ?_; simp only [Act.put, List.setIfInBounds_toArray, List.set_cons_zero, List.set_cons_succ]) | (refine wpFq_fl (by rfl) _ _ _ _ _ rfl (by rfl) _ _ _ (by rfl) (by rfl) ?_; intro fb hfb; simp only [Act.put, List.setIfInBounds_toArray, List.set_cons_zero, List.set_cons_succ]) | (refine wpFq_up (by rfl) _ _ _ rfl (by kernel_rfl) (by kernel_rfl) _ (by rfl) ?_; intro fb hfb; simp only [Act.put, List.setIfInBounds_toArray, List.set_cons_zero, List.set_cons_succ]))
  refine wpFq_nil ?_
  intro nq
  go_wp2
  rw [show IntKind.u64.wrap (a + b) = wu (a + b) from rfl]
  have B1 : Hid (BoxAt (w.drewN nq) g [.int .i64 k, u64V a, u64V b]) := box_drew HB.out nq
  have T1 := touch_drew hT nq
  generalize w.drewN nq = W1 at B1 T1 ⊢
  clear d0 d1 d2 f1 f2 hT
  have d1 := B1.out.cell 1 _ rfl
  have d2 := B1.out.cell 2 _ rfl
  have f1 := B1.out.free 1
  have f2 := B1.out.free 2
  refine wp_region_fq 10 (fun _ _ _ => True) (by kernel_rfl) (by kernel_rfl) ?_
  simp only [List.take, List.drop]
  repeat (first | (refine wpFq_one (by rfl) ?_; go_big_quiet_step (fail); refine wpQuiet_nil ?_) | (refine wpFq_nilc (by rfl) _ rfl _ (by rfl) ?_; simp only [Act.put, List.setIfInBounds_toArray, List.set_cons_zero, List.set_cons_succ]) | (refine wpFq_fl (by rfl) _ _ _ _ _ rfl (by rfl) _ _ _ (by rfl) (by rfl) ?_; intro fb hfb; simp only [Act.put, List.setIfInBounds_toArray, List.set_cons_zero, List.set_cons_succ]) | (refine wpFq_up (by rfl) _ _ _ rfl (by kernel_rfl) (by kernel_rfl) _ (by rfl) ?_; intro fb hfb; simp only [Act.put, List.setIfInBounds_toArray, List.set_cons_zero, List.set_cons_succ]))
  refine wpFq_nil ?_
  intro nq
  go_wp2
  go_ret
  refine ⟨?_, ?_, (touch_set T1 nq 1 _).trans (Touch.setCell _ ⟨g, 2, none⟩ _)⟩
  · show Ending.returned (.int .u32 (wu (a + b) / 4294967296 % 4294967296)) = _
    rw [H.out.2.2]
    have := wu_in (a + b)
    rw [Int.emod_eq_of_lt (by omega) (by omega)]
  · rw [H.out.1, H.out.2.1]
    exact ((box_drew B1.out nq).set (i := 1) rfl _).set (i := 2) rfl _
end Go.Proofs.Ythdnelfggmlalaa
