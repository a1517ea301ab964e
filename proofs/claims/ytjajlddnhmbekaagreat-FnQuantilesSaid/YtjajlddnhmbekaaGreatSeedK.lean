/-
  Seeds: valid ones, the next word, the next share.
  The next word of a seed, walked in the program and in the reference.
  The next share of a seed; valid seeds.
-/
import Derived.Test.YtjajlddnhmbekaaGreatSl
import Derived.Test.YtjajlddnhmbekaaGreatFloat
import Derived.Test.YtjajlddnhmbekaaGreatF32s
import Derived.Test.YtjajlddnhmbekaaGreatVal2
namespace Go.Proofs.YtjajlddnhmbekaaGreat
section
open Go.RowKit

abbrev u64V (a : Int) : Value := .int .u64 a
abbrev sdV (k a b : Int) : Value := .agg #[.int .i64 k, u64V a, u64V b]
def turnZ (x : Int) (k : Nat) : Int := bits .or .u64 (IntKind.u64.wrap (x * ((2 ^ k : Nat) : Int))) (x / ((2 ^ (64 - k) : Nat) : Int))
def mixU (x : Int) : Int := IntKind.u64.wrap (bits .xor .u64 x (x / 1073741824) * 13787848793156543929)
def mixV (x : Int) : Int := IntKind.u64.wrap (bits .xor .u64 (mixU x) (mixU x / 134217728) * 10723151780598845931)
def mixZ (x : Int) : Int := bits .xor .u64 (mixV x) (mixV x / 2147483648)
theorem l02Turn24 (x : Int) (w : World) : Calls Tryz.prog 82 #[u64V x, u64V 24] w fun e w' => e = .returned (u64V (turnZ x 24)) ∧ w = w' := by
  go_enter Tryz.func82, Tryz.ntmps82
  go_wp2
  go_ret
  exact ⟨rfl, rfl⟩
theorem l02Turn37 (x : Int) (w : World) : Calls Tryz.prog 82 #[u64V x, u64V 37] w fun e w' => e = .returned (u64V (turnZ x 37)) ∧ w = w' := by
  go_enter Tryz.func82, Tryz.ntmps82
  go_wp2
  go_ret
  exact ⟨rfl, rfl⟩
theorem rotl24 (x : Int) (w : World) : Calls Tryz.prog 81 #[u64V x, .int .i64 24] w fun e w' => e = .returned (u64V (turnZ x 24)) ∧ w = w' := by
  have h : bits .and .u64 24 63 = 24 := by decide
  go_enter Tryz.func81, Tryz.ntmps81
  go_wp2
  go_ret
  exact ⟨rfl, rfl⟩
theorem rotl37 (x : Int) (w : World) : Calls Tryz.prog 81 #[u64V x, .int .i64 37] w fun e w' => e = .returned (u64V (turnZ x 37)) ∧ w = w' := by
  have h : bits .and .u64 37 63 = 37 := by decide
  go_enter Tryz.func81, Tryz.ntmps81
  go_wp2
  go_ret
  exact ⟨rfl, rfl⟩
theorem l02Mix_any (x : Int) (w : World) : Calls Tryz.prog 62 #[u64V x] w fun e w' => e = .returned (u64V (mixZ x)) ∧ w = w' := by
  go_enter Tryz.func62, Tryz.ntmps62
  go_wp2
  go_ret
  exact ⟨rfl, rfl⟩
theorem mixWord_any (x : Int) (w : World) : Calls Tryz.prog 80 #[u64V x] w fun e w' => e = .returned (u64V (mixZ x)) ∧ w = w' := by
  go_enter Tryz.func80, Tryz.ntmps80
  go_wp2
  go_ret
  exact ⟨rfl, rfl⟩
theorem rotl_any (x k : Int) (h : k = 24 ∨ k = 37) (w : World) : Calls Tryz.prog 81 #[u64V x, .int .i64 k] w fun e w' => e = .returned (u64V (turnZ x k.toNat)) ∧ w = w' := by
  rcases h with rfl | rfl
  · exact rotl24 x w
  · exact rotl37 x w
theorem turn_any (x k : Int) (h : k = 24 ∨ k = 37) (w : World) : Calls Tryz.prog 82 #[u64V x, u64V k] w fun e w' => e = .returned (u64V (turnZ x k.toNat)) ∧ w = w' := by
  rcases h with rfl | rfl
  · exact l02Turn24 x w
  · exact l02Turn37 x w
def xr (a b : Int) : Int := bits .xor .u64 a b
def wu (a : Int) : Int := IntKind.u64.wrap a
def lineZ (a b : Int) : Int := wu (wu (6364136223846793005 * a) + b)
def sh1 (a : Int) : Int := xr a (wu (a * 8192))
def sh2 (a : Int) : Int := xr (sh1 a) (sh1 a / 128)
def shiftZ (a : Int) : Int := xr (sh2 a) (wu (sh2 a * 131072))
def pairX (a b : Int) : Int := xr b a
/-- The next seed, and its word of 64 digits. -/
def nextA (k a b : Int) : Int := if k = 0 then lineZ a b else if k = 1 then shiftZ a else if k = 2 then wu (a + 11400714819323198485) else xr (xr (turnZ a 24) (pairX a b)) (wu (pairX a b * 65536))
def nextB (k a b : Int) : Int := if k = 0 then b else if k = 1 then b else if k = 2 then b else turnZ (pairX a b) 37
def nextW (k a b : Int) : Int := if k = 0 then lineZ a b else if k = 1 then wu (shiftZ a * 2685821657736338717) else if k = 2 then mixZ (wu (wu (a + 11400714819323198485) + b)) else wu (a + b)
theorem wu_in (x : Int) : 0 ≤ wu x ∧ wu x < 18446744073709551616 := by
  unfold wu
  rw [IntKind.wrap_u64]
  omega
theorem bxor_in (x y : Int) : 0 ≤ bits .xor .u64 x y ∧ bits .xor .u64 x y < 18446744073709551616 := by
  show 0 ≤ IntKind.u64.wrap ((BitVec.ofInt 64 x ^^^ BitVec.ofInt 64 y).toNat : Int) ∧ IntKind.u64.wrap ((BitVec.ofInt 64 x ^^^ BitVec.ofInt 64 y).toNat : Int) < _
  rw [IntKind.wrap_u64]
  omega
theorem bor_in (x y : Int) : 0 ≤ bits .or .u64 x y ∧ bits .or .u64 x y < 18446744073709551616 := by
  show 0 ≤ IntKind.u64.wrap ((BitVec.ofInt 64 x ||| BitVec.ofInt 64 y).toNat : Int) ∧ IntKind.u64.wrap ((BitVec.ofInt 64 x ||| BitVec.ofInt 64 y).toNat : Int) < _
  rw [IntKind.wrap_u64]
  omega
theorem xr_in (x y : Int) : 0 ≤ xr x y ∧ xr x y < 18446744073709551616 := by unfold xr; exact bxor_in _ _
theorem turnZ_in (x : Int) (k : Nat) : 0 ≤ turnZ x k ∧ turnZ x k < 18446744073709551616 := by unfold turnZ; exact bor_in _ _
theorem mixZ_in (x : Int) : 0 ≤ mixZ x ∧ mixZ x < 18446744073709551616 := by unfold mixZ; exact bxor_in _ _
theorem lineZ_in (a b : Int) : 0 ≤ lineZ a b ∧ lineZ a b < 18446744073709551616 := by unfold lineZ; exact wu_in _
theorem shiftZ_in (a : Int) : 0 ≤ shiftZ a ∧ shiftZ a < 18446744073709551616 := by unfold shiftZ; exact xr_in _ _
theorem nextW_in (k a b : Int) : 0 ≤ nextW k a b ∧ nextW k a b < 18446744073709551616 := by
  unfold nextW
  split
  · exact lineZ_in _ _
  split
  · exact wu_in _
  split
  · exact mixZ_in _
  · exact wu_in _
theorem nextA_in (k a b : Int) : 0 ≤ nextA k a b ∧ nextA k a b < 18446744073709551616 := by
  unfold nextA
  split
  · exact lineZ_in _ _
  split
  · exact shiftZ_in _
  split
  · exact wu_in _
  · exact xr_in _ _
theorem nextB_in (k a b : Int) (hb : 0 ≤ b ∧ b < 18446744073709551616) : 0 ≤ nextB k a b ∧ nextB k a b < 18446744073709551616 := by
  unfold nextB
  split
  · exact hb
  split
  · exact hb
  split
  · exact hb
  · exact turnZ_in _ _
theorem seed0 (a b : Int) : nextA 0 a b = lineZ a b ∧ nextB 0 a b = b ∧ nextW 0 a b = lineZ a b := by
  unfold nextA nextB nextW
  exact ⟨if_pos rfl, if_pos rfl, if_pos rfl⟩
theorem seed1 (a b : Int) : nextA 1 a b = shiftZ a ∧ nextB 1 a b = b ∧ nextW 1 a b = wu (shiftZ a * 2685821657736338717) := by
  unfold nextA nextB nextW
  rw [if_neg (by decide), if_pos rfl, if_neg (by decide), if_pos rfl, if_neg (by decide), if_pos rfl]
  exact ⟨rfl, rfl, rfl⟩
theorem seed2 (a b : Int) : nextA 2 a b = wu (a + 11400714819323198485) ∧ nextB 2 a b = b ∧ nextW 2 a b = mixZ (wu (wu (a + 11400714819323198485) + b)) := by
  unfold nextA nextB nextW
  rw [if_neg (by decide), if_neg (by decide), if_pos rfl, if_neg (by decide), if_neg (by decide), if_pos rfl, if_neg (by decide), if_neg (by decide), if_pos rfl]
  exact ⟨rfl, rfl, rfl⟩
theorem seed3 {k : Int} (h0 : ¬ k = 0) (h1 : ¬ k = 1) (h2 : ¬ k = 2) (a b : Int) : nextA k a b = xr (xr (turnZ a 24) (pairX a b)) (wu (pairX a b * 65536)) ∧ nextB k a b = turnZ (pairX a b) 37 ∧ nextW k a b = wu (a + b) := by
  unfold nextA nextB nextW
  refine ⟨?_, ?_, ?_⟩ <;> simp only [if_neg h0, if_neg h1, if_neg h2]
/-- The upper half of a word. -/
theorem half_word (k a b : Int) : 0 ≤ nextW k a b / 4294967296 ∧ nextW k a b / 4294967296 < 4294967296 := by
  have := nextW_in k a b
  omega
theorem half_i64 (k a b : Int) : wrap64 (nextW k a b / 4294967296) = nextW k a b / 4294967296 := by
  have := half_word k a b
  exact IntWalk.wrap64_in _ (by omega)
theorem half_u32 (k a b : Int) : IntKind.u32.wrap (nextW k a b / 4294967296) = nextW k a b / 4294967296 := by
  have := half_word k a b
  exact IntWalk.u32_in _ (by omega)
end

section
open Go.RowKit

def NextRes (k a b : Int) (w : World) (e : Ending) (w' : World) : Prop :=
  e = .returned (.tuple #[sdV k (nextA k a b) (nextB k a b), .int .i64 (nextW k a b / 4294967296)]) ∧ Below w.heap.size w w'
theorem next_any (k a b : Int) (w : World) : Calls Tryz.prog 63 #[sdV k a b] w (NextRes k a b w) := by
  unfold NextRes
  have hT : Below w.heap.size w w := Below.refl _ _
  by_cases h0 : k = 0
  · subst h0
    have H := Lib.hid (seed0 a b)
    have H2 := Lib.hid (half_i64 0 a b)
    go_enter Tryz.func63, Tryz.ntmps63
    go_wp2
    refine bodyPost_ret (v := .tuple #[sdV 0 (lineZ a b) b, .int .i64 (wrap64 (lineZ a b / 4294967296))]) (by simp [results, Tryz.results63, go_sem, lineZ, wu]) rfl ⟨?_, (hT.alloc (Nat.le_refl _) _).alloc (by simp) _⟩
    rw [H.out.1, H.out.2.1, ← H2.out, H.out.2.2]
  by_cases h1 : k = 1
  · subst h1
    have H := Lib.hid (seed1 a b)
    have H2 := Lib.hid (half_i64 1 a b)
    clear h0
    go_enter Tryz.func63, Tryz.ntmps63
    go_wp2
    refine bodyPost_ret (v := .tuple #[sdV 1 (shiftZ a) b, .int .i64 (wrap64 (wu (shiftZ a * 2685821657736338717) / 4294967296))]) (by simp [results, Tryz.results63, go_sem, shiftZ, sh1, sh2, wu, xr]) rfl ⟨?_, (hT.alloc (Nat.le_refl _) _).alloc (by simp) _⟩
    rw [H.out.1, H.out.2.1, ← H2.out, H.out.2.2]
  by_cases h2 : k = 2
  · subst h2
    have H := Lib.hid (seed2 a b)
    have H2 := Lib.hid (half_i64 2 a b)
    clear h0 h1
    go_enter Tryz.func63, Tryz.ntmps63
    go_wp2_with (go_at_call 80; refine (mixWord_any _ _).mono ?_; rintro e w' ⟨rfl, rfl⟩)
    refine bodyPost_ret (v := .tuple #[sdV 2 (wu (a + 11400714819323198485)) b, .int .i64 (wrap64 (mixZ (wu (wu (a + 11400714819323198485) + b)) / 4294967296))]) (by simp [results, Tryz.results63, go_sem, wu]) rfl ⟨?_, (hT.alloc (Nat.le_refl _) _).alloc (by simp) _⟩
    rw [H.out.1, H.out.2.1, ← H2.out, H.out.2.2]
  have H := Lib.hid (seed3 h0 h1 h2 a b)
  have H2 := Lib.hid (half_i64 k a b)
  go_enter Tryz.func63, Tryz.ntmps63
  go_wp2_with (go_at_call 81; refine (rotl_any _ _ (by first | exact .inl rfl | exact .inr rfl) _).mono ?_; rintro e w' ⟨rfl, rfl⟩)
  refine bodyPost_ret (v := .tuple #[sdV k (xr (xr (turnZ a 24) (pairX a b)) (wu (pairX a b * 65536))) (turnZ (pairX a b) 37), .int .i64 (wrap64 (wu (a + b) / 4294967296))]) (by simp [results, Tryz.results63, go_sem, wu, xr, pairX]) rfl ⟨?_, (hT.alloc (Nat.le_refl _) _).alloc (by simp) _⟩
  rw [H.out.1, H.out.2.1, ← H2.out, H.out.2.2]

theorem touch_set {g : Nat} {w w1 : World} (h : Touch g (g + 1) w w1) (n i : Nat) (u : Value) : Touch g (g + 1) w ((w1.drewN n).setCell ⟨g, i, none⟩ u) :=
  Touch.trans (b := w1.drewN n) ⟨h.os, h.tape, h.output, h.size, h.block⟩ (Touch.setCell _ ⟨g, i, none⟩ u)
theorem touch_reflS (g : Nat) (w : World) : Touch g (g + 1) w w := ⟨rfl, rfl, rfl, Nat.le_refl _, fun _ _ _ => rfl⟩
theorem touch_drew {g : Nat} {w w1 : World} (h : Touch g (g + 1) w w1) (n : Nat) : Touch g (g + 1) w (w1.drewN n) := ⟨h.os, h.tape, h.output, h.size, h.block⟩
theorem box_drew {g : Nat} {w : World} {vs : List Value} (h : BoxAt w g vs) (n : Nat) : BoxAt (w.drewN n) g vs := ⟨h.lt, h.cell, h.free⟩
theorem enter_l02Mix (args : Array Value) (w : World) : (callFunc 62 args).run Tryz.prog w = .ok (.enter 62 args) w :=
  enter_of Tryz.func62 (by kernel_rfl) (by kernel_rfl) args w
/-- In the reference: the seed lies in a box. -/
def NextBox (k a b : Int) (g : Nat) (w : World) (e : Ending) (w' : World) : Prop :=
  e = .returned (.int .u32 (nextW k a b / 4294967296)) ∧ BoxAt w' g [.int .i64 k, u64V (nextA k a b), u64V (nextB k a b)] ∧ Touch g (g + 1) w w'
set_option maxRecDepth 100000 in
set_option maxHeartbeats 1600000 in
theorem l02Next_any (g : Nat) (k a b : Int) (w : World) (hB : BoxAt w g [.int .i64 k, u64V a, u64V b]) : Calls Tryz.prog 64 #[.pointer (some ⟨g, 0, none⟩)] w (NextBox k a b g w) := by
  unfold NextBox
  have hT := touch_reflS g w
  have HB := Lib.hid hB
  have d0 := hB.cell 0 _ rfl
  have d1 := hB.cell 1 _ rfl
  have d2 := hB.cell 2 _ rfl
  have f1 := hB.free 1
  have f2 := hB.free 2
  clear hB
  by_cases h0 : k = 0
  · subst h0
    have H := Lib.hid (seed0 a b)
    have H2 := Lib.hid (half_u32 0 a b)
    go_enter Tryz.func64, Tryz.ntmps64
    go_wp2
    refine wp_region_fq 13 (fun _ _ _ => True) (by kernel_rfl) (by kernel_rfl) ?_
    simp only [List.take, List.drop]
    repeat (first | (refine wpFq_one (by rfl) ?_; go_big_quiet_step (fail); refine wpQuiet_nil ?_) | (refine wpFq_nilc (by rfl) _ rfl _ (by rfl) ?_; simp only [Act.put, List.setIfInBounds_toArray, List.set_cons_zero, List.set_cons_succ]) | (refine wpFq_fl (by rfl) _ _ _ _ _ rfl (by rfl) _ _ _ (by rfl) (by rfl) ?_; intro fb hfb; simp only [Act.put, List.setIfInBounds_toArray, List.set_cons_zero, List.set_cons_succ]) | (refine wpFq_up (by rfl) _ _ _ rfl (by kernel_rfl) (by kernel_rfl) _ (by rfl) ?_; intro fb hfb; simp only [Act.put, List.setIfInBounds_toArray, List.set_cons_zero, List.set_cons_succ]))
    refine wpFq_nil ?_
    intro nq
    go_wp2
    go_ret
    refine ⟨?_, ?_, touch_set hT nq 1 _⟩
    · show Ending.returned (.int .u32 (IntKind.u32.wrap (lineZ a b / 4294967296))) = _
      rw [← H2.out, H.out.2.2]
    · rw [H.out.1, H.out.2.1]
      exact (box_drew HB.out nq).set (i := 1) rfl _
  by_cases h1 : k = 1
  · subst h1
    have H := Lib.hid (seed1 a b)
    have H2 := Lib.hid (half_u32 1 a b)
    clear h0
    go_enter Tryz.func64, Tryz.ntmps64
    go_wp2
    refine wp_region_fq 12 (fun _ _ _ => True) (by kernel_rfl) (by kernel_rfl) ?_
    simp only [List.take, List.drop]
    repeat (first | (refine wpFq_one (by rfl) ?_; go_big_quiet_step (fail); refine wpQuiet_nil ?_) | (refine wpFq_nilc (by rfl) _ rfl _ (by rfl) ?_; simp only [Act.put, List.setIfInBounds_toArray, List.set_cons_zero, List.set_cons_succ]) | (refine wpFq_fl (by rfl) _ _ _ _ _ rfl (by rfl) _ _ _ (by rfl) (by rfl) ?_; intro fb hfb; simp only [Act.put, List.setIfInBounds_toArray, List.set_cons_zero, List.set_cons_succ]) | (refine wpFq_up (by rfl) _ _ _ rfl (by kernel_rfl) (by kernel_rfl) _ (by rfl) ?_; intro fb hfb; simp only [Act.put, List.setIfInBounds_toArray, List.set_cons_zero, List.set_cons_succ]))
    refine wpFq_nil ?_
    intro nq
    go_wp2
    rw [show bits .xor .u64 a (IntKind.u64.wrap (a * 8192)) = sh1 a from rfl]
    have B1 : Hid (BoxAt ((w.drewN nq).setCell ⟨g, 1, none⟩ (u64V (sh1 a))) g [.int .i64 1, u64V (sh1 a), u64V b]) := (box_drew HB.out nq).set (i := 1) rfl (u64V (sh1 a))
    have T1 := touch_set hT nq 1 (u64V (sh1 a))
    generalize (w.drewN nq).setCell ⟨g, 1, none⟩ (u64V (sh1 a)) = W1 at B1 T1 ⊢
    clear d0 d1 d2 f1 f2 hT
    have d1 := B1.out.cell 1 _ rfl
    have f1 := B1.out.free 1
    refine wp_region_fq 12 (fun _ _ _ => True) (by kernel_rfl) (by kernel_rfl) ?_
    simp only [List.take, List.drop]
    repeat (first | (refine wpFq_one (by rfl) ?_; go_big_quiet_step (fail); refine wpQuiet_nil ?_) | (refine wpFq_nilc (by rfl) _ rfl _ (by rfl) ?_; simp only [Act.put, List.setIfInBounds_toArray, List.set_cons_zero, List.set_cons_succ]) | (refine wpFq_fl (by rfl) _ _ _ _ _ rfl (by rfl) _ _ _ (by rfl) (by rfl) ?_; intro fb hfb; simp only [Act.put, List.setIfInBounds_toArray, List.set_cons_zero, List.set_cons_succ]) | (refine wpFq_up (by rfl) _ _ _ rfl (by kernel_rfl) (by kernel_rfl) _ (by rfl) ?_; intro fb hfb; simp only [Act.put, List.setIfInBounds_toArray, List.set_cons_zero, List.set_cons_succ]))
    refine wpFq_nil ?_
    intro nq
    go_wp2
    rw [show bits .xor .u64 (sh1 a) (sh1 a / 128) = sh2 a from rfl]
    have B2 : Hid (BoxAt ((W1.drewN nq).setCell ⟨g, 1, none⟩ (u64V (sh2 a))) g [.int .i64 1, u64V (sh2 a), u64V b]) := (box_drew B1.out nq).set (i := 1) rfl (u64V (sh2 a))
    have T2 := touch_set T1 nq 1 (u64V (sh2 a))
    generalize (W1.drewN nq).setCell ⟨g, 1, none⟩ (u64V (sh2 a)) = W2 at B2 T2 ⊢
    clear d1 f1 T1 B1
    have d1 := B2.out.cell 1 _ rfl
    have f1 := B2.out.free 1
    refine wp_region_fq 12 (fun _ _ _ => True) (by kernel_rfl) (by kernel_rfl) ?_
    simp only [List.take, List.drop]
    repeat (first | (refine wpFq_one (by rfl) ?_; go_big_quiet_step (fail); refine wpQuiet_nil ?_) | (refine wpFq_nilc (by rfl) _ rfl _ (by rfl) ?_; simp only [Act.put, List.setIfInBounds_toArray, List.set_cons_zero, List.set_cons_succ]) | (refine wpFq_fl (by rfl) _ _ _ _ _ rfl (by rfl) _ _ _ (by rfl) (by rfl) ?_; intro fb hfb; simp only [Act.put, List.setIfInBounds_toArray, List.set_cons_zero, List.set_cons_succ]) | (refine wpFq_up (by rfl) _ _ _ rfl (by kernel_rfl) (by kernel_rfl) _ (by rfl) ?_; intro fb hfb; simp only [Act.put, List.setIfInBounds_toArray, List.set_cons_zero, List.set_cons_succ]))
    refine wpFq_nil ?_
    intro nq
    go_wp2
    rw [show bits .xor .u64 (sh2 a) (IntKind.u64.wrap (sh2 a * 131072)) = shiftZ a from rfl]
    have B3 : Hid (BoxAt ((W2.drewN nq).setCell ⟨g, 1, none⟩ (u64V (shiftZ a))) g [.int .i64 1, u64V (shiftZ a), u64V b]) := (box_drew B2.out nq).set (i := 1) rfl (u64V (shiftZ a))
    have T3 := touch_set T2 nq 1 (u64V (shiftZ a))
    generalize (W2.drewN nq).setCell ⟨g, 1, none⟩ (u64V (shiftZ a)) = W3 at B3 T3 ⊢
    clear d1 f1 T2 B2
    have d1 := B3.out.cell 1 _ rfl
    go_wp2
    go_ret
    refine ⟨?_, ?_, T3⟩
    · show Ending.returned (.int .u32 (IntKind.u32.wrap (wu (shiftZ a * 2685821657736338717) / 4294967296))) = _
      rw [← H2.out, H.out.2.2]
    · rw [H.out.1, H.out.2.1]
      exact B3.out
  by_cases h2 : k = 2
  · subst h2
    have H := Lib.hid (seed2 a b)
    have H2 := Lib.hid (half_u32 2 a b)
    clear h0 h1
    go_enter Tryz.func64, Tryz.ntmps64
    go_wp2
    rw [show IntKind.u64.wrap (a + 11400714819323198485) = wu (a + 11400714819323198485) from rfl]
    have B1 : Hid (BoxAt (w.setCell ⟨g, 1, none⟩ (u64V (wu (a + 11400714819323198485)))) g [.int .i64 2, u64V (wu (a + 11400714819323198485)), u64V b]) := HB.out.set (i := 1) rfl (u64V (wu (a + 11400714819323198485)))
    have T1 : Touch g (g + 1) w (w.setCell ⟨g, 1, none⟩ (u64V (wu (a + 11400714819323198485)))) := Touch.setCell _ ⟨g, 1, none⟩ _
    generalize w.setCell ⟨g, 1, none⟩ (u64V (wu (a + 11400714819323198485))) = W1 at B1 T1 ⊢
    generalize wu (a + 11400714819323198485) = a' at *
    clear d0 d1 d2 f1 f2 hT
    have d1 := B1.out.cell 1 _ rfl
    have d2 := B1.out.cell 2 _ rfl
    refine wp_region_fq 13 (fun _ _ v => v = u64V (mixZ (wu (a' + b)))) (by kernel_rfl) (by kernel_rfl) ?_
    simp only [List.take, List.drop]
    repeat (first | (refine wpFq_one (by rfl) ?_; go_big_quiet_step (fail); refine wpQuiet_nil ?_) | (refine wpFq_nilc (by rfl) _ rfl _ (by rfl) ?_; simp only [Act.put, List.setIfInBounds_toArray, List.set_cons_zero, List.set_cons_succ]) | (refine wpFq_fl (by rfl) _ _ _ _ _ rfl (by rfl) _ _ _ (by rfl) (by rfl) ?_; intro fb hfb; simp only [Act.put, List.setIfInBounds_toArray, List.set_cons_zero, List.set_cons_succ]) | (refine wpFq_up (by rfl) _ _ _ rfl (by kernel_rfl) (by kernel_rfl) _ (by rfl) ?_; intro fb hfb; simp only [Act.put, List.setIfInBounds_toArray, List.set_cons_zero, List.set_cons_succ]) | ((refine wpFq_call (by rfl) 62 _ _ [u64V (wu (a' + b))] rfl rfl enter_l02Mix (fun w' hw' => (l02Mix_any _ w').mono fun e w2 ⟨he, hw⟩ => ⟨_, he, rfl, hw ▸ hw'⟩) ?_; rintro v rfl); simp only [Act.put, List.setIfInBounds_toArray, List.set_cons_zero, List.set_cons_succ]))
    refine wpFq_nil ?_
    intro nq
    go_wp2
    go_ret
    refine ⟨?_, ?_, touch_drew T1 _⟩
    · show Ending.returned (.int .u32 (IntKind.u32.wrap (mixZ (wu (a' + b)) / 4294967296))) = _
      rw [← H2.out, H.out.2.2]
    · rw [H.out.1, H.out.2.1]
      exact box_drew B1.out _
  have H := Lib.hid (seed3 h0 h1 h2 a b)
  have H2 := Lib.hid (half_u32 k a b)
  go_enter Tryz.func64, Tryz.ntmps64
  go_wp2
  refine wp_region_fq 12 (fun _ _ _ => True) (by kernel_rfl) (by kernel_rfl) ?_
  simp only [List.take, List.drop]
  repeat (first | (refine wpFq_one (by rfl) ?_; go_big_quiet_step (fail); refine wpQuiet_nil ?_) | (refine wpFq_nilc (by rfl) _ rfl _ (by rfl) ?_; simp only [Act.put, List.setIfInBounds_toArray, List.set_cons_zero, List.set_cons_succ]) | (refine wpFq_fl (by rfl) _ _ _ _ _ rfl (by rfl) _ _ _ (by rfl) (by rfl) ?_; intro fb hfb; simp only [Act.put, List.setIfInBounds_toArray, List.set_cons_zero, List.set_cons_succ]) | (refine wpFq_up (by rfl) _ _ _ rfl (by kernel_rfl) (by kernel_rfl) _ (by rfl) ?_; intro fb hfb; simp only [Act.put, List.setIfInBounds_toArray, List.set_cons_zero, List.set_cons_succ]))
  refine wpFq_nil ?_
  intro nq
  go_wp2
  rw [show IntKind.u64.wrap (a + b) = wu (a + b) from rfl]
  have B1 : Hid (BoxAt (w.drewN nq) g [.int .i64 k, u64V a, u64V b]) := box_drew HB.out nq
  have T1 := touch_drew hT nq
  generalize w.drewN nq = W1 at B1 T1 ⊢
  clear d0 d1 d2 f1 f2 hT
  have d1 := B1.out.cell 1 _ rfl
  have d2 := B1.out.cell 2 _ rfl
  have f1 := B1.out.free 1
  have f2 := B1.out.free 2
  refine wp_region_fq 10 (fun _ _ _ => True) (by kernel_rfl) (by kernel_rfl) ?_
  simp only [List.take, List.drop]
  repeat (first | (refine wpFq_one (by rfl) ?_; go_big_quiet_step (fail); refine wpQuiet_nil ?_) | (refine wpFq_nilc (by rfl) _ rfl _ (by rfl) ?_; simp only [Act.put, List.setIfInBounds_toArray, List.set_cons_zero, List.set_cons_succ]) | (refine wpFq_fl (by rfl) _ _ _ _ _ rfl (by rfl) _ _ _ (by rfl) (by rfl) ?_; intro fb hfb; simp only [Act.put, List.setIfInBounds_toArray, List.set_cons_zero, List.set_cons_succ]) | (refine wpFq_up (by rfl) _ _ _ rfl (by kernel_rfl) (by kernel_rfl) _ (by rfl) ?_; intro fb hfb; simp only [Act.put, List.setIfInBounds_toArray, List.set_cons_zero, List.set_cons_succ]))
  refine wpFq_nil ?_
  intro nq
  go_wp2
  go_ret
  refine ⟨?_, ?_, (touch_set T1 nq 1 _).trans (Touch.setCell _ ⟨g, 2, none⟩ _)⟩
  · show Ending.returned (.int .u32 (wu (a + b) / 4294967296 % 4294967296)) = _
    rw [H.out.2.2]
    have := wu_in (a + b)
    rw [Int.emod_eq_of_lt (by omega) (by omega)]
  · rw [H.out.1, H.out.2.1]
    exact ((box_drew B1.out nq).set (i := 1) rfl _).set (i := 2) rfl _
end

section
open Go.RowKit
attribute [local go_sem] run_fl_add run_fl_sub run_fl_mul run_fl_quo run_up_

/-- By 2^24, or times 2^-24. -/
theorem pow24_eq (x : Option Nat) : opF .quo .f32 x (some 1266679808) = opF .mul .f32 x (some 864026624) := by
  cases x with
  | none => rfl
  | some b =>
    have r2 : FloatKind.f32.format.read 1266679808 = .number false 8388608 1 := by decide
    have rh : FloatKind.f32.format.read 864026624 = .number false 8388608 (-47) := by decide
    show ((FloatKind.f32.format.read b).quotient (FloatKind.f32.format.fractionBits + 2) (FloatKind.f32.format.read 1266679808)).map FloatKind.f32.format.write = ((FloatKind.f32.format.read b).product (FloatKind.f32.format.read 864026624)).map FloatKind.f32.format.write
    rw [r2, rh]
    cases e : FloatKind.f32.format.read b with
    | nan s t => rfl
    | infinity s => simp [Ieee.Datum.quotient, Ieee.Datum.product]
    | number s m i =>
      have hm : m < 2 ^ 24 := (read_bound b e).1
      have hf : FloatKind.f32.format.fractionBits = 23 := rfl
      simp only [Ieee.Datum.quotient, Ieee.Datum.product, hf]
      rw [if_neg (by omega)]
      simp only [Option.map_some, Bool.xor_false]
      have hl : m.log2 ≤ 23 := by
        by_cases h0 : m = 0
        · subst h0; decide
        · have := (Nat.log2_lt h0).2 hm
          omega
      have hn : Nat.log2 8388608 = 23 := by decide
      rw [hn]
      obtain ⟨k, hk⟩ : ∃ k, 23 + 2 + 23 - m.log2 = k + 23 := ⟨25 - m.log2, by omega⟩
      rw [hk, Nat.shiftLeft_eq, Nat.pow_add, ← Nat.mul_assoc, show 2 ^ 23 = 8388608 from rfl, Nat.mul_div_cancel _ (by omega), Nat.mul_mod_left]
      simp only [bne_self_eq_false, Bool.toNat_false, Nat.add_zero]
      show some (FloatKind.f32.format.nearest s (2 * (m * 2 ^ k)) _) = some (FloatKind.f32.format.nearest s (m * 8388608) _)
      rw [show 2 * (m * 2 ^ k) = m * 2 ^ (k + 1) by rw [Nat.pow_succ]; ac_rfl, nearest_shift, show m * 8388608 = m * 2 ^ 23 from rfl, nearest_shift]
      congr 2
      omega
/-- What a seed's share stands for. -/
def shareU (k a b : Int) : Option Nat := opF .mul .f32 (absF .f32 (floatOfInt .f32 (nextW k a b / 4294967296 / 256))) (some 864026624)
theorem lit_m24 : absF .f32 864026624 = some 864026624 := absF_of (by decide)
theorem lit_p24 : absF .f32 1266679808 = some 1266679808 := absF_of (by decide)

theorem share_any (k a b : Int) (w : World) : Calls Tryz.prog 40 #[sdV k a b] w fun e w' => ∃ u, e = .returned (.tuple #[sdV k (nextA k a b) (nextB k a b), fV u]) ∧ absF .f32 u = shareU k a b ∧ Below w.heap.size w w' := by
  have hh := half_word k a b
  go_enter Tryz.func40, Tryz.ntmps40
  go_wp2_with fail
  have hT : Below w.heap.size w ((w.alloc (.cells ([.int .i64 k, u64V a, u64V b] : List Value).toArray 40)).alloc (.cells ([.int .i64 0, u64V 0, u64V 0] : List Value).toArray 40)) := ((Below.refl _ _).alloc (Nat.le_refl _) _).alloc (by simp) _
  have B1 : BoxAt ((w.alloc (.cells ([.int .i64 k, u64V a, u64V b] : List Value).toArray 40)).alloc (.cells ([.int .i64 0, u64V 0, u64V 0] : List Value).toArray 40)) (w.heap.size + 1) [.int .i64 0, u64V 0, u64V 0] := by
    have := BoxAt.new (w.alloc (.cells ([.int .i64 k, u64V a, u64V b] : List Value).toArray 40)) [.int .i64 0, u64V 0, u64V 0] 40
    rwa [size_alloc] at this
  generalize hg : (w.alloc _).alloc _ = W0 at *
  clear hg
  refine (next_any k a b _).mono ?_
  rintro e w1 ⟨rfl, hb⟩
  replace B1 := B1.below hb
  replace hT := below_to hT hb hT.size
  have HT := Lib.hid hT
  have hz := B1.lt
  replace B1 := B1.alloc (.cells ([.int .i64 k, u64V (nextA k a b), u64V (nextB k a b)] : List Value).toArray 40)
  have d0 := B1.cell 0 _ rfl
  have d1 := B1.cell 1 _ rfl
  have d2 := B1.cell 2 _ rfl
  have f0 := B1.free 0
  have f1 := B1.free 1
  have f2 := B1.free 2
  have h1 : wrap64 ((nextW k a b / 4294967296) / 256) = nextW k a b / 4294967296 / 256 := IntWalk.wrap64_in _ (by omega)
  have h2 : Int.tdiv (nextW k a b / 4294967296) 256 = nextW k a b / 4294967296 / 256 := Int.tdiv_eq_ediv_of_nonneg hh.1
  have HH := Lib.hid hh
  generalize hA : nextA k a b = A' at *
  generalize hB : nextB k a b = B' at *
  clear hb hT hh
  go_wp2
  refine bodyPost_ret (v := .tuple #[sdV k A' B', fV (flR .mul .f32 (floatOfInt .f32 (nextW k a b / 4294967296 / 256)) 864026624 (w1.alloc (.cells #[.int .i64 k, u64V A', u64V B'] 40)))]) (by simp [results, Tryz.results40, go_sem, *]) rfl ⟨_, by rw [hA, hB], ?_, ?_⟩
  · unfold shareU
    rw [abs_flR .mul rfl, lit_m24]
  · exact (((below_drewN_ (HT.out.alloc HT.out.size _)).setCell (by simp) _).setCell (by simp) _).setCell (by simp) _
theorem l02Share_any (g : Nat) (k a b : Int) (w : World) (hB : BoxAt w g [.int .i64 k, u64V a, u64V b]) : Calls Tryz.prog 43 #[.pointer (some ⟨g, 0, none⟩)] w fun e w' => ∃ u, e = .returned (fV u) ∧ absF .f32 u = shareU k a b ∧ BoxAt w' g [.int .i64 k, u64V (nextA k a b), u64V (nextB k a b)] ∧ Touch g (g + 1) w w' := by
  have hh := half_word k a b
  go_enter Tryz.func43, Tryz.ntmps43
  go_wp2_with fail
  refine (l02Next_any g k a b _ hB).mono ?_
  rintro e w1 ⟨rfl, hB1, hT1⟩
  have HB1 := Lib.hid hB1
  clear hB1 hB
  have h1 : IntKind.u32.wrap ((nextW k a b / 4294967296) / 256) = nextW k a b / 4294967296 / 256 := IntWalk.u32_in _ (by omega)
  have h2 : Int.tdiv (nextW k a b / 4294967296) 256 = nextW k a b / 4294967296 / 256 := Int.tdiv_eq_ediv_of_nonneg hh.1
  go_wp2
  go_ret
  refine ⟨_, rfl, ?_, box_drew HB1.out _, touch_drew hT1 _⟩
  unfold shareU
  rw [abs_flR .quo rfl, lit_p24, pow24_eq]
def seedB (k a b : Int) : Bool := if (k == 0) = true then b % 2 == 1 else if (k == 1) = true then a != 0 else if (k == 2) = true then true else if (k == 3) = true then a != 0 || b != 0 else false
theorem validSeed_any (k a b : Int) (hb : 0 ≤ b) (w : World) : Calls Tryz.prog 39 #[sdV k a b] w fun e w' => e = .returned (.bool (seedB k a b)) ∧ Below w.heap.size w w' := by
  have hT := below_alloc w (.cells #[.int .i64 k, u64V a, u64V b] 40)
  go_enter Tryz.func39, Tryz.ntmps39
  go_wp2
  all_goals go_ret
  all_goals exact ⟨ret_bool (by cases h : (k == 2) <;> simp_all [seedB]), by first | exact hT | (subst_vars; exact hT)⟩
theorem l02IsSeed_any (g : Nat) (k a b : Int) (hb : 0 ≤ b) (w : World) (hB : BoxAt w g [.int .i64 k, u64V a, u64V b]) : Calls Tryz.prog 42 #[.pointer (some ⟨g, 0, none⟩)] w fun e w' => e = .returned (.bool (seedB k a b)) ∧ w = w' := by
  have d0 := hB.cell 0 _ rfl
  have d1 := hB.cell 1 _ rfl
  have d2 := hB.cell 2 _ rfl
  clear hB
  go_enter Tryz.func42, Tryz.ntmps42
  go_wp2
  all_goals go_ret
  all_goals exact ⟨ret_bool (by cases h : (k == 2) <;> simp_all [seedB]), rfl⟩
end
end Go.Proofs.YtjajlddnhmbekaaGreat
