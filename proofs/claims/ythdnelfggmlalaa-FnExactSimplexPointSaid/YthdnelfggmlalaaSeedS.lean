/-
  The next share of a seed; valid seeds.
-/
import Derived.Test.YthdnelfggmlalaaSeedN
import Derived.Test.YthdnelfggmlalaaValOp
namespace Go.Proofs.Ythdnelfggmlalaa
open Go.RowKit
attribute [local go_sem] run_fl_add run_fl_sub run_fl_mul run_fl_quo run_up_

/-- By 2^24, or times 2^-24. -/
theorem pow24_eq (x : Option Nat) : opF .quo .f32 x (some 1266679808) = opF .mul .f32 x (some 864026624) := by
  cases x with
  | none => rfl
  | some b =>
    have r2 : FloatKind.f32.format.read 1266679808 = .number false 8388608 1 := by decide
    have rh : FloatKind.f32.format.read 864026624 = .number false 8388608 (-47) := by decide
    show ((FloatKind.f32.format.read b).quotient (FloatKind.f32.format.fractionBits + 2) (FloatKind.f32.format.read 1266679808)).map FloatKind.f32.format.write = ((FloatKind.f32.format.read b).product (FloatKind.f32.format.read 864026624)).map FloatKind.f32.format.write
    rw [r2, rh]
    cases e : FloatKind.f32.format.read b with
    | nan s t => rfl
    | infinity s => simp [Ieee.Datum.quotient, Ieee.Datum.product]
    | number s m i =>
      have hm : m < 2 ^ 24 := (read_bound b e).1
      have hf : FloatKind.f32.format.fractionBits = 23 := rfl
      simp only [Ieee.Datum.quotient, Ieee.Datum.product, hf]
      rw [if_neg (by omega)]
      simp only [Option.map_some, Bool.xor_false]
      have hl : m.log2 ≤ 23 := by
        by_cases h0 : m = 0
        · subst h0; decide
        · have := (Nat.log2_lt h0).2 hm
          omega
      have hn : Nat.log2 8388608 = 23 := by decide
      rw [hn]
      obtain ⟨k, hk⟩ : ∃ k, 23 + 2 + 23 - m.log2 = k + 23 := ⟨25 - m.log2, by omega⟩
      rw [hk, Nat.shiftLeft_eq, Nat.pow_add, ← Nat.mul_assoc, show 2 ^ 23 = 8388608 from rfl, Nat.mul_div_cancel _ (by omega), Nat.mul_mod_left]
      simp only [bne_self_eq_false, Bool.toNat_false, Nat.add_zero]
      show some (FloatKind.f32.format.nearest s (2 * (m * 2 ^ k)) _) = some (FloatKind.f32.format.nearest s (m * 8388608) _)
      rw [show 2 * (m * 2 ^ k) = m * 2 ^ (k + 1) by rw [Nat.pow_succ]; ac_rfl, nearest_shift, show m * 8388608 = m * 2 ^ 23 from rfl, nearest_shift]
      congr 2
      omega
/-- What a seed's share stands for. -/
def shareU (k a b : Int) : Option Nat := opF .mul .f32 (absF .f32 (floatOfInt .f32 (nextW k a b / 4294967296 / 256))) (some 864026624)
theorem lit_m24 : absF .f32 864026624 = some 864026624 := absF_of (by decide)
theorem lit_p24 : absF .f32 1266679808 = some 1266679808 := absF_of (by decide)

theorem share_any (k a b : Int) (w : World) : Calls Try.prog 46 #[sdV k a b] w fun e w' => ∃ u, e = .returned (.tuple #[sdV k (nextA k a b) (nextB k a b), fV u]) ∧ absF .f32 u = shareU k a b ∧ Below w.heap.size w w' := by
  have hh := half_word k a b
  go_enter Try.func46, Try.ntmps46
  go_wp2_with fail
  have hT : Below w.heap.size w ((w.alloc (.cells ([.int .i64 k, u64V a, u64V b] : List Value).toArray 25)).alloc (.cells ([.int .i64 0, u64V 0, u64V 0] : List Value).toArray 25)) := ((Below.refl _ _).alloc (Nat.le_refl _) _).alloc (by simp) _
  have B1 : BoxAt ((w.alloc (.cells ([.int .i64 k, u64V a, u64V b] : List Value).toArray 25)).alloc (.cells ([.int .i64 0, u64V 0, u64V 0] : List Value).toArray 25)) (w.heap.size + 1) [.int .i64 0, u64V 0, u64V 0] := by
    have := BoxAt.new (w.alloc (.cells ([.int .i64 k, u64V a, u64V b] : List Value).toArray 25)) [.int .i64 0, u64V 0, u64V 0] 25
    rwa [size_alloc] at this
  generalize hg : (w.alloc _).alloc _ = W0 at *
  clear hg
  refine (next_any k a b _).mono ?_
  rintro e w1 ⟨rfl, hb⟩
  replace B1 := B1.below hb
  replace hT := below_to hT hb hT.size
  have HT := Lib.hid hT
  have hz := B1.lt
  replace B1 := B1.alloc (.cells ([.int .i64 k, u64V (nextA k a b), u64V (nextB k a b)] : List Value).toArray 25)
  have d0 := B1.cell 0 _ rfl
  have d1 := B1.cell 1 _ rfl
  have d2 := B1.cell 2 _ rfl
  have f0 := B1.free 0
  have f1 := B1.free 1
  have f2 := B1.free 2
  have h1 : wrap64 ((nextW k a b / 4294967296) / 256) = nextW k a b / 4294967296 / 256 := IntWalk.wrap64_in _ (by omega)
  have h2 : Int.tdiv (nextW k a b / 4294967296) 256 = nextW k a b / 4294967296 / 256 := Int.tdiv_eq_ediv_of_nonneg hh.1
  have HH := Lib.hid hh
  generalize hA : nextA k a b = A' at *
  generalize hB : nextB k a b = B' at *
  clear hb hT hh
  go_wp2
  refine bodyPost_ret (v := .tuple #[sdV k A' B', fV (flR .mul .f32 (floatOfInt .f32 (nextW k a b / 4294967296 / 256)) 864026624 (w1.alloc (.cells #[.int .i64 k, u64V A', u64V B'] 25)))]) (by simp [results, Try.results46, go_sem, *]) rfl ⟨_, by rw [hA, hB], ?_, ?_⟩
  · unfold shareU
    rw [abs_flR .mul rfl, lit_m24]
  · exact (((below_drewN_ (HT.out.alloc HT.out.size _)).setCell (by simp) _).setCell (by simp) _).setCell (by simp) _
theorem l02Share_any (g : Nat) (k a b : Int) (w : World) (hB : BoxAt w g [.int .i64 k, u64V a, u64V b]) : Calls Try.prog 42 #[.pointer (some ⟨g, 0, none⟩)] w fun e w' => ∃ u, e = .returned (fV u) ∧ absF .f32 u = shareU k a b ∧ BoxAt w' g [.int .i64 k, u64V (nextA k a b), u64V (nextB k a b)] ∧ Touch g (g + 1) w w' := by
  have hh := half_word k a b
  go_enter Try.func42, Try.ntmps42
  go_wp2_with fail
  refine (l02Next_any g k a b _ hB).mono ?_
  rintro e w1 ⟨rfl, hB1, hT1⟩
  have HB1 := Lib.hid hB1
  clear hB1 hB
  have h1 : IntKind.u32.wrap ((nextW k a b / 4294967296) / 256) = nextW k a b / 4294967296 / 256 := IntWalk.u32_in _ (by omega)
  have h2 : Int.tdiv (nextW k a b / 4294967296) 256 = nextW k a b / 4294967296 / 256 := Int.tdiv_eq_ediv_of_nonneg hh.1
  go_wp2
  go_ret
  refine ⟨_, rfl, ?_, box_drew HB1.out _, touch_drew hT1 _⟩
  unfold shareU
  rw [abs_flR .quo rfl, lit_p24, pow24_eq]
def seedB (k a b : Int) : Bool := if (k == 0) = true then b % 2 == 1 else if (k == 1) = true then a != 0 else if (k == 2) = true then true else if (k == 3) = true then a != 0 || b != 0 else false
theorem validSeed_any (k a b : Int) (hb : 0 ≤ b) (w : World) : Calls Try.prog 44 #[sdV k a b] w fun e w' => e = .returned (.bool (seedB k a b)) ∧ Below w.heap.size w w' := by
  have hT := below_alloc w (.cells #[.int .i64 k, u64V a, u64V b] 25)
  go_enter Try.func44, Try.ntmps44
  go_wp2
  all_goals go_ret
  all_goals exact ⟨ret_bool (by cases h : (k == 2) <;> simp_all [seedB]), by first | exact hT | (subst_vars; exact hT)⟩
theorem l02IsSeed_any (g : Nat) (k a b : Int) (hb : 0 ≤ b) (w : World) (hB : BoxAt w g [.int .i64 k, u64V a, u64V b]) : Calls Try.prog 40 #[.pointer (some ⟨g, 0, none⟩)] w fun e w' => e = .returned (.bool (seedB k a b)) ∧ w = w' := by
  have d0 := hB.cell 0 _ rfl
  have d1 := hB.cell 1 _ rfl
  have d2 := hB.cell 2 _ rfl
  clear hB
  go_enter Try.func40, Try.ntmps40
  go_wp2
  all_goals go_ret
  all_goals exact ⟨ret_bool (by cases h : (k == 2) <;> simp_all [seedB]), rfl⟩
end Go.Proofs.Ythdnelfggmlalaa
