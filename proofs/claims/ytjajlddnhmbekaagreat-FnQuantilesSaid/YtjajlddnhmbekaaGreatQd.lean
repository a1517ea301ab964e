/-
  A seed that is drawn by bytes is valid: the walks of l02DrawOk and B10Seed.
-/
import Derived.Test.YtjajlddnhmbekaaGreatDrawn2
import Derived.Test.YtjajlddnhmbekaaGreatSeedK
import Derived.Deep.RegionHeld3
namespace Go.Proofs.YtjajlddnhmbekaaGreat
open Go.RowKit

set_option maxHeartbeats 1600000 in
theorem l00PickBig_any (s : Nat) (cv : Value) (code : List (Fin 256)) (k : Nat) (sd : Int) (hn : code.length ≤ 1099511627776) (hk : k ≤ 1000) (w : World) (hb : BoxAt w s (srcV cv k sd)) (hr : ∀ W, Below s w W → Rd yV W cv code) :
    Calls Tryz.prog 50 #[.pointer (some ⟨s, 0, none⟩), .int .i64 1000000] w fun e w' => ∃ (x : Nat) (sd' : Int), e = .returned (.int .i64 x) ∧ x < 65536 ∧ BoxAt w' s (srcV cv (k + 2) sd') ∧ Touch s (s + 1) w w' := by
  have HR := Lib.hid hr
  have HN := Lib.hid (l00Next_any s cv code k sd hn (by omega) w hb (hr w (Below.refl _ _)))
  have hlt := hb.lt
  clear hb hr
  go_enter Tryz.func50, Tryz.ntmps50
  go_wp2_with fail
  refine HN.out.mono ?_
  rintro e w1 ⟨x, sd', rfl, hx, hB, hT⟩
  have HT := Lib.hid hT
  have HR1 := HR.out w1 (hT.below (Nat.le_refl _) (by omega))
  clear hT
  go_wp2_with fail
  refine (l00Next_any s cv code (k + 1) sd' hn (by omega) w1 hB HR1).mono ?_
  rintro e w2 ⟨y, sd2, rfl, hy, hB2, hT2⟩
  go_wp2
  go_ret
  exact ⟨x * 256 + y, sd2, ret_int (by omega), by omega, hB2, HT.out.trans hT2⟩
/-! ### mixed numbers -/
theorem bxor_nat (a b : Nat) (ha : a < 2 ^ 64) (hb : b < 2 ^ 64) : bits .xor .u64 (a : Int) (b : Int) = ((a ^^^ b : Nat) : Int) := by
  have e : bits .xor .u64 (a : Int) (b : Int) = IntKind.u64.wrap (((BitVec.ofInt 64 (a : Int) ^^^ BitVec.ofInt 64 (b : Int)).toNat : Nat) : Int) := rfl
  rw [e, BitVec.toNat_xor]
  have h1 : (BitVec.ofInt 64 (a : Int)).toNat = a := by
    rw [BitVec.toNat_ofInt]; omega
  have h2 : (BitVec.ofInt 64 (b : Int)).toNat = b := by
    rw [BitVec.toNat_ofInt]; omega
  rw [h1, h2]
  have h3 : a ^^^ b < 2 ^ 64 := Nat.xor_lt_two_pow ha hb
  generalize a ^^^ b = n at *
  unfold IntKind.wrap
  simp [IntKind.bits, IntKind.signed]
  omega
theorem bor_odd (x : Int) : bits .or .u64 x 1 % 2 = 1 ∧ 0 ≤ bits .or .u64 x 1 := by
  have e : bits .or .u64 x 1 = IntKind.u64.wrap (((BitVec.ofInt 64 x ||| BitVec.ofInt 64 1).toNat : Nat) : Int) := rfl
  rw [e, BitVec.toNat_or]
  have h1 : (BitVec.ofInt 64 (1 : Int)).toNat = 1 := by decide
  have h2 := (BitVec.ofInt 64 x).isLt
  rw [h1]
  generalize (BitVec.ofInt 64 x).toNat = a at *
  have h3 : a ||| 1 < 2 ^ 64 := Nat.or_lt_two_pow h2 (by decide)
  have h4 : (a ||| 1) % 2 = 1 := by
    rw [Nat.mod_two_eq_one_iff_testBit_zero, Nat.testBit_or]
    simp
  generalize a ||| 1 = n at *
  unfold IntKind.wrap
  simp [IntKind.bits, IntKind.signed]
  omega
theorem wrap_nat (n : Int) (_h0 : 0 ≤ n) : IntKind.u64.wrap n = n % 18446744073709551616 := by
  unfold IntKind.wrap
  simp [IntKind.bits, IntKind.signed]
theorem xor_half_ne {a : Nat} (ha : a < 2 ^ 64) (h0 : a ≠ 0) (d : Nat) (hd : 2 ≤ d) : a ^^^ (a / d) ≠ 0 ∧ a ^^^ (a / d) < 2 ^ 64 := by
  have h1 : a / d < a := Nat.div_lt_self (by omega) hd
  refine ⟨fun h => ?_, Nat.xor_lt_two_pow ha (by omega)⟩
  have : a = a / d := by
    have h2 : a ^^^ (a ^^^ a / d) = a ^^^ 0 := by rw [h]
    rw [← Nat.xor_assoc, Nat.xor_self, Nat.zero_xor, Nat.xor_zero] at h2
    exact h2.symm
  omega
theorem mul_odd_ne {t C D : Nat} (hC : C * D % 18446744073709551616 = 1) (h0 : t ≠ 0) (ht : t < 18446744073709551616) : t * C % 18446744073709551616 ≠ 0 := by
  intro h
  have h1 : t * C * D % 18446744073709551616 = 0 := by rw [Nat.mul_mod, h, Nat.zero_mul, Nat.zero_mod]
  rw [Nat.mul_assoc, Nat.mul_mod, hC, Nat.mul_one, Nat.mod_mod, Nat.mod_eq_of_lt ht] at h1
  exact h0 h1
theorem wrap_mul (t C : Nat) : IntKind.u64.wrap ((t : Int) * (C : Int)) = ((t * C % 18446744073709551616 : Nat) : Int) := by
  rw [← Int.natCast_mul, wrap_nat _ (Int.natCast_nonneg _)]
  exact (Int.natCast_emod _ _).symm
theorem mix_ne {z : Nat} (h1 : 1 ≤ z) (h2 : z < 1073741824) : mixZ (z : Int) ≠ 0 ∧ 0 ≤ mixZ (z : Int) := by
  have M : ∀ n : Nat, n % 18446744073709551616 < 2 ^ 64 := fun n => Nat.mod_lt _ (by decide)
  obtain ⟨g1, g2⟩ := xor_half_ne (a := z) (by omega) (by omega) 1073741824 (by omega)
  have eU : mixU (z : Int) = (((z ^^^ (z / 1073741824)) * 13787848793156543929 % 18446744073709551616 : Nat) : Int) := by
    unfold mixU
    rw [show (z : Int) / 1073741824 = ((z / 1073741824 : Nat) : Int) from rfl, bxor_nat _ _ (by omega) (by omega)]
    exact wrap_mul _ _
  have u0 := mul_odd_ne (t := z ^^^ (z / 1073741824)) (C := 13787848793156543929) (D := 10871156337175269513) (by decide) g1 g2
  have ul := M ((z ^^^ (z / 1073741824)) * 13787848793156543929)
  generalize (z ^^^ (z / 1073741824)) * 13787848793156543929 % 18446744073709551616 = u at *
  obtain ⟨k1, k2⟩ := xor_half_ne ul u0 134217728 (by decide)
  have hu2 : u / 134217728 < 2 ^ 64 := Nat.lt_of_le_of_lt (Nat.div_le_self _ _) ul
  have eV : mixV (z : Int) = (((u ^^^ (u / 134217728)) * 10723151780598845931 % 18446744073709551616 : Nat) : Int) := by
    unfold mixV
    rw [eU, show (u : Int) / 134217728 = ((u / 134217728 : Nat) : Int) from rfl, bxor_nat _ _ ul hu2]
    exact wrap_mul _ _
  have v0 := mul_odd_ne (t := u ^^^ (u / 134217728)) (C := 10723151780598845931) (D := 3573116690164977347) (by decide) k1 k2
  have vl := M ((u ^^^ (u / 134217728)) * 10723151780598845931)
  generalize (u ^^^ (u / 134217728)) * 10723151780598845931 % 18446744073709551616 = v at *
  obtain ⟨m1, m2⟩ := xor_half_ne vl v0 2147483648 (by decide)
  have hv2 : v / 2147483648 < 2 ^ 64 := Nat.lt_of_le_of_lt (Nat.div_le_self _ _) vl
  unfold mixZ
  rw [eV, show (v : Int) / 2147483648 = ((v / 2147483648 : Nat) : Int) from rfl, bxor_nat _ _ vl hv2]
  exact ⟨fun h => m1 (Int.ofNat_eq_zero.1 h), Int.natCast_nonneg _⟩
theorem seed_ok {k a b : Int} (k0 : 0 ≤ k) (k4 : k < 4) (ha : a ≠ 0) (hb : b % 2 = 1) : seedB k a b = true := by
  unfold seedB
  have h1 : (b % 2 == 1) = true := by rw [beq_iff_eq]; exact hb
  have h2 : (a != 0) = true := by rw [bne_iff_ne]; exact ha
  rw [h1, h2]
  have : k = 0 ∨ k = 1 ∨ k = 2 ∨ k = 3 := by omega
  rcases this with rfl | rfl | rfl | rfl <;> rfl
set_option maxHeartbeats 1600000 in
theorem l02DrawOk_any (s : Nat) (cv : Value) (code : List (Fin 256)) (hn : code.length ≤ 1099511627776) (w : World) (hb : BoxAt w s (srcV cv 0 0)) (hr : ∀ W, Below s w W → Rd yV W cv code) :
    Calls Tryz.prog 38 #[.pointer (some ⟨s, 0, none⟩)] w fun e w' => ∃ k a b : Int, e = .returned (sdV k a b) ∧ seedB k a b = true ∧ 0 ≤ b ∧ Touch s (s + 1) w w' := by
  have HR := Lib.hid hr
  have hlt := hb.lt
  clear hr
  go_enter Tryz.func38, Tryz.ntmps38
  go_wp2_with fail
  have hb1 : Below w.heap.size w (w.alloc (.cells #[.int .i64 0, u64V 0, u64V 0] 40)) := below_alloc _ _
  have BR : BoxAt (w.alloc (.cells #[.int .i64 0, u64V 0, u64V 0] 40)) w.heap.size [.int .i64 0, u64V 0, u64V 0] := BoxAt.new w _ _
  have hz1 : w.heap.size + 1 ≤ (w.alloc (.cells #[.int .i64 0, u64V 0, u64V 0] 40)).heap.size := by simp
  generalize w.alloc (.cells #[.int .i64 0, u64V 0, u64V 0] 40) = w1 at *
  refine (l00Pick_any s cv code 0 0 4 (by omega) (by omega) hn (by omega) w1 (hb.below hb1) (HR.out _ (hb1.mono (by omega)))).mono ?_
  rintro e w2 ⟨x, sd, rfl, hx, HB2, hT2⟩
  have BR2 := BR.touch hT2 (.inr (by omega))
  have hz2 := Nat.le_trans hz1 hT2.size
  have HT2 : Touch s (s + 1) w w2 := (Touch.of_below hb1).trans hT2
  clear hb1 BR hb hT2 hz1
  go_wp2_with fail
  have hA := below_alloc w2 (.cells #[.int .i64 x, u64V 0, u64V 0] 40)
  have BS : BoxAt (w2.alloc (.cells #[.int .i64 x, u64V 0, u64V 0] 40)) w2.heap.size [.int .i64 x, u64V 0, u64V 0] := BoxAt.new w2 _ _
  have hs2 : s < w2.heap.size := by omega
  have HB3 := HB2.below hA
  have BR3 := BR2.below hA
  have HT3 := touch_below HT2 hA (by omega)
  have hz3 : w2.heap.size + 1 ≤ (w2.alloc (.cells #[.int .i64 x, u64V 0, u64V 0] 40)).heap.size := by simp
  obtain ⟨S, hS⟩ : ∃ S, S = w2.heap.size := ⟨_, rfl⟩
  rw [← hS] at BS hz3 hs2 hz2 ⊢
  generalize w2.alloc (.cells #[.int .i64 x, u64V 0, u64V 0] 40) = w3 at *
  clear hS hA HB2 BR2 HT2
  refine (l00PickBig_any s cv code 1 sd hn (by omega) w3 HB3 (fun W hW => HR.out W ((HT3.below (Nat.le_refl _) (by omega)).trans hW))).mono ?_
  rintro e w4 ⟨a, sd4, rfl, ha, HB4, hT4⟩
  have BR4 := BR3.touch hT4 (.inr (by omega))
  have BS4 := BS.touch hT4 (.inr (by omega))
  have HT4 := HT3.trans hT4
  have hz4 := Nat.le_trans hz3 hT4.size
  clear HB3 BR3 HT3 BS hT4 hz3
  go_wp2_with fail
  refine (l02Mix_any _ _).mono ?_
  rintro e w5 ⟨rfl, rfl⟩
  have hA := (mix_ne (z := a + 1) (by omega) (by omega)).1
  rw [show ((a + 1 : Nat) : Int) = (a : Int) + 1 from rfl] at hA
  have HA := Lib.hid hA
  clear hA
  obtain ⟨A, eA⟩ : ∃ A, A = mixZ ((a : Int) + 1) := ⟨_, rfl⟩
  rw [← eA] at HA ⊢
  clear eA
  have d0 := BS4.cell 0 _ rfl
  have d1 := BS4.cell 1 _ rfl
  have d2 := BS4.cell 2 _ rfl
  have f1 := BS4.free 1
  have lS := BS4.lt
  go_wp2_with fail
  generalize hW : World.setCell w4 _ _ = W5
  obtain ⟨BS5, BR5, HB5, HT5, hz5⟩ : BoxAt W5 S [.int .i64 x, u64V A, u64V 0] ∧ BoxAt W5 w.heap.size [.int .i64 0, u64V 0, u64V 0] ∧ BoxAt W5 s (srcV cv (1 + 2) sd4) ∧ Touch s (s + 1) w W5 ∧ S + 1 ≤ W5.heap.size := by
    rw [← hW]
    exact ⟨BS4.set (i := 1) rfl _, BR4.other (p := ⟨S, 1, none⟩) (by dsimp only; omega) _, HB4.other (p := ⟨S, 1, none⟩) (by dsimp only; omega) _, touch_below HT4 ((Below.refl w.heap.size w4).setCell (p := ⟨S, 1, none⟩) (by dsimp only; omega) _) (Nat.le_refl _), by simpa using hz4⟩
  clear hW HB4 BR4 BS4 HT4 hz4 d0 d1 d2 f1 lS
  refine (l00PickBig_any s cv code (1 + 2) sd4 hn (by omega) W5 HB5 (fun W hW => HR.out W ((HT5.below (Nat.le_refl _) (by omega)).trans hW))).mono ?_
  rintro e w6 ⟨b, sd6, rfl, hb6, HB6, hT6⟩
  have BR6 := BR5.touch hT6 (.inr (by omega))
  have BS6 := BS5.touch hT6 (.inr (by omega))
  have HT6 := HT5.trans hT6
  have hz6 := Nat.le_trans hz5 hT6.size
  clear HB5 BR5 HT5 BS5 hT6 hz5 HB6
  go_wp2_with fail
  refine (l02Mix_any _ _).mono ?_
  rintro e w7 ⟨rfl, rfl⟩
  have hB := bor_odd (mixZ ((b : Int) + 7))
  have HBo := Lib.hid hB
  clear hB
  have d0 := BS6.cell 0 _ rfl
  have d1 := BS6.cell 1 _ rfl
  have d2 := BS6.cell 2 _ rfl
  have f2 := BS6.free 2
  have lS := BS6.lt
  have r0 := BR6.free 0
  have r1 := BR6.free 1
  have r2 := BR6.free 2
  have lR := BR6.lt
  have c0 := BR6.cell 0 _ rfl
  have c1 := BR6.cell 1 _ rfl
  have c2 := BR6.cell 2 _ rfl
  go_wp2
  refine bodyPost_ret (v := sdV x A (bits .or .u64 (mixZ ((b : Int) + 7)) 1)) (by simp [results, Tryz.results38, go_sem, *]) rfl ?_
  refine ⟨_, _, _, rfl, seed_ok (by omega) (by omega) HA.out HBo.out.1, HBo.out.2, ?_⟩
  exact touch_below HT6 (((((Below.refl w.heap.size w6).setCell (p := ⟨S, 2, none⟩) (by dsimp only; omega) _).setCell (p := ⟨w.heap.size, 0, none⟩) (Nat.le_refl _) _).setCell (p := ⟨w.heap.size, 1, none⟩) (Nat.le_refl _) _).setCell (p := ⟨w.heap.size, 2, none⟩) (Nat.le_refl _) _) (Nat.le_refl _)
set_option maxHeartbeats 1600000 in
theorem b10Seed_any (v : Value) (code : List (Fin 256)) (hn : code.length ≤ 1099511627776) (w : World) (hr : Rd yV w v code) :
    Calls Tryz.prog 14 #[v] w fun e w' => ∃ k a b : Int, e = .returned (sdV k a b) ∧ seedB k a b = true ∧ 0 ≤ b ∧ Below w.heap.size w w' := by
  have HR := Lib.hid hr
  clear hr
  go_enter Tryz.func14, Tryz.ntmps14
  go_wp2_with fail
  have BR : BoxAt (w.alloc (.cells #[.int .i64 0, u64V 0, u64V 0] 40)) w.heap.size [.int .i64 0, u64V 0, u64V 0] := BoxAt.new w _ _
  have hb1 : Below w.heap.size w (w.alloc (.cells #[.int .i64 0, u64V 0, u64V 0] 40)) := below_alloc _ _
  generalize w.alloc (.cells #[.int .i64 0, u64V 0, u64V 0] 40) = w1 at *
  refine (l00From_any v code w1 (HR.out.below hb1)).mono ?_
  rintro e w2 ⟨rfl, HB, hb2, hz2⟩
  have hlt := BR.lt
  have BR2 := BR.below hb2
  have hbT := below_to hb1 hb2 hb1.size
  clear BR hb2
  go_wp2_with fail
  refine (l02DrawOk_any w1.heap.size v code hn w2 HB (fun W hW => HR.out.below (hbT.trans (hW.mono (by omega))))).mono ?_
  rintro e w3 ⟨k, a, b, rfl, hs, hb0, hT⟩
  have BR3 := BR2.touch hT (.inl hlt)
  have hz2' := hbT.size
  have lR := BR2.lt
  have hb3 : Below w.heap.size w w3 := hbT.trans (hT.below (by omega) (by omega))
  have lR := BR3.lt
  have d0 := BR3.cell 0 _ rfl
  have d1 := BR3.cell 1 _ rfl
  have d2 := BR3.cell 2 _ rfl
  have f0 := BR3.free 0
  have f1 := BR3.free 1
  have f2 := BR3.free 2
  have HB3 := Lib.hid hb3
  clear hT hb3 BR2 hbT HB hb1
  go_wp2
  refine bodyPost_ret (v := sdV k a b) (by simp [results, Tryz.results14, go_sem, *]) rfl ?_
  exact ⟨k, a, b, rfl, hs, hb0, ((HB3.out.setCell (p := ⟨w.heap.size, 0, none⟩) (Nat.le_refl _) _).setCell (p := ⟨w.heap.size, 1, none⟩) (Nat.le_refl _) _).setCell (p := ⟨w.heap.size, 2, none⟩) (Nat.le_refl _) _⟩
end Go.Proofs.YtjajlddnhmbekaaGreat
