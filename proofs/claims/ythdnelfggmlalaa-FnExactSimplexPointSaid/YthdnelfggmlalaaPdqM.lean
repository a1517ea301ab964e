/-
  How many digits a number below 256 has, as math/bits tells it.
  slices.nextPowerOfTwo, xorshift.Next, breakPatternsOrdered at float32.
-/
import Derived.Deep.CutRange
import Derived.Lib.Tables
import Derived.Lib.BitFns
import Derived.Test.YthdnelfggmlalaaPdqB
import Derived.Test.YthdnelfggmlalaaPdqD
import Derived.StillTailTactics
namespace Go.Proofs.Ythdnelfggmlalaa
section
open Go.RowKit

set_option maxHeartbeats 4000000 in
set_option maxRecDepth 100000 in
theorem len64_any (x : Nat) (hx : x < 256) (w : World) : Calls Try.prog 115 #[.int .u64 x] w fun e w' => e = .returned (.int .i64 (Lib.bitLen x : Nat)) ∧ w = w' := by
  have h1 : ¬ ((x : Int) ≥ 4294967296) := by omega
  have h2 : ¬ ((x : Int) ≥ 65536) := by omega
  have h3 : ¬ ((x : Int) ≥ 256) := by omega
  have hb : (Lib.bitLen x : Int) ≤ 8 := by have := Lib.bitLen_le8' (x : Int) (by omega) (by omega); rw [Int.toNat_natCast] at this; omega
  have hb0 : (0 : Int) ≤ (Lib.bitLen x : Int) := by omega
  have hb2 : IntKind.i64.wrap (Lib.bitLen x : Int) = (Lib.bitLen x : Int) := IntWalk.i64_in _ (by omega)
  have hi : ∀ C : ByteArray, Lib.len8tab = C → ∃ h : x < C.size, ((C[x]'h).toNat : Int) = Lib.bitLen x := by
    intro C hC
    subst hC
    have h : x < Lib.len8tab.size := by rw [Lib.len8tab_size]; exact hx
    refine ⟨h, ?_⟩
    have h2 := Lib.len8_of (x : Int) (by omega) (by omega)
    unfold Lib.len8 at h2
    rw [Int.toNat_natCast, getElem?_pos Lib.len8tab x h] at h2
    exact h2
  refine calls_of_wp Try.func115 rfl ?_
  generalize hC : ByteArray.mk _ = C
  obtain ⟨hsz, hget⟩ := hi C hC
  have HG := Lib.hid hget
  clear hC hi hget hb hb0 hb2
  simp only [Try.ntmps115, List.size_toArray, List.length_cons, List.length_nil, Nat.reduceAdd, Nat.reduceSub, Array.replicate_succ, Array.replicate_zero, List.push_toArray, List.append_toArray, List.nil_append, List.cons_append]
  go_wp2
  go_ret
  refine ⟨ret_int ?_, rfl⟩
  rw [HG.out]
  have hb : (Lib.bitLen x : Int) ≤ 8 := by have := Lib.bitLen_le8' (x : Int) (by omega) (by omega); rw [Int.toNat_natCast] at this; omega
  have hb2 : wrap64 (Lib.bitLen x : Int) = (Lib.bitLen x : Int) := by simp only [wrap64]; omega
  rw [hb2, hb2]
theorem len_any (x : Nat) (hx : x < 256) (w : World) : Calls Try.prog 80 #[.int .u64 x] w fun e w' => e = .returned (.int .i64 (Lib.bitLen x : Nat)) ∧ w = w' := by
  have HC := Lib.hid (len64_any x hx)
  go_enter Try.func80, Try.ntmps80
  go_wp2_with (go_at_call 115; refine (HC.out _).mono ?_; rintro e w' ⟨rfl, rfl⟩)
  go_ret
  exact ⟨rfl, rfl⟩
theorem bitLen_tab : ∀ x : Fin 256, 1 ≤ x.val → 1 ≤ Lib.bitLen x.val ∧ Lib.bitLen x.val ≤ 8 ∧ x.val < 2 ^ Lib.bitLen x.val ∧ 2 ^ Lib.bitLen x.val ≤ 2 * x.val := by decide +kernel
end

section
open Go.RowKit
attribute [local go_sem] run_store_float

theorem nextPow_any (L : Nat) (h1 : 1 ≤ L) (hL : L < 256) (w : World) : Calls Try.prog 125 #[.int .i64 L] w fun e w' => ∃ M : Nat, e = .returned (.int .u64 M) ∧ 1 ≤ M ∧ M ≤ 2 * L ∧ w = w' := by
  obtain ⟨k1, k2, k3, k4⟩ := bitLen_tab ⟨L, hL⟩ h1
  simp only [] at k1 k2 k3 k4
  have HC := Lib.hid (len_any L hL)
  obtain ⟨K, hK⟩ : ∃ K, K = Lib.bitLen L := ⟨_, rfl⟩
  rw [← hK] at k1 k2 k3 k4 HC
  clear hK
  have hw : IntKind.u64.wrap (L : Int) = (L : Int) := by show (L : Int) % 18446744073709551616 = L; omega
  have hK : K = 1 ∨ K = 2 ∨ K = 3 ∨ K = 4 ∨ K = 5 ∨ K = 6 ∨ K = 7 ∨ K = 8 := by omega
  clear k3 k1 k2
  rcases hK with rfl | rfl | rfl | rfl | rfl | rfl | rfl | rfl
  all_goals
    simp only [Nat.reducePow] at k4
    go_enter Try.func125, Try.ntmps125
    go_wp2_with (go_at_call 80; refine (HC.out _).mono ?_; rintro e w' ⟨rfl, rfl⟩)
    go_ret
  · exact ⟨2, rfl, by omega, by omega, rfl⟩
  · exact ⟨4, rfl, by omega, by omega, rfl⟩
  · exact ⟨8, rfl, by omega, by omega, rfl⟩
  · exact ⟨16, rfl, by omega, by omega, rfl⟩
  · exact ⟨32, rfl, by omega, by omega, rfl⟩
  · exact ⟨64, rfl, by omega, by omega, rfl⟩
  · exact ⟨128, rfl, by omega, by omega, rfl⟩
  · exact ⟨256, rfl, by omega, by omega, rfl⟩

/-- A number of 64 bits in a block. -/
def U64At (w : World) (q : Nat) : Prop := ∃ r : Int, BoxAt w q [.int .u64 r]
theorem U64At.set {w : World} {q : Nat} {r : Int} (h : BoxAt w q [.int .u64 r]) (s : Int) : BoxAt ((w.setCell ⟨q, 0, none⟩ (.int .u64 s)).drew) q [.int .u64 s] := by
  have := h.set (i := 0) rfl (.int .u64 s)
  exact ⟨this.lt, this.cell, this.free⟩
theorem touch_one (w : World) (q : Nat) (u : Value) : Touch q (q + 1) w ((w.setCell ⟨q, 0, none⟩ u).drew) :=
  (Touch.setCell w ⟨q, 0, none⟩ u).trans (touch_drewN (touch_refl _ _ _) 1)
def NextE (q : Nat) (w : World) (e : Ending) (w' : World) : Prop := ∃ r : Int, e = .returned (.int .u64 r) ∧ U64At w' q ∧ Touch q (q + 1) w w'
set_option maxRecDepth 100000 in
theorem xorNext_any (q : Nat) (w : World) (hB : U64At w q) : Calls Try.prog 126 #[.pointer (some ⟨q, 0, none⟩)] w (NextE q w) := by
  obtain ⟨r0, B⟩ := hB
  have HB0 := Lib.hid B
  have c0 := B.cell 0 _ rfl
  have f0 := B.free 0
  clear B
  go_enter Try.func126, Try.ntmps126
  go_wp2_with fail
  go_region
  obtain ⟨r1, h1⟩ : ∃ r1, r1 = bits .xor .u64 r0 (IntKind.u64.wrap (r0 * 8192)) := ⟨_, rfl⟩
  rw [← h1]
  have HB1 := Lib.hid (U64At.set HB0.out r1)
  have HT1 := Lib.hid (touch_one w q (.int .u64 r1))
  generalize (w.setCell ⟨q, 0, none⟩ (.int .u64 r1)).drew = w1 at HB1 HT1 ⊢
  clear h1 HB0 c0 f0
  have c0 := HB1.out.cell 0 _ rfl
  have f0 := HB1.out.free 0
  go_wp2_with fail
  go_region
  obtain ⟨r2, h2⟩ : ∃ r2, r2 = bits .xor .u64 r1 (r1 / 128) := ⟨_, rfl⟩
  rw [← h2]
  have HB2 := Lib.hid (U64At.set HB1.out r2)
  have HT2 := Lib.hid (HT1.out.trans (touch_one w1 q (.int .u64 r2)))
  generalize (w1.setCell ⟨q, 0, none⟩ (.int .u64 r2)).drew = w2 at HB2 HT2 ⊢
  clear h2 HB1 HT1 c0 f0
  have c0 := HB2.out.cell 0 _ rfl
  have f0 := HB2.out.free 0
  go_wp2_with fail
  go_region
  obtain ⟨r3, h3⟩ : ∃ r3, r3 = bits .xor .u64 r2 (IntKind.u64.wrap (r2 * 131072)) := ⟨_, rfl⟩
  rw [← h3]
  have HB3 := Lib.hid (U64At.set HB2.out r3)
  have HT3 := Lib.hid (HT2.out.trans (touch_one w2 q (.int .u64 r3)))
  generalize (w2.setCell ⟨q, 0, none⟩ (.int .u64 r3)).drew = w3 at HB3 HT3 ⊢
  clear h3 HB2 HT2 c0 f0
  have c0 := HB3.out.cell 0 _ rfl
  go_wp2
  go_ret
  exact ⟨r3, rfl, ⟨r3, HB3.out⟩, HT3.out⟩
theorem touch_new {lo hi q : Nat} {w wr w2 : World} (h : Touch lo hi w wr) (k : Touch q (q + 1) wr w2) (hq : w.heap.size ≤ q) : Touch lo hi w w2 :=
  ⟨k.os.trans h.os, k.tape.trans h.tape, k.output.trans h.output, Nat.le_trans h.size k.size, fun i hi hr => (k.block i (Nat.lt_of_lt_of_le hi h.size) (.inl (by omega))).trans (h.block i hi hr)⟩
theorem and_low (r : Int) (M : Nat) (h1 : 1 ≤ M) (hM : M ≤ 1000) : ∃ o : Nat, bits .and .u64 r ((M : Int) - 1) = (o : Int) ∧ o < M := by
  refine ⟨(BitVec.ofInt 64 r &&& BitVec.ofInt 64 ((M : Int) - 1)).toNat, ?_, ?_⟩
  · show IntKind.u64.wrap (((BitVec.ofInt 64 r &&& BitVec.ofInt 64 ((M : Int) - 1)).toNat : Nat) : Int) = _
    have h := (BitVec.ofInt 64 r &&& BitVec.ofInt 64 ((M : Int) - 1)).isLt
    generalize (BitVec.ofInt 64 r &&& BitVec.ofInt 64 ((M : Int) - 1)).toNat = n at h
    show (n : Int) % 18446744073709551616 = n
    omega
  · rw [BitVec.toNat_and]
    have h := Nat.and_le_right (n := (BitVec.ofInt 64 r).toNat) (m := (BitVec.ofInt 64 ((M : Int) - 1)).toNat)
    have h2 : (BitVec.ofInt 64 ((M : Int) - 1)).toNat = M - 1 := by
      rw [BitVec.toNat_ofInt]
      show (((M : Int) - 1) % 18446744073709551616).toNat = M - 1
      omega
    omega

set_option maxHeartbeats 3200000 in
set_option maxRecDepth 100000 in
theorem brk_any (g n c a b : Nat) (xs : List Nat) (hab : a + 12 < b) (hb : b ≤ n) (hn : n ≤ 200) (w : World) (hr : RowF w g n c xs) :
    Calls Try.prog 107 #[.slice (some ⟨g, 0, none⟩) n c, .int .i64 a, .int .i64 b] w (MoveE g n c a b xs w) := by
  have HL := Lib.hid hr.len
  have hgl := hr.lt
  obtain ⟨L, hL⟩ : ∃ L, L = b - a := ⟨_, rfl⟩
  obtain ⟨Q, hQ⟩ : ∃ Q, Q = L / 4 := ⟨_, rfl⟩
  obtain ⟨J, hJ⟩ : ∃ J, J = a + Q * 2 - 1 := ⟨_, rfl⟩
  have hL1 : (b : Int) - (a : Int) = (L : Int) := by omega
  have hL8 : (L : Int) ≥ 8 := by omega
  have hLa : a + L = b := by omega
  have hQ4 : (L : Int) / 4 = (Q : Int) := by omega
  have hJ1 : (a : Int) + (Q : Int) * 2 - 1 = (J : Int) := by omega
  have hJ2 : (a : Int) + (Q : Int) * 2 + 1 = (J : Int) + 2 := by omega
  have hJ3 : a ≤ J ∧ J + 2 < b := by omega
  have hLw : IntKind.u64.wrap (L : Int) = (L : Int) := by show (L : Int) % 18446744073709551616 = L; omega
  have HNP := Lib.hid (nextPow_any L (by omega) (by omega))
  clear hL hQ hJ
  obtain ⟨w0, hw0⟩ : ∃ w0, w0 = w.alloc (.cells #[.int .u64 L] 128) := ⟨_, rfl⟩
  have hb0 := below_alloc w (.cells #[.int .u64 L] 128)
  have HB0 : Hid (U64At (w.alloc (.cells #[.int .u64 L] 128)) w.heap.size) := ⟨L, BoxAt.new w [.int .u64 L] 128⟩
  have HR0 := Lib.hid (hr.below hb0 hgl)
  have HT0 : Hid (Touch g (g + 1) w (w.alloc (.cells #[.int .u64 L] 128))) := Touch.of_below hb0
  have hq0 : w.heap.size < (w.alloc (.cells #[.int .u64 L] 128)).heap.size := by rw [size_alloc]; omega
  rw [← hw0] at HB0 HR0 HT0 hq0
  obtain ⟨q, hq⟩ : ∃ q, q = w.heap.size := ⟨_, rfl⟩
  have hgq : g < q := by omega
  have hwq : w.heap.size ≤ q := by omega
  have HW0 := Lib.hid hw0
  clear hr hb0 hw0
  go_enter Try.func107, Try.ntmps107
  go_wp2_with fail
  rw [← HW0.out]
  rw [← hq] at HB0 hq0 ⊢
  clear HW0 hq
  refine (HNP.out _).mono ?_
  rintro e w1 ⟨M, rfl, hM1, hM2, rfl⟩
  go_wp2_with fail
  go_loopw [9] (fun si wr => ∃ (i : Nat) (ys : List Nat), si = .int .i64 i ∧ J ≤ i ∧ i ≤ J + 3 ∧ Hid (PR a b xs ys) ∧ U64At wr q ∧ RowF wr g n c ys ∧ Touch g (g + 1) w wr ∧ q < wr.heap.size) (fun si _ => J + 3 - (intOf si).toNat)
  case atStart => exact ⟨J, xs, rfl, Nat.le_refl _, by omega, PR.refl _ _ _, HB0.out, HR0.out, HT0.out, hq0⟩
  case round =>
    clear HB0 HR0 HT0 hq0
    obtain ⟨i, ys, rfl, hi1, hi2, hp, hU, hR, hTo, hqw⟩ := hrel
    have HRY := Lib.hid hR
    by_cases hlt : i ≤ J + 2
    case neg =>
      have hz : ¬ ((i : Int) ≤ (J : Int) + 2) := by omega
      clear hR hU
      go_wp2
      refine bodyPost_ret (results_none rfl _ _ _) rfl ?_
      exact ⟨rfl, ys, HRY.out, hp.out, hTo⟩
    have hz : (i : Int) ≤ (J : Int) + 2 := by omega
    have HC := Lib.hid (xorNext_any q wr hU)
    clear hR hU
    go_upto_region 8 with (go_at_call 126; refine HC.out.mono ?_; rintro e w2 ⟨r, rfl, hU, hT2⟩)
    obtain ⟨o, ho, hoM⟩ := and_low r M hM1 (by omega)
    have hwo : wrap64 (o : Int) = (o : Int) := by simp only [wrap64]; omega
    rw [ho, hwo]
    clear ho hwo HC
    go_upto_if 43 with fail
    go_cut [10] from 26 to 64 (fun s wx => ∃ o2 : Nat, s = .int .i64 o2 ∧ o2 < L ∧ wx = w2)
    case first =>
      by_cases hge : L ≤ o
      · have hz2 : (o : Int) ≥ (L : Int) := by omega
        go_wp2_with fail
        go_meet
        case rel => exact ⟨o - L, by rw [show ((o - L : Nat) : Int) = (o : Int) - (L : Int) by omega] <;> rfl, by omega, rfl⟩
      · have hz2 : ¬ ((o : Int) ≥ (L : Int)) := by omega
        go_wp2_with fail
        go_meet
        case rel => exact ⟨o, rfl, by omega, rfl⟩
    obtain ⟨o2, rfl, ho2, rfl⟩ := hcut
    obtain ⟨w3, hwc⟩ : ∃ W, W = wc := ⟨_, rfl⟩
    subst hwc
    have hR := HRY.out.touch hT2 (by omega)
    have hzl := hp.out.len.trans HL.out
    obtain ⟨x, hx⟩ := get_ex (xs := ys) (i := i) (by omega)
    obtain ⟨y, hy⟩ := get_ex (xs := ys) (i := a + o2) (by omega)
    have c1 : w3.cell? ⟨g, i, none⟩ = some (fV x) := hR.at hx
    have c2 : w3.cell? ⟨g, a + o2, none⟩ = some (fV y) := hR.at hy
    have f1 := hR.free i
    have f2 := hR.free (a + o2)
    have c3 : (w3.setCell ⟨g, i, none⟩ (fV y)).cell? ⟨g, a + o2, none⟩ = some (fV y) := swap_cell_any hR hx hy
    have z0 : (0 : Int) ≤ (a : Int) + (o2 : Int) := by omega
    have z1 : (a : Int) + (o2 : Int) < (n : Int) := by omega
    have z2 : ((a : Int) + (o2 : Int)).toNat = a + o2 := by omega
    have z3 : (0 : Int) ≤ (i : Int) := by omega
    have z4 : (i : Int) < (n : Int) := by omega
    have HS := Lib.hid (hR.sw i (a + o2) x y).drew
    have HP2 := Lib.hid (hp.out.trans (PR.sw (a := a) (b := b) hx hy (by omega) (by omega) (by omega) (by omega)))
    have HT3 : Hid (Touch g (g + 1) w ((w3.setCell ⟨g, i, none⟩ (fV y)).setCell ⟨g, a + o2, none⟩ (fV x)).drew) := (touch_new hTo hT2 hwq).trans ((touch_swap w3 g i (a + o2) (fV y) (fV x)).trans (touch_drewN (touch_refl _ _ _) 1))
    have HU3 : Hid (U64At ((w3.setCell ⟨g, i, none⟩ (fV y)).setCell ⟨g, a + o2, none⟩ (fV x)).drew q) := by
      obtain ⟨r, B⟩ := hU
      have B2 := (B.other (p := ⟨g, i, none⟩) (by show g ≠ q; omega) (fV y)).other (p := ⟨g, a + o2, none⟩) (by show g ≠ q; omega) (fV x)
      exact ⟨r, B2.lt, B2.cell, B2.free⟩
    have hqs : q < ((w3.setCell ⟨g, i, none⟩ (fV y)).setCell ⟨g, a + o2, none⟩ (fV x)).drew.heap.size := by obtain ⟨r, B⟩ := HU3.out; exact B.lt
    have HQS := Lib.hid hqs
    clear hR hzl hx hy hT2 hU hTo hqw hqs
    go_wp2_with fail
    go_region
    go_wp2_with fail
    go_roundw
    case rel => exact ⟨i + 1, _, by go_num, by omega, by omega, HP2, HU3.out, HS.out, HT3.out, HQS.out⟩
    case measure => simp [intOf]; omega
end
end Go.Proofs.Ythdnelfggmlalaa
