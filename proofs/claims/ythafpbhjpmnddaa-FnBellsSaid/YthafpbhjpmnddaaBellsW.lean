/-
  The walk of FnBells, over what is reckoned of its numbers.
-/
import Derived.Test.YthafpbhjpmnddaaB10
namespace Go.Proofs.Ythafpbhjpmnddaa
open Go.RowKit
attribute [local go_sem] run_neg_fl

def AllBells : Prop := (∀ v u t : Nat, v < 65 → u < 8 → t < 31 → ∃ x q y p A B C T K F s1 s2 g1 g2 g3, BellP v u t x q y p A B C T K F s1 s2 g1 g2 g3) ∧
  (∀ n c : Nat, n < 20 → c < 17 → ∃ ch M V W d e g1 g2 ys, HitP n c ch M V W d e g1 g2 ys) ∧ (∀ r : Nat, r < 9 → ∃ rw O h g zs, RareP r rw O h g zs)
theorem bell_at {x A : Nat} (f : finB x = true) (h : bellA (absF .f32 x) = some A) (w : World) : Calls Try.prog 6 #[fV x] w fun e w' => e = .returned (.tuple #[fV A, .bool true]) ∧ Below w.heap.size w w' := by
  refine (implBellBelow_any x w).mono ?_
  rintro e w' ⟨b, rfl, hb, hB⟩
  rw [if_pos f] at hb
  rw [exact_of hb h, f]
  exact ⟨rfl, hB⟩
theorem bellAt_at {p T : Nat} (f : openB p = true) (h : (bisA (absF .f32 p) 40).1 = some T) (w : World) : Calls Try.prog 7 #[fV p] w fun e w' => e = .returned (.tuple #[fV T, .bool true]) ∧ Below w.heap.size w w' := by
  refine (implBellAt_any p w).mono ?_
  rintro e w' ⟨b, rfl, hb, hB⟩
  rw [if_pos f] at hb
  rw [exact_of hb h, f]
  exact ⟨rfl, hB⟩
/-- A share that is handed back, to the letter. -/
def ShAt (xs ys : List Nat) (w : World) (e : Ending) (w' : World) : Prop := ∃ A0 c0 A1 c1, e = .returned (.tuple #[shV (.slice A0 xs.length c0) (.slice A1 ys.length c1), .bool true]) ∧ Rd fV w' (.slice A0 xs.length c0) xs ∧ Rd fV w' (.slice A1 ys.length c1) ys ∧ Below w.heap.size w w'
theorem shAt_of {ok : Bool} {C : List (Option Nat)} {xs ys : List Nat} {w w' : World} {e : Ending} (h : RetSh ok (absL xs) C w e w') (hx : absL xs = xs.map some) (hok : ok = true) (hC : C = ys.map some) : ShAt xs ys w e w' := by
  subst hok
  obtain ⟨v0, y0, v1, y1, rfl, o0, o1, -, -, -, a0, a1, hb⟩ := h
  rw [if_pos rfl, hx] at a0
  rw [if_pos rfl, hC] at a1
  have e0 := absL_inj a0
  have e1 := absL_inj a1
  subst e0 e1
  obtain ⟨A0, c0, rfl, q0, q1⟩ := o0.rd
  obtain ⟨A1, c1, rfl, q2, q3⟩ := o1.rd
  exact ⟨A0, c0, A1, c1, rfl, ⟨A0, c0, rfl, q0, q1⟩, ⟨A1, c1, rfl, q2, q3⟩, hb⟩
theorem cntL_abs : ∀ n, n ≤ 64 → absL (cntL n) = (cntL n).map some := by decide +kernel
theorem mean_at {s0 s1 : Value} {xs ys : List Nat} {M : Nat} (hl : xs.length ≤ 1099511627776) (hl2 : ys.length ≤ 1099511627776) (h : meanOk xs ys = true) (hv : meanV xs ys = some M) (w : World) (hr0 : Rd fV w s0 xs) (hr1 : Rd fV w s1 ys) :
    Calls Try.prog 10 #[shV s0 s1] w fun e w' => e = .returned (.tuple #[fV M, .bool true]) ∧ Below w.heap.size w w' := by
  refine (implMeanOfShare_any s0 xs s1 ys hl hl2 w hr0 hr1).mono ?_
  rintro e w' ⟨b, rfl, hb, hB⟩
  rw [exact_of hb hv, h]
  exact ⟨rfl, hB⟩
theorem moment_at {s0 s1 : Value} {xs ys : List Nat} {M : Nat} (hl : xs.length ≤ 1099511627776) (hl2 : ys.length ≤ 1099511627776) (h : momOk xs ys 2 = true) (hv : momV xs ys 2 = some M) (w : World) (hr0 : Rd fV w s0 xs) (hr1 : Rd fV w s1 ys) :
    Calls Try.prog 11 #[shV s0 s1, .int .i64 2] w fun e w' => e = .returned (.tuple #[fV M, .bool true]) ∧ Below w.heap.size w w' := by
  refine (implMomentOf_any s0 xs s1 ys hl hl2 2 w hr0 hr1).mono ?_
  rintro e w' ⟨b, rfl, hb, hB⟩
  rw [exact_of hb hv, h]
  exact ⟨rfl, hB⟩

set_option maxHeartbeats 6400000 in
set_option maxRecDepth 100000 in
theorem lawBells_any (HAll : Hid AllBells) (u0 v0 : Value) (xs ys : List (Fin 256)) (w : World) (hr : Rd yV w u0 xs) (hs : Rd yV w v0 ys) :
    Calls Try.prog 3 #[u0, v0] w fun e w' => e = .returned (.bool true) ∧ Below w.heap.size w w' := by
  have HRs := Lib.hid hs
  have HL := Lib.hid (b10Long_any u0 v0 xs ys w hr hs)
  clear hs hr
  cases hL : (decide (1048576 < xs.length) || decide (1048576 < ys.length))
  case true =>
    rw [hL] at HL
    clear hL
    go_enter Try.func3, Try.ntmps3
    go_wp2_with fail
    refine HL.out.mono ?_
    rintro e w' ⟨rfl, rfl⟩
    go_wp2
    go_ret
    exact ⟨rfl, Below.refl _ _⟩
  rw [hL] at HL
  clear hL
  have hat : ∀ (i n : Nat), i ≤ 1000 → 2 ≤ n → n ≤ 1000 → ∀ W, Below w.heap.size w W → Calls Try.prog 5 #[v0, .int .i64 i, .int .i64 n] W fun e w' => e = .returned (.int .i64 ((b10A ys i n : Nat) : Int)) ∧ W = w' := fun i n h1 h2 h3 W hW => b10At_any v0 ys i n h1 h2 h3 W (HRs.out.below hW)
  have A0 := Lib.hid (hat 0 65 (by omega) (by omega) (by omega))
  have A1 := Lib.hid (hat 1 8 (by omega) (by omega) (by omega))
  have A2 := Lib.hid (hat 2 31 (by omega) (by omega) (by omega))
  have A3 := Lib.hid (hat 3 20 (by omega) (by omega) (by omega))
  have A4 := Lib.hid (hat 4 17 (by omega) (by omega) (by omega))
  have A5 := Lib.hid (hat 5 9 (by omega) (by omega) (by omega))
  have l0 := b10A_lt ys 0 (n := 65) (by omega)
  have l1 := b10A_lt ys 1 (n := 8) (by omega)
  have l2 := b10A_lt ys 2 (n := 31) (by omega)
  have l3 := b10A_lt ys 3 (n := 20) (by omega)
  have l4 := b10A_lt ys 4 (n := 17) (by omega)
  have l5 := b10A_lt ys 5 (n := 9) (by omega)
  clear hat
  generalize b10A ys 0 65 = v at A0 l0
  generalize b10A ys 1 8 = u at A1 l1
  generalize b10A ys 2 31 = t at A2 l2
  generalize b10A ys 3 20 = n at A3 l3
  generalize b10A ys 4 17 = c at A4 l4
  generalize b10A ys 5 9 = r at A5 l5
  obtain ⟨x, q, y, p, A, B, C, T, K, F, s1, s2, g1, g2, g3, hP⟩ := HAll.out.1 v u t l0 l1 l2
  obtain ⟨ch, M, V, W, d, ee, e1, e2, us, hH⟩ := HAll.out.2.1 n c l3 l4
  obtain ⟨rw', O, h', gr, zs, hR⟩ := HAll.out.2.2 r l5
  have f1 := fun W => run_float_arith (P := Try.prog) W .quo 24 .f32 _ _ _ hP.hx
  have f2 := fun W => run_float_arith (P := Try.prog) W .quo 24 .f32 _ _ _ hP.hq
  have f3 := fun W => run_float_arith (P := Try.prog) W .add 24 .f32 _ _ _ hP.hy
  have f4 := fun W => run_float_arith (P := Try.prog) W .quo 24 .f32 _ _ _ hP.hp
  have BA := Lib.hid (fun W => bell_at hP.fx hP.hA W)
  have BB := Lib.hid (fun W => bell_at hP.fy hP.hB W)
  have BC := Lib.hid (fun W => bell_at hP.fn hP.hC W)
  have BT := Lib.hid (fun W => bellAt_at hP.op hP.hT W)
  have BK := Lib.hid (fun W => bell_at hP.fT hP.hK W)
  have BF := Lib.hid (fun W => bell_at (x := 0) (by decide) hP.hF W)
  have u1 := fun W => run_up_x hP.nA W
  have u2 := fun W => run_up_x hP.nB W
  have u3 := fun W => run_up_x hP.nC W
  have u4 := fun W => run_up_x hP.nK W
  have u5 := fun W => run_up_x hP.nF W
  have u6 := fun W => run_up_x hP.np W
  have f5 := fun W => run_float_arith (P := Try.prog) W .add 28 .f64 _ _ _ hP.a1
  have f6 := fun W => run_float_arith (P := Try.prog) W .add 28 .f64 _ _ _ hP.a2
  have G1 := Lib.hid (fun W => b10Gap_any hP.d1 W)
  have G2 := Lib.hid (fun W => b10Gap_any hP.d2 W)
  have G3 := Lib.hid (fun W => b10Gap_any hP.d3 W)
  have c1 := hP.c1
  have c2 := hP.c2
  have c3 := hP.c3
  have c4 := hP.c4
  have c5 := hP.c5
  have c6 := hP.c6
  have HH := Lib.hid hH
  have HR := Lib.hid hR
  clear hP hH hR
  go_enter Try.func3, Try.ntmps3
  go_wp2_with fail
  refine HL.out.mono ?_
  rintro e w' ⟨rfl, rfl⟩
  go_wp2_with fail
  refine (A0.out _ (Below.refl _ _)).mono ?_
  rintro e w' ⟨rfl, rfl⟩
  go_wp2_with fail
  refine (A1.out _ (Below.refl _ _)).mono ?_
  rintro e w' ⟨rfl, rfl⟩
  go_wp2_with fail
  refine (BA.out _).mono ?_
  rintro e w1 ⟨rfl, hT⟩
  go_wp2_with fail
  refine (BB.out _).mono ?_
  rintro e w2 ⟨rfl, hb⟩
  replace hT := below_to hT hb hT.size
  clear hb
  go_wp2_with fail
  refine (BC.out _).mono ?_
  rintro e w3 ⟨rfl, hb⟩
  replace hT := below_to hT hb hT.size
  clear hb
  go_wp2_with fail
  refine (A2.out _ hT).mono ?_
  rintro e w' ⟨rfl, rfl⟩
  go_wp2_with fail
  refine (BT.out _).mono ?_
  rintro e w4 ⟨rfl, hb⟩
  replace hT := below_to hT hb hT.size
  clear hb
  go_wp2_with fail
  refine (BK.out _).mono ?_
  rintro e w5 ⟨rfl, hb⟩
  replace hT := below_to hT hb hT.size
  clear hb
  go_wp2_with fail
  refine (BF.out _).mono ?_
  rintro e w6 ⟨rfl, hb⟩
  replace hT := below_to hT hb hT.size
  clear hb
  go_wp2_with fail
  refine (G1.out _).mono ?_
  rintro e w' ⟨rfl, rfl⟩
  go_wp2_with fail
  refine (G2.out _).mono ?_
  rintro e w' ⟨rfl, rfl⟩
  go_wp2_with fail
  refine (G3.out _).mono ?_
  rintro e w' ⟨rfl, rfl⟩
  have X1 := fun W => run_float_arith (P := Try.prog) W .quo 24 .f32 _ _ _ HH.out.hc
  have xus : us.length = n + 1 := by
    have h := congrArg List.length HH.out.row
    rw [List.length_map] at h
    rw [← h]
    unfold hitC
    rw [hitRow_len]
    omega
  have xzs : zs.length = 41 := by
    have h := congrArg List.length HR.out.row
    rw [List.length_map] at h
    rw [← h]
    unfold rareC
    simp [divTo, rareRow_len]
  have XH : Hid (∀ W, Calls Try.prog 9 #[.int .i64 n, fV ch] W (ShAt (cntL (n + 1)) us W)) := fun W => by
    refine (implHitsShare_any n ch W).mono ?_
    intro e w' h
    refine shAt_of (ok := hitOk n ch) (C := hitC n ch) ?_ (cntL_abs _ (by omega)) HH.out.ok HH.out.row
    have h2 : RetSh (hitOk n ch) (absL (cntL ((n : Int).toNat + 1))) (hitC n ch) W e w' := h
    rwa [Int.toNat_natCast] at h2
  have XM : Hid (∀ W (s0 s1 : Value), Rd fV W s0 (cntL (n + 1)) → Rd fV W s1 us → Calls Try.prog 10 #[shV s0 s1] W fun e w' => e = .returned (.tuple #[fV M, .bool true]) ∧ Below W.heap.size W w') := fun W s0 s1 h0 h1 => mean_at (by rw [cntL_len]; omega) (by omega) HH.out.mo HH.out.mv W h0 h1
  have XV : Hid (∀ W' (s0 s1 : Value), Rd fV W' s0 (cntL (n + 1)) → Rd fV W' s1 us → Calls Try.prog 11 #[shV s0 s1, .int .i64 2] W' fun e w' => e = .returned (.tuple #[fV V, .bool true]) ∧ Below W'.heap.size W' w') := fun W' s0 s1 h0 h1 => moment_at (by rw [cntL_len]; omega) (by omega) HH.out.vo HH.out.vv W' h0 h1
  have X2 := fun W => run_float_arith (P := Try.prog) W .quo 24 .f32 _ _ _ HR.out.hr
  have XR : Hid (∀ W, Calls Try.prog 12 #[fV rw', .int .i64 40] W (ShAt (cntL 41) zs W)) := fun W => by
    refine (implRareShare_any rw' 40 W).mono ?_
    intro e w' h
    exact shAt_of (ok := rareOk rw' 40) (C := rareC rw' 40) h (cntL_abs _ (by omega)) HR.out.ok HR.out.row
  have XO : Hid (∀ W' (s0 s1 : Value), Rd fV W' s0 (cntL 41) → Rd fV W' s1 zs → Calls Try.prog 10 #[shV s0 s1] W' fun e w' => e = .returned (.tuple #[fV O, .bool true]) ∧ Below W'.heap.size W' w') := fun W' s0 s1 h0 h1 => mean_at (by rw [cntL_len]; omega) (by omega) HR.out.mo HR.out.mv W' h0 h1
  have v1 := fun W => run_up_x HH.out.nM W
  have v2 := fun W => run_up_x HH.out.nV W
  have v3 := fun W => run_up_x HH.out.nc W
  have v4 := fun W => run_up_x HR.out.nO W
  have X3 := fun W' => run_float_arith (P := Try.prog) W' .mul 28 .f64 _ _ _ HH.out.hW
  have X4 := fun W => run_float_arith (P := Try.prog) W .sub 28 .f64 _ _ _ HH.out.hd
  have X5 := fun W' => run_float_arith (P := Try.prog) W' .mul 28 .f64 _ _ _ HH.out.he
  have X6 := fun W => run_float_arith (P := Try.prog) W .quo 28 .f64 _ _ _ HR.out.hh
  have Y1 := Lib.hid (fun W' => b10Gap_any HH.out.e1 W')
  have Y2 := Lib.hid (fun W => b10Gap_any HH.out.e2 W)
  have Y3 := Lib.hid (fun W => b10Gap_any HR.out.e W)
  have k1 := HH.out.c1
  have k2 := HH.out.c2
  have k3 := HR.out.c
  clear f1 f2 f3 f4 u1 u2 u3 u4 u5 u6 f5 f6
  have hlen : Hid ((cntL (n + 1)).length = n + 1) := cntL_len _
  go_wp2_with fail
  refine (A3.out _ hT).mono ?_
  rintro e w' ⟨rfl, rfl⟩
  go_wp2_with fail
  refine (A4.out _ hT).mono ?_
  rintro e w' ⟨rfl, rfl⟩
  go_wp2_with fail
  refine (XH.out _).mono ?_
  rintro e w7 ⟨A0', c0', A1', c1', rfl, R0, R1, hb⟩
  replace hT := below_to hT hb hT.size
  rw [hlen.out] at R0 ⊢
  rw [xus] at R1 ⊢
  clear hb
  go_wp2_with fail
  have B0 : BoxAt (w7.alloc (.cells #[.slice A0' (n + 1) c0', .slice A1' (n + 1) c1'] 32)) w7.heap.size [.slice A0' (n + 1) c0', .slice A1' (n + 1) c1'] := BoxAt.new w7 _ _
  have hb := below_alloc w7 (.cells #[.slice A0' (n + 1) c0', .slice A1' (n + 1) c1'] 32)
  have R0' := R0.below hb
  have R1' := R1.below hb
  replace hT := below_to hT hb hT.size
  clear R0 R1 hb
  generalize hg : World.alloc w7 _ = w8 at *
  clear hg
  refine (XM.out _ _ _ R0' R1').mono ?_
  rintro e w9 ⟨rfl, hb⟩
  replace hT := below_to hT hb hT.size
  replace B0 := B0.below hb
  replace R0' := R0'.below hb
  replace R1' := R1'.below hb
  clear hb
  have p0 := B0.cell 0 _ rfl
  have p1 := B0.cell 1 _ rfl
  have hlt := B0.lt
  go_wp2_with fail
  clear p0 p1 hlt
  refine (XV.out _ _ _ R0' R1').mono ?_
  rintro e w10 ⟨rfl, hb⟩
  replace hT := below_to hT hb hT.size
  replace B0 := B0.below hb
  clear hb R0' R1'
  go_wp2_with fail
  refine (A5.out _ hT).mono ?_
  rintro e w' ⟨rfl, rfl⟩
  go_wp2_with fail
  refine (XR.out _).mono ?_
  rintro e w11 ⟨A2', c2', A3', c3', rfl, R2, R3, hb⟩
  replace hT := below_to hT hb hT.size
  replace B0 := B0.below hb
  rw [cntL_len] at R2 ⊢
  rw [xzs] at R3 ⊢
  clear hb
  go_wp2_with fail
  have hb := below_alloc w11 (.cells #[.slice A2' 41 c2', .slice A3' 41 c3'] 32)
  replace R2 := R2.below hb
  replace R3 := R3.below hb
  replace B0 := B0.below hb
  replace hT := below_to hT hb hT.size
  clear hb
  generalize hg : World.alloc w11 _ = w12 at *
  clear hg
  refine (XO.out _ _ _ R2 R3).mono ?_
  rintro e w13 ⟨rfl, hb⟩
  replace hT := below_to hT hb hT.size
  replace B0 := B0.below hb
  clear hb R2 R3
  have p0 := B0.cell 0 _ rfl
  have hlt := B0.lt
  clear B0
  go_wp2_with fail
  refine (Y1.out _).mono ?_
  rintro e w' ⟨rfl, rfl⟩
  go_wp2_with fail
  refine (Y2.out _).mono ?_
  rintro e w' ⟨rfl, rfl⟩
  go_wp2_with fail
  refine (A5.out _ hT).mono ?_
  rintro e w' ⟨rfl, rfl⟩
  go_wp2_with fail
  refine (Y3.out _).mono ?_
  rintro e w' ⟨rfl, rfl⟩
  go_wp2
  go_ret
  exact ⟨rfl, hT⟩
end Go.Proofs.Ythafpbhjpmnddaa
