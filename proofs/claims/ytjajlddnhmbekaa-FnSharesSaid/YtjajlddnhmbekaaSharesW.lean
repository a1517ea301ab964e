/-
  The walk of FnShares, over what is reckoned of two drawn shares.
-/
import Derived.Test.YtjajlddnhmbekaaShP
import Derived.Test.YtjajlddnhmbekaaSameSh
import Derived.Test.YtjajlddnhmbekaaValidSh
namespace Go.Proofs.Ytjajlddnhmbekaa
open Go.RowKit

theorem run_up_y {b : Nat} (h : (FloatKind.f32.decode b).isNaN = false) (W : World) : (convert 28 36 (.float .f32 b)).run Try.prog W = .ok (.float .f64 (upBits b)) W := by
  have := run_up_ b W
  unfold upR upN at this
  rw [h] at this
  exact this
theorem mean_at2 (s0 : Value) (xs : List Nat) (s1 : Value) (ys : List Nat) {M : Nat} (hl : xs.length ≤ 1099511627776) (hl2 : ys.length ≤ 1099511627776) (h : meanOk xs ys = true) (hv : meanV xs ys = some M) (w : World) (hr0 : Rd fV w s0 xs) (hr1 : Rd fV w s1 ys) :
    Calls Try.prog 6 #[shV s0 s1] w fun e w' => e = .returned (.tuple #[fV M, .bool true]) ∧ Below w.heap.size w w' := by
  refine (implMeanOfShare_any s0 xs s1 ys hl hl2 w hr0 hr1).mono ?_
  rintro e w' ⟨b, rfl, hb, hB⟩
  rw [hv] at hb
  obtain ⟨rfl, -⟩ := absF_some hb
  rw [h]
  exact ⟨rfl, hB⟩
theorem moment_at2 (s0 : Value) (xs : List Nat) (s1 : Value) (ys : List Nat) {M : Nat} (hl : xs.length ≤ 1099511627776) (hl2 : ys.length ≤ 1099511627776) (n : Int) (h : momOk xs ys n = true) (hv : momV xs ys n = some M) (w : World) (hr0 : Rd fV w s0 xs) (hr1 : Rd fV w s1 ys) :
    Calls Try.prog 7 #[shV s0 s1, .int .i64 n] w fun e w' => e = .returned (.tuple #[fV M, .bool true]) ∧ Below w.heap.size w w' := by
  refine (implMomentOf_any s0 xs s1 ys hl hl2 n w hr0 hr1).mono ?_
  rintro e w' ⟨b, rfl, hb, hB⟩
  rw [hv] at hb
  obtain ⟨rfl, -⟩ := absF_some hb
  rw [h]
  exact ⟨rfl, hB⟩
theorem same_sh {a0 a1 b0 b1 : List Nat} (h0 : absL a0 = absL b0) (h1 : absL a1 = absL b1) : sameSh a0 a1 b0 b1 = true := by
  unfold sameSh sameLB
  rw [decide_eq_true h0, decide_eq_true h1]; rfl

set_option maxHeartbeats 12800000 in
set_option maxRecDepth 100000 in
theorem lawShares_any (u0 v0 : Value) (xs ys : List (Fin 256)) (w : World) (hr : Rd yV w u0 xs) (hs : Rd yV w v0 ys) :
    Calls Try.prog 3 #[u0, v0] w fun e w' => e = .returned (.bool true) ∧ Below w.heap.size w w' := by
  have HR0 := Lib.hid hr
  have HR1 := Lib.hid hs
  have HL := Lib.hid (b10Long_any u0 v0 xs ys w hr hs)
  clear hs hr
  cases hL : (decide (1048576 < xs.length) || decide (1048576 < ys.length))
  case true =>
    rw [hL] at HL
    clear hL
    go_enter Try.func3, Try.ntmps3
    go_wp2_with fail
    refine HL.out.mono ?_
    rintro e w' ⟨rfl, rfl⟩
    go_wp2
    go_ret
    exact ⟨rfl, Below.refl _ _⟩
  rw [hL] at HL
  have hx40 : xs.length ≤ 1048576 := by
    rw [Bool.or_eq_false_iff, decide_eq_false_iff_not] at hL; omega
  have hy40 : ys.length ≤ 1048576 := by
    rw [Bool.or_eq_false_iff, decide_eq_false_iff_not, decide_eq_false_iff_not] at hL; omega
  clear hL
  have hat : ∀ (i n : Nat), i ≤ 1000 → 2 ≤ n → n ≤ 1000 → ∀ W, Below w.heap.size w W → Calls Try.prog 14 #[v0, .int .i64 i, .int .i64 n] W fun e w' => e = .returned (.int .i64 ((b10A ys i n : Nat) : Int)) ∧ W = w' := fun i n h1 h2 h3 W hW => b10At_any v0 ys i n h1 h2 h3 W (HR1.out.below hW)
  have A0 := Lib.hid (hat 0 9 (by omega) (by omega) (by omega))
  have A1 := Lib.hid (hat 1 9 (by omega) (by omega) (by omega))
  have hv9 := b10A_lt ys 0 (n := 9) (by omega)
  have hu9 := b10A_lt ys 1 (n := 9) (by omega)
  clear hat
  generalize b10A ys 0 9 = v at A0 hv9
  generalize b10A ys 1 9 = u at A1 hu9
  have hT := Below.refl w.heap.size w
  go_enter Try.func3, Try.ntmps3
  go_wp2_with fail
  refine HL.out.mono ?_
  rintro e w' ⟨rfl, rfl⟩
  go_wp2_with fail
  refine (b10Share_any _ xs (by omega) _ (HR0.out.below hT)).mono ?_
  rintro e w1 ⟨zsa, csa, v0, x0, v1, x1, rfl, hDa, Ra0, Ra1, aa0, aa1, hb⟩
  have HAa := Lib.hid (And.intro hDa (And.intro aa0 aa1))
  clear hDa aa0 aa1
  replace hT := below_to hT hb hT.size
  clear hb
  obtain ⟨Ea0, ca0, rfl, q1, q2⟩ := Ra0
  obtain ⟨Ea1, ca1, rfl, q3, q4⟩ := Ra1
  have Ra0 : Rd fV w1 (.slice Ea0 x0.length ca0) x0 := ⟨_, _, rfl, q1, q2⟩
  have Ra1 : Rd fV w1 (.slice Ea1 x1.length ca1) x1 := ⟨_, _, rfl, q3, q4⟩
  clear q1 q2 q3 q4
  go_wp2_with fail
  have B_a : BoxAt (w1.alloc (.cells #[.slice Ea0 x0.length ca0, .slice Ea1 x1.length ca1] 26)) w1.heap.size [.slice Ea0 x0.length ca0, .slice Ea1 x1.length ca1] := BoxAt.new w1 _ _
  have hb := below_alloc w1 (.cells #[.slice Ea0 x0.length ca0, .slice Ea1 x1.length ca1] 26)
  obtain ⟨S_a, hS_a⟩ : ∃ S, S = w1.heap.size := ⟨_, rfl⟩
  rw [← hS_a] at B_a ⊢
  clear hS_a
  generalize hg : World.alloc w1 _ = w2 at *
  clear hg
  replace Ra0 := Ra0.below hb
  replace Ra1 := Ra1.below hb
  replace hT := below_to hT hb hT.size
  clear hb
  refine (b10Share_any _ ys (by omega) _ (HR1.out.below hT)).mono ?_
  rintro e w3 ⟨zsb, csb, v0, y0, v1, y1, rfl, hDb, Rb0, Rb1, ab0, ab1, hb⟩
  have HAb := Lib.hid (And.intro hDb (And.intro ab0 ab1))
  clear hDb ab0 ab1
  replace Ra0 := Ra0.below hb
  replace Ra1 := Ra1.below hb
  replace B_a := B_a.below hb
  replace hT := below_to hT hb hT.size
  clear hb
  obtain ⟨Eb0, cb0, rfl, q1, q2⟩ := Rb0
  obtain ⟨Eb1, cb1, rfl, q3, q4⟩ := Rb1
  have Rb0 : Rd fV w3 (.slice Eb0 y0.length cb0) y0 := ⟨_, _, rfl, q1, q2⟩
  have Rb1 : Rd fV w3 (.slice Eb1 y1.length cb1) y1 := ⟨_, _, rfl, q3, q4⟩
  clear q1 q2 q3 q4
  obtain ⟨G, hG⟩ := dsh_of HAa.out.1 HAa.out.2.1 HAa.out.2.2
  obtain ⟨H, hH⟩ := dsh_of HAb.out.1 HAb.out.2.1 HAb.out.2.2
  obtain ⟨X, Y, P, Q, N, s1, s2, t1, t2, g4, hP⟩ := shP_of hG hH hv9 hu9
  have nx0 : x0.length ≤ 64 := by rw [hG.gsh.l0]; exact hG.gsh.len
  have nx1 : x1.length ≤ 64 := by rw [hG.gsh.l1]; exact hG.gsh.len
  have ny0 : y0.length ≤ 64 := by rw [hH.gsh.l0]; exact hH.gsh.len
  have ny1 : y1.length ≤ 64 := by rw [hH.gsh.l1]; exact hH.gsh.len
  have PP := Lib.hid hP
  have u1 := fun W => run_up_y hP.fX W
  have u2 := fun W => run_up_y hP.fY W
  have u3 := fun W => run_up_y hP.fP W
  have u4 := fun W => run_up_y hP.fQ W
  have u5 := fun W => run_up_y hP.fN W
  have u6 := fun W => run_up_y hP.fb W
  have u7 := fun W => run_up_y hP.fc W
  have f1 := fun W => run_float_arith (P := Try.prog) W .add 36 .f64 _ _ _ hP.a1
  have f2 := fun W => run_float_arith (P := Try.prog) W .add 36 .f64 _ _ _ hP.a2
  have f3 := fun W => run_float_arith (P := Try.prog) W .mul 36 .f64 _ _ _ hP.m1
  have f4 := fun W => run_float_arith (P := Try.prog) W .add 36 .f64 _ _ _ hP.m2
  have f5 := fun W => run_float_arith (P := Try.prog) W .quo 28 .f32 _ _ _ (hwd4 hv9)
  have f6 := fun W => run_float_arith (P := Try.prog) W .quo 28 .f32 _ _ _ (hwd4 hu9)
  have k4 := hP.l4
  clear hP HAa HAb hG hH
  have k_a_0 := B_a.cell 0 _ rfl
  have k_a_1 := B_a.cell 1 _ rfl
  have l_a := B_a.lt
  have l2_a : S_a < w3.heap.size + 1 := by omega
  go_wp2_with fail
  clear k_a_0 k_a_1 l_a l2_a
  have B_b : BoxAt (w3.alloc (.cells #[.slice Eb0 y0.length cb0, .slice Eb1 y1.length cb1] 26)) w3.heap.size [.slice Eb0 y0.length cb0, .slice Eb1 y1.length cb1] := BoxAt.new w3 _ _
  have hb := below_alloc w3 (.cells #[.slice Eb0 y0.length cb0, .slice Eb1 y1.length cb1] 26)
  obtain ⟨S_b, hS_b⟩ : ∃ S, S = w3.heap.size := ⟨_, rfl⟩
  rw [← hS_b] at B_b ⊢
  clear hS_b
  generalize hg : World.alloc w3 _ = w4 at *
  clear hg
  replace Ra0 := Ra0.below hb
  replace Ra1 := Ra1.below hb
  replace Rb0 := Rb0.below hb
  replace Rb1 := Rb1.below hb
  replace B_a := B_a.below hb
  replace hT := below_to hT hb hT.size
  clear hb
  refine (mean_at2 _ x0 _ x1 (by omega) (by omega) PP.out.mx PP.out.vx _ Ra0 Ra1).mono ?_
  rintro e w5 ⟨rfl, hb⟩
  replace Ra0 := Ra0.below hb
  replace Ra1 := Ra1.below hb
  replace Rb0 := Rb0.below hb
  replace Rb1 := Rb1.below hb
  replace B_a := B_a.below hb
  replace B_b := B_b.below hb
  replace hT := below_to hT hb hT.size
  clear hb
  have k_a_0 := B_a.cell 0 _ rfl
  have k_a_1 := B_a.cell 1 _ rfl
  have l_a := B_a.lt
  have l2_a : S_a < w5.heap.size + 1 := by omega
  have k_b_0 := B_b.cell 0 _ rfl
  have k_b_1 := B_b.cell 1 _ rfl
  have l_b := B_b.lt
  have l2_b : S_b < w5.heap.size + 1 := by omega
  go_wp2_with fail
  clear k_a_0 k_a_1 l_a l2_a k_b_0 k_b_1 l_b l2_b
  refine (mean_at2 _ y0 _ y1 (by omega) (by omega) PP.out.my PP.out.vy _ Rb0 Rb1).mono ?_
  rintro e w6 ⟨rfl, hb⟩
  replace Ra0 := Ra0.below hb
  replace Ra1 := Ra1.below hb
  replace Rb0 := Rb0.below hb
  replace Rb1 := Rb1.below hb
  replace B_a := B_a.below hb
  replace B_b := B_b.below hb
  replace hT := below_to hT hb hT.size
  clear hb
  have k_a_0 := B_a.cell 0 _ rfl
  have k_a_1 := B_a.cell 1 _ rfl
  have l_a := B_a.lt
  have l2_a : S_a < w6.heap.size + 1 := by omega
  have k_b_0 := B_b.cell 0 _ rfl
  have k_b_1 := B_b.cell 1 _ rfl
  have l_b := B_b.lt
  have l2_b : S_b < w6.heap.size + 1 := by omega
  go_wp2_with fail
  clear k_a_0 k_a_1 l_a l2_a k_b_0 k_b_1 l_b l2_b
  refine (moment_at2 _ x0 _ x1 (by omega) (by omega) 2 PP.out.px PP.out.vp _ Ra0 Ra1).mono ?_
  rintro e w7 ⟨rfl, hb⟩
  replace Ra0 := Ra0.below hb
  replace Ra1 := Ra1.below hb
  replace Rb0 := Rb0.below hb
  replace Rb1 := Rb1.below hb
  replace B_a := B_a.below hb
  replace B_b := B_b.below hb
  replace hT := below_to hT hb hT.size
  clear hb
  have k_a_0 := B_a.cell 0 _ rfl
  have k_a_1 := B_a.cell 1 _ rfl
  have l_a := B_a.lt
  have l2_a : S_a < w7.heap.size + 1 := by omega
  have k_b_0 := B_b.cell 0 _ rfl
  have k_b_1 := B_b.cell 1 _ rfl
  have l_b := B_b.lt
  have l2_b : S_b < w7.heap.size + 1 := by omega
  go_wp2_with fail
  clear k_a_0 k_a_1 l_a l2_a k_b_0 k_b_1 l_b l2_b
  refine (moment_at2 _ y0 _ y1 (by omega) (by omega) 2 PP.out.qy PP.out.vq _ Rb0 Rb1).mono ?_
  rintro e w8 ⟨rfl, hb⟩
  replace Ra0 := Ra0.below hb
  replace Ra1 := Ra1.below hb
  replace Rb0 := Rb0.below hb
  replace Rb1 := Rb1.below hb
  replace B_a := B_a.below hb
  replace B_b := B_b.below hb
  replace hT := below_to hT hb hT.size
  clear hb
  have k_a_0 := B_a.cell 0 _ rfl
  have k_a_1 := B_a.cell 1 _ rfl
  have l_a := B_a.lt
  have l2_a : S_a < w8.heap.size + 1 := by omega
  have k_b_0 := B_b.cell 0 _ rfl
  have k_b_1 := B_b.cell 1 _ rfl
  have l_b := B_b.lt
  have l2_b : S_b < w8.heap.size + 1 := by omega
  go_wp2_with fail
  clear k_a_0 k_a_1 l_a l2_a k_b_0 k_b_1 l_b l2_b
  refine (specAddShares_any _ x0 _ x1 (by omega) (by omega) _ y0 _ y1 (by omega) (by omega) _ Ra0 Ra1 Rb0 Rb1).mono ?_
  rintro e w9 ⟨v0, s0, v1, s1', rfl, o0, o1, -, ls0, ls1, as0, as1, hb⟩
  rw [PP.out.c1] at as0 as1 ⊢
  rw [if_pos rfl] at as0 as1
  have As := Lib.hid (And.intro as0 as1)
  clear as0 as1
  obtain ⟨Es0, cs0, rfl, q1, q2⟩ := o0.rd
  obtain ⟨Es1, cs1, rfl, q3, q4⟩ := o1.rd
  have Rs0 := o0.rd
  have Rs1 := o1.rd
  clear q1 q2 q3 q4 o0 o1
  replace Ra0 := Ra0.below hb
  replace Ra1 := Ra1.below hb
  replace Rb0 := Rb0.below hb
  replace Rb1 := Rb1.below hb
  replace B_a := B_a.below hb
  replace B_b := B_b.below hb
  replace hT := below_to hT hb hT.size
  clear hb
  have k_a_0 := B_a.cell 0 _ rfl
  have k_a_1 := B_a.cell 1 _ rfl
  have l_a := B_a.lt
  have l2_a : S_a < w9.heap.size + 1 := by omega
  have k_b_0 := B_b.cell 0 _ rfl
  have k_b_1 := B_b.cell 1 _ rfl
  have l_b := B_b.lt
  have l2_b : S_b < w9.heap.size + 1 := by omega
  go_wp2_with fail
  clear k_a_0 k_a_1 l_a l2_a k_b_0 k_b_1 l_b l2_b
  have B_s : BoxAt (w9.alloc (.cells #[.slice Es0 s0.length cs0, .slice Es1 s1'.length cs1] 26)) w9.heap.size [.slice Es0 s0.length cs0, .slice Es1 s1'.length cs1] := BoxAt.new w9 _ _
  have hb := below_alloc w9 (.cells #[.slice Es0 s0.length cs0, .slice Es1 s1'.length cs1] 26)
  obtain ⟨S_s, hS_s⟩ : ∃ S, S = w9.heap.size := ⟨_, rfl⟩
  rw [← hS_s] at B_s ⊢
  clear hS_s
  generalize hg : World.alloc w9 _ = w10 at *
  clear hg
  replace Ra0 := Ra0.below hb
  replace Ra1 := Ra1.below hb
  replace Rb0 := Rb0.below hb
  replace Rb1 := Rb1.below hb
  replace Rs0 := Rs0.below hb
  replace Rs1 := Rs1.below hb
  replace B_a := B_a.below hb
  replace B_b := B_b.below hb
  replace hT := below_to hT hb hT.size
  clear hb
  refine (implAddShares_any _ x0 _ x1 (by omega) (by omega) _ y0 _ y1 (by omega) (by omega) _ Ra0 Ra1 Rb0 Rb1).mono ?_
  rintro e w11 ⟨v0, z0, v1, z1, rfl, o0, o1, -, lo0, lo1, ao0, ao1, hb⟩
  rw [PP.out.c1] at ao0 ao1 ⊢
  rw [if_pos rfl] at ao0 ao1
  have Ao := Lib.hid (And.intro ao0 ao1)
  clear ao0 ao1
  obtain ⟨Eo0, co0, rfl, q1, q2⟩ := o0.rd
  obtain ⟨Eo1, co1, rfl, q3, q4⟩ := o1.rd
  have Ro0 := o0.rd
  have Ro1 := o1.rd
  clear q1 q2 q3 q4 o0 o1
  replace Ra0 := Ra0.below hb
  replace Ra1 := Ra1.below hb
  replace Rb0 := Rb0.below hb
  replace Rb1 := Rb1.below hb
  replace Rs0 := Rs0.below hb
  replace Rs1 := Rs1.below hb
  replace B_a := B_a.below hb
  replace B_b := B_b.below hb
  replace B_s := B_s.below hb
  replace hT := below_to hT hb hT.size
  clear hb
  obtain ⟨hzl0, hzl1, M, V, g1, g2, mo, mv, vo, vv, fM, fV', d1, e1, d2, e2⟩ := PP.out.own z0 z1 Ao.out.1 Ao.out.2
  obtain ⟨hsl0, hsl1, -⟩ := PP.out.own s0 s1' As.out.1 As.out.2
  have ZL := Lib.hid (And.intro hzl0 (And.intro hzl1 (And.intro hsl0 hsl1)))
  have MV := Lib.hid (And.intro mo (And.intro mv (And.intro vo vv)))
  have u8 := fun W => run_up_y fM W
  have u9 := fun W => run_up_y fV' W
  have G1 := Lib.hid (fun W => b10Gap_any d1 W)
  have G2 := Lib.hid (fun W => b10Gap_any d2 W)
  clear hzl0 hzl1 hsl0 hsl1 mo mv vo vv d1 d2
  have k_a_0 := B_a.cell 0 _ rfl
  have k_a_1 := B_a.cell 1 _ rfl
  have l_a := B_a.lt
  have l2_a : S_a < w11.heap.size + 1 := by omega
  have k_b_0 := B_b.cell 0 _ rfl
  have k_b_1 := B_b.cell 1 _ rfl
  have l_b := B_b.lt
  have l2_b : S_b < w11.heap.size + 1 := by omega
  have k_s_0 := B_s.cell 0 _ rfl
  have k_s_1 := B_s.cell 1 _ rfl
  have l_s := B_s.lt
  have l2_s : S_s < w11.heap.size + 1 := by omega
  go_wp2_with fail
  clear k_a_0 k_a_1 l_a l2_a k_b_0 k_b_1 l_b l2_b k_s_0 k_s_1 l_s l2_s
  have B_o : BoxAt (w11.alloc (.cells #[.slice Eo0 z0.length co0, .slice Eo1 z1.length co1] 26)) w11.heap.size [.slice Eo0 z0.length co0, .slice Eo1 z1.length co1] := BoxAt.new w11 _ _
  have hb := below_alloc w11 (.cells #[.slice Eo0 z0.length co0, .slice Eo1 z1.length co1] 26)
  obtain ⟨S_o, hS_o⟩ : ∃ S, S = w11.heap.size := ⟨_, rfl⟩
  rw [← hS_o] at B_o ⊢
  clear hS_o
  generalize hg : World.alloc w11 _ = w12 at *
  clear hg
  replace Ra0 := Ra0.below hb
  replace Ra1 := Ra1.below hb
  replace Rb0 := Rb0.below hb
  replace Rb1 := Rb1.below hb
  replace Rs0 := Rs0.below hb
  replace Rs1 := Rs1.below hb
  replace Ro0 := Ro0.below hb
  replace Ro1 := Ro1.below hb
  replace B_a := B_a.below hb
  replace B_b := B_b.below hb
  replace B_s := B_s.below hb
  replace hT := below_to hT hb hT.size
  clear hb
  refine (implValidShare_any _ x0 _ x1 (by omega) (by omega) _ Ra0 Ra1).mono ?_
  rintro e w13 ⟨rfl, hb⟩
  replace Ra0 := Ra0.below hb
  replace Ra1 := Ra1.below hb
  replace Rb0 := Rb0.below hb
  replace Rb1 := Rb1.below hb
  replace Rs0 := Rs0.below hb
  replace Rs1 := Rs1.below hb
  replace Ro0 := Ro0.below hb
  replace Ro1 := Ro1.below hb
  replace B_a := B_a.below hb
  replace B_b := B_b.below hb
  replace B_s := B_s.below hb
  replace B_o := B_o.below hb
  replace hT := below_to hT hb hT.size
  clear hb
  rw [PP.out.sh]
  have k_a_0 := B_a.cell 0 _ rfl
  have k_a_1 := B_a.cell 1 _ rfl
  have l_a := B_a.lt
  have l2_a : S_a < w13.heap.size + 1 := by omega
  have k_b_0 := B_b.cell 0 _ rfl
  have k_b_1 := B_b.cell 1 _ rfl
  have l_b := B_b.lt
  have l2_b : S_b < w13.heap.size + 1 := by omega
  have k_s_0 := B_s.cell 0 _ rfl
  have k_s_1 := B_s.cell 1 _ rfl
  have l_s := B_s.lt
  have l2_s : S_s < w13.heap.size + 1 := by omega
  have k_o_0 := B_o.cell 0 _ rfl
  have k_o_1 := B_o.cell 1 _ rfl
  have l_o := B_o.lt
  have l2_o : S_o < w13.heap.size + 1 := by omega
  go_wp2_with fail
  clear k_a_0 k_a_1 l_a l2_a k_b_0 k_b_1 l_b l2_b k_s_0 k_s_1 l_s l2_s k_o_0 k_o_1 l_o l2_o
  refine (implSameShare_any _ x0 _ x1 (by omega) (by omega) PP.out.w0 PP.out.w1 _ x0 _ x1 (by omega) (by omega) PP.out.w0 PP.out.w1 _ Ra0 Ra1 Ra0 Ra1).mono ?_
  rintro e w14 ⟨rfl, hb⟩
  replace Ra0 := Ra0.below hb
  replace Ra1 := Ra1.below hb
  replace Rb0 := Rb0.below hb
  replace Rb1 := Rb1.below hb
  replace Rs0 := Rs0.below hb
  replace Rs1 := Rs1.below hb
  replace Ro0 := Ro0.below hb
  replace Ro1 := Ro1.below hb
  replace B_a := B_a.below hb
  replace B_b := B_b.below hb
  replace B_s := B_s.below hb
  replace B_o := B_o.below hb
  replace hT := below_to hT hb hT.size
  clear hb
  rw [same_sh rfl rfl]
  have k_a_0 := B_a.cell 0 _ rfl
  have k_a_1 := B_a.cell 1 _ rfl
  have l_a := B_a.lt
  have l2_a : S_a < w14.heap.size + 1 := by omega
  have k_b_0 := B_b.cell 0 _ rfl
  have k_b_1 := B_b.cell 1 _ rfl
  have l_b := B_b.lt
  have l2_b : S_b < w14.heap.size + 1 := by omega
  have k_s_0 := B_s.cell 0 _ rfl
  have k_s_1 := B_s.cell 1 _ rfl
  have l_s := B_s.lt
  have l2_s : S_s < w14.heap.size + 1 := by omega
  have k_o_0 := B_o.cell 0 _ rfl
  have k_o_1 := B_o.cell 1 _ rfl
  have l_o := B_o.lt
  have l2_o : S_o < w14.heap.size + 1 := by omega
  go_wp2_with fail
  clear k_a_0 k_a_1 l_a l2_a k_b_0 k_b_1 l_b l2_b k_s_0 k_s_1 l_s l2_s k_o_0 k_o_1 l_o l2_o
  refine (mean_at2 _ z0 _ z1 (by omega) (by omega) MV.out.1 MV.out.2.1 _ Ro0 Ro1).mono ?_
  rintro e w15 ⟨rfl, hb⟩
  replace Ra0 := Ra0.below hb
  replace Ra1 := Ra1.below hb
  replace Rb0 := Rb0.below hb
  replace Rb1 := Rb1.below hb
  replace Rs0 := Rs0.below hb
  replace Rs1 := Rs1.below hb
  replace Ro0 := Ro0.below hb
  replace Ro1 := Ro1.below hb
  replace B_a := B_a.below hb
  replace B_b := B_b.below hb
  replace B_s := B_s.below hb
  replace B_o := B_o.below hb
  replace hT := below_to hT hb hT.size
  clear hb
  have k_a_0 := B_a.cell 0 _ rfl
  have k_a_1 := B_a.cell 1 _ rfl
  have l_a := B_a.lt
  have l2_a : S_a < w15.heap.size + 1 := by omega
  have k_b_0 := B_b.cell 0 _ rfl
  have k_b_1 := B_b.cell 1 _ rfl
  have l_b := B_b.lt
  have l2_b : S_b < w15.heap.size + 1 := by omega
  have k_s_0 := B_s.cell 0 _ rfl
  have k_s_1 := B_s.cell 1 _ rfl
  have l_s := B_s.lt
  have l2_s : S_s < w15.heap.size + 1 := by omega
  have k_o_0 := B_o.cell 0 _ rfl
  have k_o_1 := B_o.cell 1 _ rfl
  have l_o := B_o.lt
  have l2_o : S_o < w15.heap.size + 1 := by omega
  go_wp2_with fail
  clear k_a_0 k_a_1 l_a l2_a k_b_0 k_b_1 l_b l2_b k_s_0 k_s_1 l_s l2_s k_o_0 k_o_1 l_o l2_o
  refine (moment_at2 _ z0 _ z1 (by omega) (by omega) 2 MV.out.2.2.1 MV.out.2.2.2 _ Ro0 Ro1).mono ?_
  rintro e w16 ⟨rfl, hb⟩
  replace Ra0 := Ra0.below hb
  replace Ra1 := Ra1.below hb
  replace Rb0 := Rb0.below hb
  replace Rb1 := Rb1.below hb
  replace Rs0 := Rs0.below hb
  replace Rs1 := Rs1.below hb
  replace Ro0 := Ro0.below hb
  replace Ro1 := Ro1.below hb
  replace B_a := B_a.below hb
  replace B_b := B_b.below hb
  replace B_s := B_s.below hb
  replace B_o := B_o.below hb
  replace hT := below_to hT hb hT.size
  clear hb
  have k_a_0 := B_a.cell 0 _ rfl
  have k_a_1 := B_a.cell 1 _ rfl
  have l_a := B_a.lt
  have l2_a : S_a < w16.heap.size + 1 := by omega
  have k_b_0 := B_b.cell 0 _ rfl
  have k_b_1 := B_b.cell 1 _ rfl
  have l_b := B_b.lt
  have l2_b : S_b < w16.heap.size + 1 := by omega
  have k_s_0 := B_s.cell 0 _ rfl
  have k_s_1 := B_s.cell 1 _ rfl
  have l_s := B_s.lt
  have l2_s : S_s < w16.heap.size + 1 := by omega
  have k_o_0 := B_o.cell 0 _ rfl
  have k_o_1 := B_o.cell 1 _ rfl
  have l_o := B_o.lt
  have l2_o : S_o < w16.heap.size + 1 := by omega
  go_wp2_with fail
  clear k_a_0 k_a_1 l_a l2_a k_b_0 k_b_1 l_b l2_b k_s_0 k_s_1 l_s l2_s k_o_0 k_o_1 l_o l2_o
  refine (specSameShare_any _ z0 _ z1 (by omega) (by omega) ZL.out.1 ZL.out.2.1 _ s0 _ s1' (by omega) (by omega) ZL.out.2.2.1 ZL.out.2.2.2 _ Ro0 Ro1 Rs0 Rs1).mono ?_
  rintro e w17 ⟨rfl, hb⟩
  replace Ra0 := Ra0.below hb
  replace Ra1 := Ra1.below hb
  replace Rb0 := Rb0.below hb
  replace Rb1 := Rb1.below hb
  replace Rs0 := Rs0.below hb
  replace Rs1 := Rs1.below hb
  replace Ro0 := Ro0.below hb
  replace Ro1 := Ro1.below hb
  replace B_a := B_a.below hb
  replace B_b := B_b.below hb
  replace B_s := B_s.below hb
  replace B_o := B_o.below hb
  replace hT := below_to hT hb hT.size
  clear hb
  rw [same_sh (Ao.out.1.trans As.out.1.symm) (Ao.out.2.trans As.out.2.symm)]
  have k_a_0 := B_a.cell 0 _ rfl
  have k_a_1 := B_a.cell 1 _ rfl
  have l_a := B_a.lt
  have l2_a : S_a < w17.heap.size + 1 := by omega
  have k_b_0 := B_b.cell 0 _ rfl
  have k_b_1 := B_b.cell 1 _ rfl
  have l_b := B_b.lt
  have l2_b : S_b < w17.heap.size + 1 := by omega
  have k_s_0 := B_s.cell 0 _ rfl
  have k_s_1 := B_s.cell 1 _ rfl
  have l_s := B_s.lt
  have l2_s : S_s < w17.heap.size + 1 := by omega
  have k_o_0 := B_o.cell 0 _ rfl
  have k_o_1 := B_o.cell 1 _ rfl
  have l_o := B_o.lt
  have l2_o : S_o < w17.heap.size + 1 := by omega
  go_wp2_with fail
  clear k_a_0 k_a_1 l_a l2_a k_b_0 k_b_1 l_b l2_b k_s_0 k_s_1 l_s l2_s k_o_0 k_o_1 l_o l2_o
  refine (G1.out _).mono ?_
  rintro e w' ⟨rfl, rfl⟩
  have k_a_0 := B_a.cell 0 _ rfl
  have k_a_1 := B_a.cell 1 _ rfl
  have l_a := B_a.lt
  have l2_a : S_a < w17.heap.size + 1 := by omega
  have k_b_0 := B_b.cell 0 _ rfl
  have k_b_1 := B_b.cell 1 _ rfl
  have l_b := B_b.lt
  have l2_b : S_b < w17.heap.size + 1 := by omega
  have k_s_0 := B_s.cell 0 _ rfl
  have k_s_1 := B_s.cell 1 _ rfl
  have l_s := B_s.lt
  have l2_s : S_s < w17.heap.size + 1 := by omega
  have k_o_0 := B_o.cell 0 _ rfl
  have k_o_1 := B_o.cell 1 _ rfl
  have l_o := B_o.lt
  have l2_o : S_o < w17.heap.size + 1 := by omega
  go_wp2_with fail
  clear k_a_0 k_a_1 l_a l2_a k_b_0 k_b_1 l_b l2_b k_s_0 k_s_1 l_s l2_s k_o_0 k_o_1 l_o l2_o
  refine (G2.out _).mono ?_
  rintro e w' ⟨rfl, rfl⟩
  have k_a_0 := B_a.cell 0 _ rfl
  have k_a_1 := B_a.cell 1 _ rfl
  have l_a := B_a.lt
  have l2_a : S_a < w17.heap.size + 1 := by omega
  have k_b_0 := B_b.cell 0 _ rfl
  have k_b_1 := B_b.cell 1 _ rfl
  have l_b := B_b.lt
  have l2_b : S_b < w17.heap.size + 1 := by omega
  have k_s_0 := B_s.cell 0 _ rfl
  have k_s_1 := B_s.cell 1 _ rfl
  have l_s := B_s.lt
  have l2_s : S_s < w17.heap.size + 1 := by omega
  have k_o_0 := B_o.cell 0 _ rfl
  have k_o_1 := B_o.cell 1 _ rfl
  have l_o := B_o.lt
  have l2_o : S_o < w17.heap.size + 1 := by omega
  go_wp2_with fail
  clear k_a_0 k_a_1 l_a l2_a k_b_0 k_b_1 l_b l2_b k_s_0 k_s_1 l_s l2_s k_o_0 k_o_1 l_o l2_o
  refine (A0.out _ hT).mono ?_
  rintro e w' ⟨rfl, rfl⟩
  have k_a_0 := B_a.cell 0 _ rfl
  have k_a_1 := B_a.cell 1 _ rfl
  have l_a := B_a.lt
  have l2_a : S_a < w17.heap.size + 1 := by omega
  have k_b_0 := B_b.cell 0 _ rfl
  have k_b_1 := B_b.cell 1 _ rfl
  have l_b := B_b.lt
  have l2_b : S_b < w17.heap.size + 1 := by omega
  have k_s_0 := B_s.cell 0 _ rfl
  have k_s_1 := B_s.cell 1 _ rfl
  have l_s := B_s.lt
  have l2_s : S_s < w17.heap.size + 1 := by omega
  have k_o_0 := B_o.cell 0 _ rfl
  have k_o_1 := B_o.cell 1 _ rfl
  have l_o := B_o.lt
  have l2_o : S_o < w17.heap.size + 1 := by omega
  go_wp2_with fail
  clear k_a_0 k_a_1 l_a l2_a k_b_0 k_b_1 l_b l2_b k_s_0 k_s_1 l_s l2_s k_o_0 k_o_1 l_o l2_o
  refine (A1.out _ hT).mono ?_
  rintro e w' ⟨rfl, rfl⟩
  have k_a_0 := B_a.cell 0 _ rfl
  have k_a_1 := B_a.cell 1 _ rfl
  have l_a := B_a.lt
  have l2_a : S_a < w17.heap.size + 1 := by omega
  have k_b_0 := B_b.cell 0 _ rfl
  have k_b_1 := B_b.cell 1 _ rfl
  have l_b := B_b.lt
  have l2_b : S_b < w17.heap.size + 1 := by omega
  have k_s_0 := B_s.cell 0 _ rfl
  have k_s_1 := B_s.cell 1 _ rfl
  have l_s := B_s.lt
  have l2_s : S_s < w17.heap.size + 1 := by omega
  have k_o_0 := B_o.cell 0 _ rfl
  have k_o_1 := B_o.cell 1 _ rfl
  have l_o := B_o.lt
  have l2_o : S_o < w17.heap.size + 1 := by omega
  go_wp2_with fail
  clear k_a_0 k_a_1 l_a l2_a k_b_0 k_b_1 l_b l2_b k_s_0 k_s_1 l_s l2_s k_o_0 k_o_1 l_o l2_o
  refine (implShiftShare_any _ x0 _ x1 (by omega) (by omega) _ _ _ Ra0 Ra1).mono ?_
  rintro e w18 ⟨v0, m0, v1, m1, rfl, o0, o1, -, lm0, lm1, am0, am1, hb⟩
  rw [PP.out.sf] at am0 am1 ⊢
  rw [if_pos rfl] at am0 am1
  have Am := Lib.hid (And.intro am0 am1)
  clear am0 am1
  obtain ⟨Em0, cm0, rfl, q1, q2⟩ := o0.rd
  obtain ⟨Em1, cm1, rfl, q3, q4⟩ := o1.rd
  have Rm0 := o0.rd
  have Rm1 := o1.rd
  clear q1 q2 q3 q4 o0 o1
  replace Ra0 := Ra0.below hb
  replace Ra1 := Ra1.below hb
  replace Rb0 := Rb0.below hb
  replace Rb1 := Rb1.below hb
  replace Rs0 := Rs0.below hb
  replace Rs1 := Rs1.below hb
  replace Ro0 := Ro0.below hb
  replace Ro1 := Ro1.below hb
  replace B_a := B_a.below hb
  replace B_b := B_b.below hb
  replace B_s := B_s.below hb
  replace B_o := B_o.below hb
  replace hT := below_to hT hb hT.size
  clear hb
  obtain ⟨E, g3, mo, mv, fE, d3, e3⟩ := PP.out.mov m0 m1 Am.out.1 Am.out.2
  have ME := Lib.hid (And.intro mo mv)
  have u10 := fun W => run_up_y fE W
  have G3 := Lib.hid (fun W => b10Gap_any d3 W)
  have G4 := Lib.hid (fun W => b10Gap_any PP.out.d4 W)
  clear mo mv d3
  have k_a_0 := B_a.cell 0 _ rfl
  have k_a_1 := B_a.cell 1 _ rfl
  have l_a := B_a.lt
  have l2_a : S_a < w18.heap.size + 1 := by omega
  have k_b_0 := B_b.cell 0 _ rfl
  have k_b_1 := B_b.cell 1 _ rfl
  have l_b := B_b.lt
  have l2_b : S_b < w18.heap.size + 1 := by omega
  have k_s_0 := B_s.cell 0 _ rfl
  have k_s_1 := B_s.cell 1 _ rfl
  have l_s := B_s.lt
  have l2_s : S_s < w18.heap.size + 1 := by omega
  have k_o_0 := B_o.cell 0 _ rfl
  have k_o_1 := B_o.cell 1 _ rfl
  have l_o := B_o.lt
  have l2_o : S_o < w18.heap.size + 1 := by omega
  go_wp2_with fail
  clear k_a_0 k_a_1 l_a l2_a k_b_0 k_b_1 l_b l2_b k_s_0 k_s_1 l_s l2_s k_o_0 k_o_1 l_o l2_o
  have B_m : BoxAt (w18.alloc (.cells #[.slice Em0 m0.length cm0, .slice Em1 m1.length cm1] 26)) w18.heap.size [.slice Em0 m0.length cm0, .slice Em1 m1.length cm1] := BoxAt.new w18 _ _
  have hb := below_alloc w18 (.cells #[.slice Em0 m0.length cm0, .slice Em1 m1.length cm1] 26)
  obtain ⟨S_m, hS_m⟩ : ∃ S, S = w18.heap.size := ⟨_, rfl⟩
  rw [← hS_m] at B_m ⊢
  clear hS_m
  generalize hg : World.alloc w18 _ = w19 at *
  clear hg
  replace Ra0 := Ra0.below hb
  replace Ra1 := Ra1.below hb
  replace Rb0 := Rb0.below hb
  replace Rb1 := Rb1.below hb
  replace Rs0 := Rs0.below hb
  replace Rs1 := Rs1.below hb
  replace Ro0 := Ro0.below hb
  replace Ro1 := Ro1.below hb
  replace Rm0 := Rm0.below hb
  replace Rm1 := Rm1.below hb
  replace B_a := B_a.below hb
  replace B_b := B_b.below hb
  replace B_s := B_s.below hb
  replace B_o := B_o.below hb
  replace hT := below_to hT hb hT.size
  clear hb
  refine (mean_at2 _ m0 _ m1 (by omega) (by omega) ME.out.1 ME.out.2 _ Rm0 Rm1).mono ?_
  rintro e w20 ⟨rfl, hb⟩
  replace Ra0 := Ra0.below hb
  replace Ra1 := Ra1.below hb
  replace Rb0 := Rb0.below hb
  replace Rb1 := Rb1.below hb
  replace Rs0 := Rs0.below hb
  replace Rs1 := Rs1.below hb
  replace Ro0 := Ro0.below hb
  replace Ro1 := Ro1.below hb
  replace Rm0 := Rm0.below hb
  replace Rm1 := Rm1.below hb
  replace B_a := B_a.below hb
  replace B_b := B_b.below hb
  replace B_s := B_s.below hb
  replace B_o := B_o.below hb
  replace B_m := B_m.below hb
  replace hT := below_to hT hb hT.size
  clear hb
  have k_a_0 := B_a.cell 0 _ rfl
  have k_a_1 := B_a.cell 1 _ rfl
  have l_a := B_a.lt
  have l2_a : S_a < w20.heap.size + 1 := by omega
  have k_b_0 := B_b.cell 0 _ rfl
  have k_b_1 := B_b.cell 1 _ rfl
  have l_b := B_b.lt
  have l2_b : S_b < w20.heap.size + 1 := by omega
  have k_s_0 := B_s.cell 0 _ rfl
  have k_s_1 := B_s.cell 1 _ rfl
  have l_s := B_s.lt
  have l2_s : S_s < w20.heap.size + 1 := by omega
  have k_o_0 := B_o.cell 0 _ rfl
  have k_o_1 := B_o.cell 1 _ rfl
  have l_o := B_o.lt
  have l2_o : S_o < w20.heap.size + 1 := by omega
  have k_m_0 := B_m.cell 0 _ rfl
  have k_m_1 := B_m.cell 1 _ rfl
  have l_m := B_m.lt
  have l2_m : S_m < w20.heap.size + 1 := by omega
  go_wp2_with fail
  clear k_a_0 k_a_1 l_a l2_a k_b_0 k_b_1 l_b l2_b k_s_0 k_s_1 l_s l2_s k_o_0 k_o_1 l_o l2_o k_m_0 k_m_1 l_m l2_m
  refine (implSumShare_any _ x0 _ x1 (by omega) (by omega) 2 _ Ra0 Ra1).mono ?_
  rintro e w21 ⟨v0, d0, v1, d1, rfl, o0, o1, -, ld0, ld1, ad0, ad1, hb⟩
  rw [PP.out.sm] at ad0 ad1 ⊢
  rw [if_pos rfl] at ad0 ad1
  have Ad := Lib.hid (And.intro ad0 ad1)
  clear ad0 ad1
  obtain ⟨Ed0, cd0, rfl, q1, q2⟩ := o0.rd
  obtain ⟨Ed1, cd1, rfl, q3, q4⟩ := o1.rd
  have Rd0 := o0.rd
  have Rd1 := o1.rd
  clear q1 q2 q3 q4 o0 o1
  replace Ra0 := Ra0.below hb
  replace Ra1 := Ra1.below hb
  replace Rb0 := Rb0.below hb
  replace Rb1 := Rb1.below hb
  replace Rs0 := Rs0.below hb
  replace Rs1 := Rs1.below hb
  replace Ro0 := Ro0.below hb
  replace Ro1 := Ro1.below hb
  replace Rm0 := Rm0.below hb
  replace Rm1 := Rm1.below hb
  replace B_a := B_a.below hb
  replace B_b := B_b.below hb
  replace B_s := B_s.below hb
  replace B_o := B_o.below hb
  replace B_m := B_m.below hb
  replace hT := below_to hT hb hT.size
  clear hb
  have k_a_0 := B_a.cell 0 _ rfl
  have k_a_1 := B_a.cell 1 _ rfl
  have l_a := B_a.lt
  have l2_a : S_a < w21.heap.size + 1 := by omega
  have k_b_0 := B_b.cell 0 _ rfl
  have k_b_1 := B_b.cell 1 _ rfl
  have l_b := B_b.lt
  have l2_b : S_b < w21.heap.size + 1 := by omega
  have k_s_0 := B_s.cell 0 _ rfl
  have k_s_1 := B_s.cell 1 _ rfl
  have l_s := B_s.lt
  have l2_s : S_s < w21.heap.size + 1 := by omega
  have k_o_0 := B_o.cell 0 _ rfl
  have k_o_1 := B_o.cell 1 _ rfl
  have l_o := B_o.lt
  have l2_o : S_o < w21.heap.size + 1 := by omega
  have k_m_0 := B_m.cell 0 _ rfl
  have k_m_1 := B_m.cell 1 _ rfl
  have l_m := B_m.lt
  have l2_m : S_m < w21.heap.size + 1 := by omega
  go_wp2_with fail
  clear k_a_0 k_a_1 l_a l2_a k_b_0 k_b_1 l_b l2_b k_s_0 k_s_1 l_s l2_s k_o_0 k_o_1 l_o l2_o k_m_0 k_m_1 l_m l2_m
  have B_d : BoxAt (w21.alloc (.cells #[.slice Ed0 d0.length cd0, .slice Ed1 d1.length cd1] 26)) w21.heap.size [.slice Ed0 d0.length cd0, .slice Ed1 d1.length cd1] := BoxAt.new w21 _ _
  have hb := below_alloc w21 (.cells #[.slice Ed0 d0.length cd0, .slice Ed1 d1.length cd1] 26)
  obtain ⟨S_d, hS_d⟩ : ∃ S, S = w21.heap.size := ⟨_, rfl⟩
  rw [← hS_d] at B_d ⊢
  clear hS_d
  generalize hg : World.alloc w21 _ = w22 at *
  clear hg
  replace Ra0 := Ra0.below hb
  replace Ra1 := Ra1.below hb
  replace Rb0 := Rb0.below hb
  replace Rb1 := Rb1.below hb
  replace Rs0 := Rs0.below hb
  replace Rs1 := Rs1.below hb
  replace Ro0 := Ro0.below hb
  replace Ro1 := Ro1.below hb
  replace Rm0 := Rm0.below hb
  replace Rm1 := Rm1.below hb
  replace Rd0 := Rd0.below hb
  replace Rd1 := Rd1.below hb
  replace B_a := B_a.below hb
  replace B_b := B_b.below hb
  replace B_s := B_s.below hb
  replace B_o := B_o.below hb
  replace B_m := B_m.below hb
  replace hT := below_to hT hb hT.size
  clear hb
  refine (specAddShares_any _ x0 _ x1 (by omega) (by omega) _ x0 _ x1 (by omega) (by omega) _ Ra0 Ra1 Ra0 Ra1).mono ?_
  rintro e w23 ⟨v0, t0, v1, t1', rfl, o0, o1, -, lt0, lt1, at0, at1, hb⟩
  rw [PP.out.c2] at at0 at1 ⊢
  rw [if_pos rfl] at at0 at1
  have At := Lib.hid (And.intro at0 at1)
  clear at0 at1
  obtain ⟨Et0, ct0, rfl, q1, q2⟩ := o0.rd
  obtain ⟨Et1, ct1, rfl, q3, q4⟩ := o1.rd
  have Rt0 := o0.rd
  have Rt1 := o1.rd
  clear q1 q2 q3 q4 o0 o1
  replace Ra0 := Ra0.below hb
  replace Ra1 := Ra1.below hb
  replace Rb0 := Rb0.below hb
  replace Rb1 := Rb1.below hb
  replace Rs0 := Rs0.below hb
  replace Rs1 := Rs1.below hb
  replace Ro0 := Ro0.below hb
  replace Ro1 := Ro1.below hb
  replace Rm0 := Rm0.below hb
  replace Rm1 := Rm1.below hb
  replace Rd0 := Rd0.below hb
  replace Rd1 := Rd1.below hb
  replace B_a := B_a.below hb
  replace B_b := B_b.below hb
  replace B_s := B_s.below hb
  replace B_o := B_o.below hb
  replace B_m := B_m.below hb
  replace B_d := B_d.below hb
  replace hT := below_to hT hb hT.size
  clear hb
  obtain ⟨i0, i1, i2, i3, i4, i5⟩ := PP.out.dbl d0 d1 t0 t1' Ad.out.1 Ad.out.2 At.out.1 At.out.2
  have DL := Lib.hid (And.intro i0 (And.intro i1 (And.intro i2 (And.intro i3 (And.intro i4 i5)))))
  clear i0 i1 i2 i3 i4 i5
  have k_a_0 := B_a.cell 0 _ rfl
  have k_a_1 := B_a.cell 1 _ rfl
  have l_a := B_a.lt
  have l2_a : S_a < w23.heap.size + 1 := by omega
  have k_b_0 := B_b.cell 0 _ rfl
  have k_b_1 := B_b.cell 1 _ rfl
  have l_b := B_b.lt
  have l2_b : S_b < w23.heap.size + 1 := by omega
  have k_s_0 := B_s.cell 0 _ rfl
  have k_s_1 := B_s.cell 1 _ rfl
  have l_s := B_s.lt
  have l2_s : S_s < w23.heap.size + 1 := by omega
  have k_o_0 := B_o.cell 0 _ rfl
  have k_o_1 := B_o.cell 1 _ rfl
  have l_o := B_o.lt
  have l2_o : S_o < w23.heap.size + 1 := by omega
  have k_m_0 := B_m.cell 0 _ rfl
  have k_m_1 := B_m.cell 1 _ rfl
  have l_m := B_m.lt
  have l2_m : S_m < w23.heap.size + 1 := by omega
  have k_d_0 := B_d.cell 0 _ rfl
  have k_d_1 := B_d.cell 1 _ rfl
  have l_d := B_d.lt
  have l2_d : S_d < w23.heap.size + 1 := by omega
  go_wp2_with fail
  clear k_a_0 k_a_1 l_a l2_a k_b_0 k_b_1 l_b l2_b k_s_0 k_s_1 l_s l2_s k_o_0 k_o_1 l_o l2_o k_m_0 k_m_1 l_m l2_m k_d_0 k_d_1 l_d l2_d
  have B_t : BoxAt (w23.alloc (.cells #[.slice Et0 t0.length ct0, .slice Et1 t1'.length ct1] 26)) w23.heap.size [.slice Et0 t0.length ct0, .slice Et1 t1'.length ct1] := BoxAt.new w23 _ _
  have hb := below_alloc w23 (.cells #[.slice Et0 t0.length ct0, .slice Et1 t1'.length ct1] 26)
  obtain ⟨S_t, hS_t⟩ : ∃ S, S = w23.heap.size := ⟨_, rfl⟩
  rw [← hS_t] at B_t ⊢
  clear hS_t
  generalize hg : World.alloc w23 _ = w24 at *
  clear hg
  replace Ra0 := Ra0.below hb
  replace Ra1 := Ra1.below hb
  replace Rb0 := Rb0.below hb
  replace Rb1 := Rb1.below hb
  replace Rs0 := Rs0.below hb
  replace Rs1 := Rs1.below hb
  replace Ro0 := Ro0.below hb
  replace Ro1 := Ro1.below hb
  replace Rm0 := Rm0.below hb
  replace Rm1 := Rm1.below hb
  replace Rd0 := Rd0.below hb
  replace Rd1 := Rd1.below hb
  replace Rt0 := Rt0.below hb
  replace Rt1 := Rt1.below hb
  replace B_a := B_a.below hb
  replace B_b := B_b.below hb
  replace B_s := B_s.below hb
  replace B_o := B_o.below hb
  replace B_m := B_m.below hb
  replace B_d := B_d.below hb
  replace hT := below_to hT hb hT.size
  clear hb
  refine (moment_at2 _ x0 _ x1 (by omega) (by omega) 1 PP.out.nx PP.out.vn _ Ra0 Ra1).mono ?_
  rintro e w25 ⟨rfl, hb⟩
  replace Ra0 := Ra0.below hb
  replace Ra1 := Ra1.below hb
  replace Rb0 := Rb0.below hb
  replace Rb1 := Rb1.below hb
  replace Rs0 := Rs0.below hb
  replace Rs1 := Rs1.below hb
  replace Ro0 := Ro0.below hb
  replace Ro1 := Ro1.below hb
  replace Rm0 := Rm0.below hb
  replace Rm1 := Rm1.below hb
  replace Rd0 := Rd0.below hb
  replace Rd1 := Rd1.below hb
  replace Rt0 := Rt0.below hb
  replace Rt1 := Rt1.below hb
  replace B_a := B_a.below hb
  replace B_b := B_b.below hb
  replace B_s := B_s.below hb
  replace B_o := B_o.below hb
  replace B_m := B_m.below hb
  replace B_d := B_d.below hb
  replace B_t := B_t.below hb
  replace hT := below_to hT hb hT.size
  clear hb
  have k_a_0 := B_a.cell 0 _ rfl
  have k_a_1 := B_a.cell 1 _ rfl
  have l_a := B_a.lt
  have l2_a : S_a < w25.heap.size + 1 := by omega
  have k_b_0 := B_b.cell 0 _ rfl
  have k_b_1 := B_b.cell 1 _ rfl
  have l_b := B_b.lt
  have l2_b : S_b < w25.heap.size + 1 := by omega
  have k_s_0 := B_s.cell 0 _ rfl
  have k_s_1 := B_s.cell 1 _ rfl
  have l_s := B_s.lt
  have l2_s : S_s < w25.heap.size + 1 := by omega
  have k_o_0 := B_o.cell 0 _ rfl
  have k_o_1 := B_o.cell 1 _ rfl
  have l_o := B_o.lt
  have l2_o : S_o < w25.heap.size + 1 := by omega
  have k_m_0 := B_m.cell 0 _ rfl
  have k_m_1 := B_m.cell 1 _ rfl
  have l_m := B_m.lt
  have l2_m : S_m < w25.heap.size + 1 := by omega
  have k_d_0 := B_d.cell 0 _ rfl
  have k_d_1 := B_d.cell 1 _ rfl
  have l_d := B_d.lt
  have l2_d : S_d < w25.heap.size + 1 := by omega
  have k_t_0 := B_t.cell 0 _ rfl
  have k_t_1 := B_t.cell 1 _ rfl
  have l_t := B_t.lt
  have l2_t : S_t < w25.heap.size + 1 := by omega
  go_wp2_with fail
  clear k_a_0 k_a_1 l_a l2_a k_b_0 k_b_1 l_b l2_b k_s_0 k_s_1 l_s l2_s k_o_0 k_o_1 l_o l2_o k_m_0 k_m_1 l_m l2_m k_d_0 k_d_1 l_d l2_d k_t_0 k_t_1 l_t l2_t
  refine (implSameShare_any _ d0 _ d1 (by omega) (by omega) DL.out.1 DL.out.2.1 _ t0 _ t1' (by omega) (by omega) DL.out.2.2.1 DL.out.2.2.2.1 _ Rd0 Rd1 Rt0 Rt1).mono ?_
  rintro e w26 ⟨rfl, hb⟩
  replace Ra0 := Ra0.below hb
  replace Ra1 := Ra1.below hb
  replace Rb0 := Rb0.below hb
  replace Rb1 := Rb1.below hb
  replace Rs0 := Rs0.below hb
  replace Rs1 := Rs1.below hb
  replace Ro0 := Ro0.below hb
  replace Ro1 := Ro1.below hb
  replace Rm0 := Rm0.below hb
  replace Rm1 := Rm1.below hb
  replace Rd0 := Rd0.below hb
  replace Rd1 := Rd1.below hb
  replace Rt0 := Rt0.below hb
  replace Rt1 := Rt1.below hb
  replace B_a := B_a.below hb
  replace B_b := B_b.below hb
  replace B_s := B_s.below hb
  replace B_o := B_o.below hb
  replace B_m := B_m.below hb
  replace B_d := B_d.below hb
  replace B_t := B_t.below hb
  replace hT := below_to hT hb hT.size
  clear hb
  rw [same_sh DL.out.2.2.2.2.1 DL.out.2.2.2.2.2]
  have k_a_0 := B_a.cell 0 _ rfl
  have k_a_1 := B_a.cell 1 _ rfl
  have l_a := B_a.lt
  have l2_a : S_a < w26.heap.size + 1 := by omega
  have k_b_0 := B_b.cell 0 _ rfl
  have k_b_1 := B_b.cell 1 _ rfl
  have l_b := B_b.lt
  have l2_b : S_b < w26.heap.size + 1 := by omega
  have k_s_0 := B_s.cell 0 _ rfl
  have k_s_1 := B_s.cell 1 _ rfl
  have l_s := B_s.lt
  have l2_s : S_s < w26.heap.size + 1 := by omega
  have k_o_0 := B_o.cell 0 _ rfl
  have k_o_1 := B_o.cell 1 _ rfl
  have l_o := B_o.lt
  have l2_o : S_o < w26.heap.size + 1 := by omega
  have k_m_0 := B_m.cell 0 _ rfl
  have k_m_1 := B_m.cell 1 _ rfl
  have l_m := B_m.lt
  have l2_m : S_m < w26.heap.size + 1 := by omega
  have k_d_0 := B_d.cell 0 _ rfl
  have k_d_1 := B_d.cell 1 _ rfl
  have l_d := B_d.lt
  have l2_d : S_d < w26.heap.size + 1 := by omega
  have k_t_0 := B_t.cell 0 _ rfl
  have k_t_1 := B_t.cell 1 _ rfl
  have l_t := B_t.lt
  have l2_t : S_t < w26.heap.size + 1 := by omega
  go_wp2_with fail
  clear k_a_0 k_a_1 l_a l2_a k_b_0 k_b_1 l_b l2_b k_s_0 k_s_1 l_s l2_s k_o_0 k_o_1 l_o l2_o k_m_0 k_m_1 l_m l2_m k_d_0 k_d_1 l_d l2_d k_t_0 k_t_1 l_t l2_t
  refine (G3.out _).mono ?_
  rintro e w' ⟨rfl, rfl⟩
  have k_a_0 := B_a.cell 0 _ rfl
  have k_a_1 := B_a.cell 1 _ rfl
  have l_a := B_a.lt
  have l2_a : S_a < w26.heap.size + 1 := by omega
  have k_b_0 := B_b.cell 0 _ rfl
  have k_b_1 := B_b.cell 1 _ rfl
  have l_b := B_b.lt
  have l2_b : S_b < w26.heap.size + 1 := by omega
  have k_s_0 := B_s.cell 0 _ rfl
  have k_s_1 := B_s.cell 1 _ rfl
  have l_s := B_s.lt
  have l2_s : S_s < w26.heap.size + 1 := by omega
  have k_o_0 := B_o.cell 0 _ rfl
  have k_o_1 := B_o.cell 1 _ rfl
  have l_o := B_o.lt
  have l2_o : S_o < w26.heap.size + 1 := by omega
  have k_m_0 := B_m.cell 0 _ rfl
  have k_m_1 := B_m.cell 1 _ rfl
  have l_m := B_m.lt
  have l2_m : S_m < w26.heap.size + 1 := by omega
  have k_d_0 := B_d.cell 0 _ rfl
  have k_d_1 := B_d.cell 1 _ rfl
  have l_d := B_d.lt
  have l2_d : S_d < w26.heap.size + 1 := by omega
  have k_t_0 := B_t.cell 0 _ rfl
  have k_t_1 := B_t.cell 1 _ rfl
  have l_t := B_t.lt
  have l2_t : S_t < w26.heap.size + 1 := by omega
  go_wp2_with fail
  clear k_a_0 k_a_1 l_a l2_a k_b_0 k_b_1 l_b l2_b k_s_0 k_s_1 l_s l2_s k_o_0 k_o_1 l_o l2_o k_m_0 k_m_1 l_m l2_m k_d_0 k_d_1 l_d l2_d k_t_0 k_t_1 l_t l2_t
  refine (G4.out _).mono ?_
  rintro e w' ⟨rfl, rfl⟩
  go_wp2
  go_ret
  exact ⟨rfl, hT⟩
end Go.Proofs.Ytjajlddnhmbekaa
