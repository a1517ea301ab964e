/-
  The walk of FnQuantiles, over what is reckoned of two drawn shares.
-/
import Derived.Test.YtjajlddnhmbekaaGreatQuP2
import Derived.Test.YtjajlddnhmbekaaGreatQd
import Derived.Test.YtjajlddnhmbekaaGreatSeedSp2
import Derived.Test.YtjajlddnhmbekaaGreatGivenI
import Derived.Test.YtjajlddnhmbekaaGreatStpS
import Derived.Test.YtjajlddnhmbekaaGreatSameSh
namespace Go.Proofs.YtjajlddnhmbekaaGreat
open Go.RowKit

theorem run_up_y {b : Nat} (h : (FloatKind.f32.decode b).isNaN = false) (W : World) : (convert 28 35 (.float .f32 b)).run Tryz.prog W = .ok (.float .f64 (upBits b)) W := by
  have := run_up_ b W
  unfold upR upN at this
  rw [h] at this
  exact this
theorem quantile_at2 (s0 : Value) (xs : List Nat) (s1 : Value) (ys : List Nat) {M : Nat} (hl : xs.length ≤ 1099511627776) (hl2 : ys.length ≤ 1099511627776) (P : Nat) (h : quantB xs ys P = true) (hv : quantV xs ys P = M) (hm : absF .f32 M = some M) (w : World) (hr0 : Rd fV w s0 xs) (hr1 : Rd fV w s1 ys) :
    Calls Tryz.prog 7 #[shV s0 s1, fV P] w fun e w' => e = .returned (.tuple #[fV M, .bool true]) ∧ Below w.heap.size w w' := by
  refine (implQuantileOf_any s0 xs s1 ys hl hl2 P w hr0 hr1).mono ?_
  rintro e w' ⟨b, rfl, hb, hB⟩
  rw [hv, hm] at hb
  obtain ⟨rfl, -⟩ := absF_some hb
  rw [h]
  exact ⟨rfl, hB⟩
theorem below_at2 (s0 : Value) (xs : List Nat) (s1 : Value) (ys : List Nat) {M : Nat} (hl : xs.length ≤ 1099511627776) (hl2 : ys.length ≤ 1099511627776) (t : Nat) (h : belowOk xs ys t = true) (hv : belowV xs ys t = some M) (w : World) (hr0 : Rd fV w s0 xs) (hr1 : Rd fV w s1 ys) :
    Calls Tryz.prog 8 #[shV s0 s1, fV t] w fun e w' => e = .returned (.tuple #[fV M, .bool true]) ∧ Below w.heap.size w w' := by
  refine (implChanceBelow_any s0 xs s1 ys hl hl2 t w hr0 hr1).mono ?_
  rintro e w' ⟨b, rfl, hb, hB⟩
  rw [hv] at hb
  obtain ⟨rfl, -⟩ := absF_some hb
  rw [h]
  exact ⟨rfl, hB⟩
theorem apart_at2 {s0 s1 s2 s3 : Value} {x0 x1 x2 x3 : List Nat} {M : Nat} (h0 : x0.length ≤ 1099511627776) (h1 : x1.length ≤ 1099511627776) (h2 : x2.length ≤ 1099511627776) (h3 : x3.length ≤ 1099511627776) (h : bothOk x0 x1 x2 x3 = true) (hv : apartV x0 x1 x2 x3 = some M) (w : World) (hr0 : Rd fV w s0 x0) (hr1 : Rd fV w s1 x1) (hr2 : Rd fV w s2 x2) (hr3 : Rd fV w s3 x3) :
    Calls Tryz.prog 17 #[shV s0 s1, shV s2 s3] w fun e w' => e = .returned (.tuple #[fV M, .bool true]) ∧ Below w.heap.size w w' := by
  refine (implApartShares_any s0 x0 s1 x1 h0 h1 s2 x2 s3 x3 h2 h3 w hr0 hr1 hr2 hr3).mono ?_
  rintro e w' ⟨b, rfl, hb, hB⟩
  rw [hv] at hb
  obtain ⟨rfl, -⟩ := absF_some hb
  rw [h]
  exact ⟨rfl, hB⟩
theorem steps_at2 {s0 s1 s2 s3 : Value} {x0 x1 x2 x3 : List Nat} {M : Nat} (h0 : x0.length ≤ 1099511627776) (h1 : x1.length ≤ 1099511627776) (h2 : x2.length ≤ 1099511627776) (h3 : x3.length ≤ 1099511627776) (h : bothOk x0 x1 x2 x3 = true) (hv : stepsV x0 x1 x2 x3 = some M) (w : World) (hr0 : Rd fV w s0 x0) (hr1 : Rd fV w s1 x1) (hr2 : Rd fV w s2 x2) (hr3 : Rd fV w s3 x3) :
    Calls Tryz.prog 18 #[shV s0 s1, shV s2 s3] w fun e w' => e = .returned (.tuple #[fV M, .bool true]) ∧ Below w.heap.size w w' := by
  refine (implStepsApart_any s0 x0 s1 x1 h0 h1 s2 x2 s3 x3 h2 h3 w hr0 hr1 hr2 hr3).mono ?_
  rintro e w' ⟨b, rfl, hb, hB⟩
  rw [hv] at hb
  obtain ⟨rfl, -⟩ := absF_some hb
  rw [h]
  exact ⟨rfl, hB⟩
theorem entropy_at2 {s0 s1 : Value} {x0 x1 : List Nat} {M : Nat} (h0 : x0.length ≤ 1099511627776) (h1 : x1.length ≤ 1099511627776) (h : shareB x0 x1 = true) (hv : entR x0 x1 = some M) (w : World) (hr0 : Rd fV w s0 x0) (hr1 : Rd fV w s1 x1) :
    Calls Tryz.prog 19 #[shV s0 s1] w fun e w' => e = .returned (.tuple #[fV M, .bool true]) ∧ Below w.heap.size w w' := by
  refine (implEntropyOf_any s0 x0 s1 x1 h0 h1 w hr0 hr1).mono ?_
  rintro e w' ⟨b, rfl, hb, hB⟩
  rw [hv] at hb
  obtain ⟨rfl, -⟩ := absF_some hb
  rw [h]
  exact ⟨rfl, hB⟩
theorem seed_at2 {f : FuncId} {args : Array Value} {k a b : Int} {x0 x1 : List Nat} {w : World} {A B : Int} {x : Nat} (h : ssOk k a b x0 x1 = true) (hA : nextA k a b = A) (hB : nextB k a b = B) (hx : qv x0 x1 (gtA (shareU k a b)) = x) (hc : Calls Tryz.prog f args w (RetSeedShare k a b x0 x1 w)) :
    Calls Tryz.prog f args w fun e w' => e = .returned (.tuple #[sdV k A B, fV x, .bool true]) ∧ Below w.heap.size w w' := by
  refine hc.mono ?_
  rintro e w' ⟨rfl, hb⟩
  refine ⟨?_, hb⟩
  unfold ssSeed ssVal
  rw [h, if_pos rfl, if_pos rfl, hA, hB, hx]
theorem qv_lt {v c : List Nat} (hv : 1 ≤ v.length) (hw : ∀ x ∈ v, x < 4294967296) (p : Option Nat → Bool) : qv v c p < 4294967296 := by
  obtain ⟨k, x, hx, hq, -⟩ := qv_cases v c p hv
  rw [hq]
  exact hw x (List.mem_of_getElem? hx)
theorem sameNumber_sp {x : Nat} (hx : x < 4294967296) (w : World) : Calls Tryz.prog 20 #[fV x, fV x] w fun e w' => e = .returned (.bool true) ∧ w = w' := by
  have hs : Hid (sameB x x = true) := by unfold Hid sameB; exact decide_eq_true rfl
  go_enter Tryz.func20, Tryz.ntmps20
  go_wp2_with fail
  refine (l01Same_any x x hx hx _).mono ?_
  rintro e w' ⟨rfl, rfl⟩
  go_wp2
  go_ret
  exact ⟨ret_bool hs.out, rfl⟩

set_option maxHeartbeats 12800000 in
set_option maxRecDepth 100000 in
theorem lawQuantiles_any (u0 v0 : Value) (xs ys : List (Fin 256)) (w : World) (hr : Rd yV w u0 xs) (hs : Rd yV w v0 ys) :
    Calls Tryz.prog 3 #[u0, v0] w fun e w' => e = .returned (.bool true) ∧ Below w.heap.size w w' := by
  have HR0 := Lib.hid hr
  have HR1 := Lib.hid hs
  have HL := Lib.hid (b10Long_any u0 v0 xs ys w hr hs)
  clear hs hr
  cases hL : (decide (1048576 < xs.length) || decide (1048576 < ys.length))
  case true =>
    rw [hL] at HL
    clear hL
    go_enter Tryz.func3, Tryz.ntmps3
    go_wp2_with fail
    refine HL.out.mono ?_
    rintro e w' ⟨rfl, rfl⟩
    go_wp2
    go_ret
    exact ⟨rfl, Below.refl _ _⟩
  rw [hL] at HL
  have hx40 : xs.length ≤ 1048576 := by
    rw [Bool.or_eq_false_iff, decide_eq_false_iff_not] at hL; omega
  have hy40 : ys.length ≤ 1048576 := by
    rw [Bool.or_eq_false_iff, decide_eq_false_iff_not, decide_eq_false_iff_not] at hL; omega
  clear hL
  have hat : ∀ (i n : Nat), i ≤ 1000 → 2 ≤ n → n ≤ 1000 → ∀ W, Below w.heap.size w W → Calls Tryz.prog 6 #[v0, .int .i64 i, .int .i64 n] W fun e w' => e = .returned (.int .i64 ((b10A ys i n : Nat) : Int)) ∧ W = w' := fun i n h1 h2 h3 W hW => b10At_any v0 ys i n h1 h2 h3 W (HR1.out.below hW)
  have A0 := Lib.hid (hat 0 17 (by omega) (by omega) (by omega))
  have A1 := Lib.hid (hat 1 33 (by omega) (by omega) (by omega))
  have hv9 := b10A_lt ys 0 (n := 17) (by omega)
  have hu9 := b10A_lt ys 1 (n := 33) (by omega)
  clear hat
  generalize b10A ys 0 17 = v at A0 hv9
  generalize b10A ys 1 33 = u at A1 hu9
  have hT := Below.refl w.heap.size w
  go_enter Tryz.func3, Tryz.ntmps3
  go_wp2_with fail
  refine HL.out.mono ?_
  rintro e w' ⟨rfl, rfl⟩
  go_wp2_with fail
  refine (b10Share_any _ xs (by omega) _ (HR0.out.below hT)).mono ?_
  rintro e w1 ⟨zsa, csa, v0, x0, v1, x1, rfl, hDa, Ra0, Ra1, aa0, aa1, hb⟩
  have HAa := Lib.hid (And.intro hDa (And.intro aa0 aa1))
  clear hDa aa0 aa1
  replace hT := below_to hT hb hT.size
  clear hb
  obtain ⟨Ea0, ca0, rfl, q1, q2⟩ := Ra0
  obtain ⟨Ea1, ca1, rfl, q3, q4⟩ := Ra1
  have Ra0 : Rd fV w1 (.slice Ea0 x0.length ca0) x0 := ⟨_, _, rfl, q1, q2⟩
  have Ra1 : Rd fV w1 (.slice Ea1 x1.length ca1) x1 := ⟨_, _, rfl, q3, q4⟩
  clear q1 q2 q3 q4
  go_wp2_with fail
  have B_a : BoxAt (w1.alloc (.cells #[.slice Ea0 x0.length ca0, .slice Ea1 x1.length ca1] 26)) w1.heap.size [.slice Ea0 x0.length ca0, .slice Ea1 x1.length ca1] := BoxAt.new w1 _ _
  have hb := below_alloc w1 (.cells #[.slice Ea0 x0.length ca0, .slice Ea1 x1.length ca1] 26)
  obtain ⟨S_a, hS_a⟩ : ∃ S, S = w1.heap.size := ⟨_, rfl⟩
  rw [← hS_a] at B_a ⊢
  clear hS_a
  generalize hg : World.alloc w1 _ = w2 at *
  clear hg
  replace Ra0 := Ra0.below hb
  replace Ra1 := Ra1.below hb
  replace hT := below_to hT hb hT.size
  clear hb
  refine (b10Share_any _ ys (by omega) _ (HR1.out.below hT)).mono ?_
  rintro e w3 ⟨zsb, csb, v0, y0, v1, y1, rfl, hDb, Rb0, Rb1, ab0, ab1, hb⟩
  have HAb := Lib.hid (And.intro hDb (And.intro ab0 ab1))
  clear hDb ab0 ab1
  replace Ra0 := Ra0.below hb
  replace Ra1 := Ra1.below hb
  replace B_a := B_a.below hb
  replace hT := below_to hT hb hT.size
  clear hb
  obtain ⟨Eb0, cb0, rfl, q1, q2⟩ := Rb0
  obtain ⟨Eb1, cb1, rfl, q3, q4⟩ := Rb1
  have Rb0 : Rd fV w3 (.slice Eb0 y0.length cb0) y0 := ⟨_, _, rfl, q1, q2⟩
  have Rb1 : Rd fV w3 (.slice Eb1 y1.length cb1) y1 := ⟨_, _, rfl, q3, q4⟩
  clear q1 q2 q3 q4
  obtain ⟨G, hG⟩ := dsh_of HAa.out.1 HAa.out.2.1 HAa.out.2.2
  obtain ⟨H, hH⟩ := dsh_of HAb.out.1 HAb.out.2.1 HAb.out.2.2
  obtain ⟨a, B, Pc, Qc, d1, m1, s1, m2, m3, s2, A, A', St, N, E, g3, s3, hP⟩ := quP_of hG hH hv9 hu9
  have nx0 : x0.length ≤ 64 := by rw [hG.gsh.l0]; exact hG.gsh.len
  have nx1 : x1.length ≤ 64 := by rw [hG.gsh.l1]; exact hG.gsh.len
  have ny0 : y0.length ≤ 64 := by rw [hH.gsh.l0]; exact hH.gsh.len
  have ny1 : y1.length ≤ 64 := by rw [hH.gsh.l1]; exact hH.gsh.len
  have px0 : 1 ≤ x0.length := by rw [hG.gsh.l0]; exact hG.ge
  have PP := Lib.hid hP
  have u0 := fun W => run_up_y hP.fP W
  have u1 := fun W => run_up_y hP.fB W
  have u2 := fun W => run_up_y hP.fPc W
  have u3 := fun W => run_up_y hP.fQc W
  have u4 := fun W => run_up_y hP.fA W
  have u5 := fun W => run_up_y hP.fA' W
  have u6 := fun W => run_up_y hP.fSt W
  have u7 := fun W => run_up_y hP.fE W
  have f0 := fun W => run_float_arith (P := Tryz.prog) W .sub 35 .f64 _ _ _ hP.e1
  have f1 := fun W => run_float_arith (P := Tryz.prog) W .mul 35 .f64 _ _ _ hP.e2
  have f2 := fun W => run_float_arith (P := Tryz.prog) W .sub 35 .f64 _ _ _ hP.e3
  have f3 := fun W => run_float_arith (P := Tryz.prog) W .mul 35 .f64 _ _ _ hP.e4
  have f4 := fun W => run_float_arith (P := Tryz.prog) W .mul 35 .f64 _ _ _ hP.e5
  have f5 := fun W => run_float_arith (P := Tryz.prog) W .add 35 .f64 _ _ _ hP.e6
  have f6 := fun W => run_float_arith (P := Tryz.prog) W .add 35 .f64 _ _ _ hP.e8
  have f8 := fun W => run_float_arith (P := Tryz.prog) W .quo 28 .f32 _ _ _ (sxd_tab v hv9).1
  have f9 := fun W => run_float_arith (P := Tryz.prog) W .quo 28 .f32 _ _ _ (qtr_tab u hu9).1
  have o_l1 := hP.l1
  have o_l3 := hP.l3
  have o_l4 := hP.l4
  have o_l5 := hP.l5
  have o_l6 := hP.l6
  have o_l7 := hP.l7
  have o_n0 := hP.n0
  have G3 := Lib.hid (fun W => b10Gap_any hP.e7 W)
  clear hP HAa HAb hG hH
  have k_a_0 := B_a.cell 0 _ rfl
  have k_a_1 := B_a.cell 1 _ rfl
  have l_a := B_a.lt
  have l2_a : S_a < w3.heap.size + 1 := by omega
  go_wp2_with fail
  clear k_a_0 k_a_1 l_a l2_a
  have B_b : BoxAt (w3.alloc (.cells #[.slice Eb0 y0.length cb0, .slice Eb1 y1.length cb1] 26)) w3.heap.size [.slice Eb0 y0.length cb0, .slice Eb1 y1.length cb1] := BoxAt.new w3 _ _
  have hb := below_alloc w3 (.cells #[.slice Eb0 y0.length cb0, .slice Eb1 y1.length cb1] 26)
  obtain ⟨S_b, hS_b⟩ : ∃ S, S = w3.heap.size := ⟨_, rfl⟩
  rw [← hS_b] at B_b ⊢
  clear hS_b
  generalize hg : World.alloc w3 _ = w4 at *
  clear hg
  replace Ra0 := Ra0.below hb
  replace Ra1 := Ra1.below hb
  replace Rb0 := Rb0.below hb
  replace Rb1 := Rb1.below hb
  replace B_a := B_a.below hb
  replace hT := below_to hT hb hT.size
  clear hb
  refine (A0.out _ hT).mono ?_
  rintro e w' ⟨rfl, rfl⟩
  have k_a_0 := B_a.cell 0 _ rfl
  have k_a_1 := B_a.cell 1 _ rfl
  have l_a := B_a.lt
  have l2_a : S_a < w4.heap.size + 1 := by omega
  have k_b_0 := B_b.cell 0 _ rfl
  have k_b_1 := B_b.cell 1 _ rfl
  have l_b := B_b.lt
  have l2_b : S_b < w4.heap.size + 1 := by omega
  go_wp2_with fail
  clear k_a_0 k_a_1 l_a l2_a k_b_0 k_b_1 l_b l2_b
  refine (quantile_at2 _ x0 _ x1 (by omega) (by omega) _ PP.out.qb PP.out.qv PP.out.qa _ Ra0 Ra1).mono ?_
  rintro e w5 ⟨rfl, hb⟩
  replace Ra0 := Ra0.below hb
  replace Ra1 := Ra1.below hb
  replace Rb0 := Rb0.below hb
  replace Rb1 := Rb1.below hb
  replace B_a := B_a.below hb
  replace B_b := B_b.below hb
  replace hT := below_to hT hb hT.size
  clear hb
  have k_a_0 := B_a.cell 0 _ rfl
  have k_a_1 := B_a.cell 1 _ rfl
  have l_a := B_a.lt
  have l2_a : S_a < w5.heap.size + 1 := by omega
  have k_b_0 := B_b.cell 0 _ rfl
  have k_b_1 := B_b.cell 1 _ rfl
  have l_b := B_b.lt
  have l2_b : S_b < w5.heap.size + 1 := by omega
  go_wp2_with fail
  clear k_a_0 k_a_1 l_a l2_a k_b_0 k_b_1 l_b l2_b
  refine (below_at2 _ x0 _ x1 (by omega) (by omega) _ PP.out.bo PP.out.bv _ Ra0 Ra1).mono ?_
  rintro e w6 ⟨rfl, hb⟩
  replace Ra0 := Ra0.below hb
  replace Ra1 := Ra1.below hb
  replace Rb0 := Rb0.below hb
  replace Rb1 := Rb1.below hb
  replace B_a := B_a.below hb
  replace B_b := B_b.below hb
  replace hT := below_to hT hb hT.size
  clear hb
  have k_a_0 := B_a.cell 0 _ rfl
  have k_a_1 := B_a.cell 1 _ rfl
  have l_a := B_a.lt
  have l2_a : S_a < w6.heap.size + 1 := by omega
  have k_b_0 := B_b.cell 0 _ rfl
  have k_b_1 := B_b.cell 1 _ rfl
  have l_b := B_b.lt
  have l2_b : S_b < w6.heap.size + 1 := by omega
  go_wp2_with fail
  clear k_a_0 k_a_1 l_a l2_a k_b_0 k_b_1 l_b l2_b
  refine (implGreaterShare_any _ x0 _ x1 (by omega) (by omega) _ y0 _ y1 (by omega) (by omega) _ Ra0 Ra1 Rb0 Rb1).mono ?_
  rintro e w7 ⟨v0, z0, v1, z1, rfl, o0, o1, -, lg0, lg1, ag0, ag1, hb⟩
  rw [PP.out.c1] at ag0 ag1 ⊢
  rw [if_pos rfl] at ag0 ag1
  have Ag := Lib.hid (And.intro ag0 ag1)
  clear ag0 ag1
  obtain ⟨Eg0, cg0, rfl, q1, q2⟩ := o0.rd
  obtain ⟨Eg1, cg1, rfl, q3, q4⟩ := o1.rd
  have Rg0 := o0.rd
  have Rg1 := o1.rd
  clear q1 q2 q3 q4 o0 o1
  replace Ra0 := Ra0.below hb
  replace Ra1 := Ra1.below hb
  replace Rb0 := Rb0.below hb
  replace Rb1 := Rb1.below hb
  replace B_a := B_a.below hb
  replace B_b := B_b.below hb
  replace hT := below_to hT hb hT.size
  clear hb
  obtain ⟨ng0, ng1, R, g1, ro, rv, fR, gg, og⟩ := PP.out.gr z0 z1 Ag.out.1 Ag.out.2
  have RO := Lib.hid (And.intro ro rv)
  have u10 := fun W => run_up_y fR W
  have G1 := Lib.hid (fun W => b10Gap_any gg W)
  clear ro rv gg
  have k_a_0 := B_a.cell 0 _ rfl
  have k_a_1 := B_a.cell 1 _ rfl
  have l_a := B_a.lt
  have l2_a : S_a < w7.heap.size + 1 := by omega
  have k_b_0 := B_b.cell 0 _ rfl
  have k_b_1 := B_b.cell 1 _ rfl
  have l_b := B_b.lt
  have l2_b : S_b < w7.heap.size + 1 := by omega
  go_wp2_with fail
  clear k_a_0 k_a_1 l_a l2_a k_b_0 k_b_1 l_b l2_b
  have B_g : BoxAt (w7.alloc (.cells #[.slice Eg0 z0.length cg0, .slice Eg1 z1.length cg1] 26)) w7.heap.size [.slice Eg0 z0.length cg0, .slice Eg1 z1.length cg1] := BoxAt.new w7 _ _
  have hb := below_alloc w7 (.cells #[.slice Eg0 z0.length cg0, .slice Eg1 z1.length cg1] 26)
  obtain ⟨S_g, hS_g⟩ : ∃ S, S = w7.heap.size := ⟨_, rfl⟩
  rw [← hS_g] at B_g ⊢
  clear hS_g
  generalize hg : World.alloc w7 _ = w8 at *
  clear hg
  replace Ra0 := Ra0.below hb
  replace Ra1 := Ra1.below hb
  replace Rb0 := Rb0.below hb
  replace Rb1 := Rb1.below hb
  replace Rg0 := Rg0.below hb
  replace Rg1 := Rg1.below hb
  replace B_a := B_a.below hb
  replace B_b := B_b.below hb
  replace hT := below_to hT hb hT.size
  clear hb
  refine (implMixShares_any _ x0 _ x1 (by omega) (by omega) _ y0 _ y1 (by omega) (by omega) _ _ Ra0 Ra1 Rb0 Rb1).mono ?_
  rintro e w9 ⟨v0, t0, v1, t1, rfl, o0, o1, -, lm0, lm1, am0, am1, hb⟩
  rw [PP.out.c2] at am0 am1 ⊢
  rw [if_pos rfl] at am0 am1
  have Am := Lib.hid (And.intro am0 am1)
  clear am0 am1
  obtain ⟨Em0, cm0, rfl, q1, q2⟩ := o0.rd
  obtain ⟨Em1, cm1, rfl, q3, q4⟩ := o1.rd
  have Rm0 := o0.rd
  have Rm1 := o1.rd
  clear q1 q2 q3 q4 o0 o1
  replace Ra0 := Ra0.below hb
  replace Ra1 := Ra1.below hb
  replace Rb0 := Rb0.below hb
  replace Rb1 := Rb1.below hb
  replace Rg0 := Rg0.below hb
  replace Rg1 := Rg1.below hb
  replace B_a := B_a.below hb
  replace B_b := B_b.below hb
  replace B_g := B_g.below hb
  replace hT := below_to hT hb hT.size
  clear hb
  obtain ⟨nm0, nm1, T, g2, ro, rv, fT, gg, om⟩ := PP.out.mi t0 t1 Am.out.1 Am.out.2
  have TO := Lib.hid (And.intro ro rv)
  have u11 := fun W => run_up_y fT W
  have G2 := Lib.hid (fun W => b10Gap_any gg W)
  clear ro rv gg
  have k_a_0 := B_a.cell 0 _ rfl
  have k_a_1 := B_a.cell 1 _ rfl
  have l_a := B_a.lt
  have l2_a : S_a < w9.heap.size + 1 := by omega
  have k_b_0 := B_b.cell 0 _ rfl
  have k_b_1 := B_b.cell 1 _ rfl
  have l_b := B_b.lt
  have l2_b : S_b < w9.heap.size + 1 := by omega
  have k_g_0 := B_g.cell 0 _ rfl
  have k_g_1 := B_g.cell 1 _ rfl
  have l_g := B_g.lt
  have l2_g : S_g < w9.heap.size + 1 := by omega
  go_wp2_with fail
  clear k_a_0 k_a_1 l_a l2_a k_b_0 k_b_1 l_b l2_b k_g_0 k_g_1 l_g l2_g
  have B_m : BoxAt (w9.alloc (.cells #[.slice Em0 t0.length cm0, .slice Em1 t1.length cm1] 26)) w9.heap.size [.slice Em0 t0.length cm0, .slice Em1 t1.length cm1] := BoxAt.new w9 _ _
  have hb := below_alloc w9 (.cells #[.slice Em0 t0.length cm0, .slice Em1 t1.length cm1] 26)
  obtain ⟨S_m, hS_m⟩ : ∃ S, S = w9.heap.size := ⟨_, rfl⟩
  rw [← hS_m] at B_m ⊢
  clear hS_m
  generalize hg : World.alloc w9 _ = w10 at *
  clear hg
  replace Ra0 := Ra0.below hb
  replace Ra1 := Ra1.below hb
  replace Rb0 := Rb0.below hb
  replace Rb1 := Rb1.below hb
  replace Rg0 := Rg0.below hb
  replace Rg1 := Rg1.below hb
  replace Rm0 := Rm0.below hb
  replace Rm1 := Rm1.below hb
  replace B_a := B_a.below hb
  replace B_b := B_b.below hb
  replace B_g := B_g.below hb
  replace hT := below_to hT hb hT.size
  clear hb
  refine (A1.out _ hT).mono ?_
  rintro e w' ⟨rfl, rfl⟩
  have k_a_0 := B_a.cell 0 _ rfl
  have k_a_1 := B_a.cell 1 _ rfl
  have l_a := B_a.lt
  have l2_a : S_a < w10.heap.size + 1 := by omega
  have k_b_0 := B_b.cell 0 _ rfl
  have k_b_1 := B_b.cell 1 _ rfl
  have l_b := B_b.lt
  have l2_b : S_b < w10.heap.size + 1 := by omega
  have k_g_0 := B_g.cell 0 _ rfl
  have k_g_1 := B_g.cell 1 _ rfl
  have l_g := B_g.lt
  have l2_g : S_g < w10.heap.size + 1 := by omega
  have k_m_0 := B_m.cell 0 _ rfl
  have k_m_1 := B_m.cell 1 _ rfl
  have l_m := B_m.lt
  have l2_m : S_m < w10.heap.size + 1 := by omega
  go_wp2_with fail
  clear k_a_0 k_a_1 l_a l2_a k_b_0 k_b_1 l_b l2_b k_g_0 k_g_1 l_g l2_g k_m_0 k_m_1 l_m l2_m
  refine (below_at2 _ x0 _ x1 (by omega) (by omega) _ PP.out.po PP.out.pv _ Ra0 Ra1).mono ?_
  rintro e w11 ⟨rfl, hb⟩
  replace Ra0 := Ra0.below hb
  replace Ra1 := Ra1.below hb
  replace Rb0 := Rb0.below hb
  replace Rb1 := Rb1.below hb
  replace Rg0 := Rg0.below hb
  replace Rg1 := Rg1.below hb
  replace Rm0 := Rm0.below hb
  replace Rm1 := Rm1.below hb
  replace B_a := B_a.below hb
  replace B_b := B_b.below hb
  replace B_g := B_g.below hb
  replace B_m := B_m.below hb
  replace hT := below_to hT hb hT.size
  clear hb
  have k_a_0 := B_a.cell 0 _ rfl
  have k_a_1 := B_a.cell 1 _ rfl
  have l_a := B_a.lt
  have l2_a : S_a < w11.heap.size + 1 := by omega
  have k_b_0 := B_b.cell 0 _ rfl
  have k_b_1 := B_b.cell 1 _ rfl
  have l_b := B_b.lt
  have l2_b : S_b < w11.heap.size + 1 := by omega
  have k_g_0 := B_g.cell 0 _ rfl
  have k_g_1 := B_g.cell 1 _ rfl
  have l_g := B_g.lt
  have l2_g : S_g < w11.heap.size + 1 := by omega
  have k_m_0 := B_m.cell 0 _ rfl
  have k_m_1 := B_m.cell 1 _ rfl
  have l_m := B_m.lt
  have l2_m : S_m < w11.heap.size + 1 := by omega
  go_wp2_with fail
  clear k_a_0 k_a_1 l_a l2_a k_b_0 k_b_1 l_b l2_b k_g_0 k_g_1 l_g l2_g k_m_0 k_m_1 l_m l2_m
  refine (below_at2 _ y0 _ y1 (by omega) (by omega) _ PP.out.qo PP.out.qw _ Rb0 Rb1).mono ?_
  rintro e w12 ⟨rfl, hb⟩
  replace Ra0 := Ra0.below hb
  replace Ra1 := Ra1.below hb
  replace Rb0 := Rb0.below hb
  replace Rb1 := Rb1.below hb
  replace Rg0 := Rg0.below hb
  replace Rg1 := Rg1.below hb
  replace Rm0 := Rm0.below hb
  replace Rm1 := Rm1.below hb
  replace B_a := B_a.below hb
  replace B_b := B_b.below hb
  replace B_g := B_g.below hb
  replace B_m := B_m.below hb
  replace hT := below_to hT hb hT.size
  clear hb
  have k_a_0 := B_a.cell 0 _ rfl
  have k_a_1 := B_a.cell 1 _ rfl
  have l_a := B_a.lt
  have l2_a : S_a < w12.heap.size + 1 := by omega
  have k_b_0 := B_b.cell 0 _ rfl
  have k_b_1 := B_b.cell 1 _ rfl
  have l_b := B_b.lt
  have l2_b : S_b < w12.heap.size + 1 := by omega
  have k_g_0 := B_g.cell 0 _ rfl
  have k_g_1 := B_g.cell 1 _ rfl
  have l_g := B_g.lt
  have l2_g : S_g < w12.heap.size + 1 := by omega
  have k_m_0 := B_m.cell 0 _ rfl
  have k_m_1 := B_m.cell 1 _ rfl
  have l_m := B_m.lt
  have l2_m : S_m < w12.heap.size + 1 := by omega
  go_wp2_with fail
  clear k_a_0 k_a_1 l_a l2_a k_b_0 k_b_1 l_b l2_b k_g_0 k_g_1 l_g l2_g k_m_0 k_m_1 l_m l2_m
  refine (below_at2 _ z0 _ z1 (by omega) (by omega) _ RO.out.1 RO.out.2 _ Rg0 Rg1).mono ?_
  rintro e w13 ⟨rfl, hb⟩
  replace Ra0 := Ra0.below hb
  replace Ra1 := Ra1.below hb
  replace Rb0 := Rb0.below hb
  replace Rb1 := Rb1.below hb
  replace Rg0 := Rg0.below hb
  replace Rg1 := Rg1.below hb
  replace Rm0 := Rm0.below hb
  replace Rm1 := Rm1.below hb
  replace B_a := B_a.below hb
  replace B_b := B_b.below hb
  replace B_g := B_g.below hb
  replace B_m := B_m.below hb
  replace hT := below_to hT hb hT.size
  clear hb
  clear B_g Rg0 Rg1
  have k_a_0 := B_a.cell 0 _ rfl
  have k_a_1 := B_a.cell 1 _ rfl
  have l_a := B_a.lt
  have l2_a : S_a < w13.heap.size + 1 := by omega
  have k_b_0 := B_b.cell 0 _ rfl
  have k_b_1 := B_b.cell 1 _ rfl
  have l_b := B_b.lt
  have l2_b : S_b < w13.heap.size + 1 := by omega
  have k_m_0 := B_m.cell 0 _ rfl
  have k_m_1 := B_m.cell 1 _ rfl
  have l_m := B_m.lt
  have l2_m : S_m < w13.heap.size + 1 := by omega
  go_wp2_with fail
  clear k_a_0 k_a_1 l_a l2_a k_b_0 k_b_1 l_b l2_b k_m_0 k_m_1 l_m l2_m
  refine (below_at2 _ t0 _ t1 (by omega) (by omega) _ TO.out.1 TO.out.2 _ Rm0 Rm1).mono ?_
  rintro e w14 ⟨rfl, hb⟩
  replace Ra0 := Ra0.below hb
  replace Ra1 := Ra1.below hb
  replace Rb0 := Rb0.below hb
  replace Rb1 := Rb1.below hb
  replace Rm0 := Rm0.below hb
  replace Rm1 := Rm1.below hb
  replace B_a := B_a.below hb
  replace B_b := B_b.below hb
  replace B_m := B_m.below hb
  replace hT := below_to hT hb hT.size
  clear hb
  clear B_m Rm0 Rm1
  have k_a_0 := B_a.cell 0 _ rfl
  have k_a_1 := B_a.cell 1 _ rfl
  have l_a := B_a.lt
  have l2_a : S_a < w14.heap.size + 1 := by omega
  have k_b_0 := B_b.cell 0 _ rfl
  have k_b_1 := B_b.cell 1 _ rfl
  have l_b := B_b.lt
  have l2_b : S_b < w14.heap.size + 1 := by omega
  go_wp2_with fail
  clear k_a_0 k_a_1 l_a l2_a k_b_0 k_b_1 l_b l2_b
  refine (G1.out _).mono ?_
  rintro e w' ⟨rfl, rfl⟩
  have k_a_0 := B_a.cell 0 _ rfl
  have k_a_1 := B_a.cell 1 _ rfl
  have l_a := B_a.lt
  have l2_a : S_a < w14.heap.size + 1 := by omega
  have k_b_0 := B_b.cell 0 _ rfl
  have k_b_1 := B_b.cell 1 _ rfl
  have l_b := B_b.lt
  have l2_b : S_b < w14.heap.size + 1 := by omega
  go_wp2_with fail
  clear k_a_0 k_a_1 l_a l2_a k_b_0 k_b_1 l_b l2_b
  refine (G2.out _).mono ?_
  rintro e w' ⟨rfl, rfl⟩
  cases hgo : givOk x0 x1 (qtr u)
  case false =>
    have HGO := Lib.hid hgo
    clear hgo
    have k_a_0 := B_a.cell 0 _ rfl
    have k_a_1 := B_a.cell 1 _ rfl
    have l_a := B_a.lt
    have l2_a : S_a < w14.heap.size + 1 := by omega
    have k_b_0 := B_b.cell 0 _ rfl
    have k_b_1 := B_b.cell 1 _ rfl
    have l_b := B_b.lt
    have l2_b : S_b < w14.heap.size + 1 := by omega
    go_wp2_with fail
    clear k_a_0 k_a_1 l_a l2_a k_b_0 k_b_1 l_b l2_b
    refine (implGivenAbove_any _ x0 _ x1 (by omega) (by omega) _ _ Ra0 Ra1).mono ?_
    rintro e w15 ⟨v0, v0v, v1, v1v, rfl, o0, o1, -, lv0, lv1, av0, av1, hb⟩
    rw [HGO.out] at av0 av1 ⊢
    rw [if_neg (by simp)] at av0 av1
    have Av := Lib.hid (And.intro av0 av1)
    clear av0 av1
    obtain ⟨Ev0, cv0, rfl, q1, q2⟩ := o0.rd
    obtain ⟨Ev1, cv1, rfl, q3, q4⟩ := o1.rd
    have Rv0 := o0.rd
    have Rv1 := o1.rd
    clear q1 q2 q3 q4 o0 o1
    replace Ra0 := Ra0.below hb
    replace Ra1 := Ra1.below hb
    replace Rb0 := Rb0.below hb
    replace Rb1 := Rb1.below hb
    replace B_a := B_a.below hb
    replace B_b := B_b.below hb
    replace hT := below_to hT hb hT.size
    clear hb
    have k_a_0 := B_a.cell 0 _ rfl
    have k_a_1 := B_a.cell 1 _ rfl
    have l_a := B_a.lt
    have l2_a : S_a < w15.heap.size + 1 := by omega
    have k_b_0 := B_b.cell 0 _ rfl
    have k_b_1 := B_b.cell 1 _ rfl
    have l_b := B_b.lt
    have l2_b : S_b < w15.heap.size + 1 := by omega
    go_wp2_with fail
    clear k_a_0 k_a_1 l_a l2_a k_b_0 k_b_1 l_b l2_b
    have B_v : BoxAt (w15.alloc (.cells #[.slice Ev0 v0v.length cv0, .slice Ev1 v1v.length cv1] 26)) w15.heap.size [.slice Ev0 v0v.length cv0, .slice Ev1 v1v.length cv1] := BoxAt.new w15 _ _
    have hb := below_alloc w15 (.cells #[.slice Ev0 v0v.length cv0, .slice Ev1 v1v.length cv1] 26)
    obtain ⟨S_v, hS_v⟩ : ∃ S, S = w15.heap.size := ⟨_, rfl⟩
    rw [← hS_v] at B_v ⊢
    clear hS_v
    generalize hg : World.alloc w15 _ = w16 at *
    clear hg
    replace Ra0 := Ra0.below hb
    replace Ra1 := Ra1.below hb
    replace Rb0 := Rb0.below hb
    replace Rb1 := Rb1.below hb
    replace Rv0 := Rv0.below hb
    replace Rv1 := Rv1.below hb
    replace B_a := B_a.below hb
    replace B_b := B_b.below hb
    replace hT := below_to hT hb hT.size
    clear hb
    refine (specGivenAbove_any _ x0 _ x1 (by omega) (by omega) _ _ Ra0 Ra1).mono ?_
    rintro e w17 ⟨v0, r0, v1, r1, rfl, o0, o1, -, lr0, lr1, ar0, ar1, hb⟩
    rw [HGO.out] at ar0 ar1 ⊢
    rw [if_neg (by simp)] at ar0 ar1
    have Ar := Lib.hid (And.intro ar0 ar1)
    clear ar0 ar1
    obtain ⟨Er0, cr0, rfl, q1, q2⟩ := o0.rd
    obtain ⟨Er1, cr1, rfl, q3, q4⟩ := o1.rd
    have Rr0 := o0.rd
    have Rr1 := o1.rd
    clear q1 q2 q3 q4 o0 o1
    replace Ra0 := Ra0.below hb
    replace Ra1 := Ra1.below hb
    replace Rb0 := Rb0.below hb
    replace Rb1 := Rb1.below hb
    replace Rv0 := Rv0.below hb
    replace Rv1 := Rv1.below hb
    replace B_a := B_a.below hb
    replace B_b := B_b.below hb
    replace B_v := B_v.below hb
    replace hT := below_to hT hb hT.size
    clear hb
    have k_a_0 := B_a.cell 0 _ rfl
    have k_a_1 := B_a.cell 1 _ rfl
    have l_a := B_a.lt
    have l2_a : S_a < w17.heap.size + 1 := by omega
    have k_b_0 := B_b.cell 0 _ rfl
    have k_b_1 := B_b.cell 1 _ rfl
    have l_b := B_b.lt
    have l2_b : S_b < w17.heap.size + 1 := by omega
    have k_v_0 := B_v.cell 0 _ rfl
    have k_v_1 := B_v.cell 1 _ rfl
    have l_v := B_v.lt
    have l2_v : S_v < w17.heap.size + 1 := by omega
    go_wp2_with fail
    clear k_a_0 k_a_1 l_a l2_a k_b_0 k_b_1 l_b l2_b k_v_0 k_v_1 l_v l2_v
    have B_r : BoxAt (w17.alloc (.cells #[.slice Er0 r0.length cr0, .slice Er1 r1.length cr1] 26)) w17.heap.size [.slice Er0 r0.length cr0, .slice Er1 r1.length cr1] := BoxAt.new w17 _ _
    have hb := below_alloc w17 (.cells #[.slice Er0 r0.length cr0, .slice Er1 r1.length cr1] 26)
    obtain ⟨S_r, hS_r⟩ : ∃ S, S = w17.heap.size := ⟨_, rfl⟩
    rw [← hS_r] at B_r ⊢
    clear hS_r
    generalize hg : World.alloc w17 _ = w18 at *
    clear hg
    replace Ra0 := Ra0.below hb
    replace Ra1 := Ra1.below hb
    replace Rb0 := Rb0.below hb
    replace Rb1 := Rb1.below hb
    replace Rv0 := Rv0.below hb
    replace Rv1 := Rv1.below hb
    replace Rr0 := Rr0.below hb
    replace Rr1 := Rr1.below hb
    replace B_a := B_a.below hb
    replace B_b := B_b.below hb
    replace B_v := B_v.below hb
    replace hT := below_to hT hb hT.size
    clear hb
    refine (b10Seed_any _ xs (by omega) _ (HR0.out.below hT)).mono ?_
    rintro e w19 ⟨k, sa, sb, rfl, hs, hb0, hb⟩
    have HS := Lib.hid hs
    clear hs
    replace Ra0 := Ra0.below hb
    replace Ra1 := Ra1.below hb
    replace Rb0 := Rb0.below hb
    replace Rb1 := Rb1.below hb
    replace Rv0 := Rv0.below hb
    replace Rv1 := Rv1.below hb
    replace Rr0 := Rr0.below hb
    replace Rr1 := Rr1.below hb
    replace B_a := B_a.below hb
    replace B_b := B_b.below hb
    replace B_v := B_v.below hb
    replace B_r := B_r.below hb
    replace hT := below_to hT hb hT.size
    clear hb
    have HO := Lib.hid (ss_t HS.out PP.out.sh)
    obtain ⟨na, hna⟩ : ∃ n, n = nextA k sa sb := ⟨_, rfl⟩
    obtain ⟨nb, hnb⟩ : ∃ n, n = nextB k sa sb := ⟨_, rfl⟩
    obtain ⟨sx, hsx⟩ : ∃ n, n = qv x0 x1 (gtA (shareU k sa sb)) := ⟨_, rfl⟩
    have HX := Lib.hid (show sx < 4294967296 by rw [hsx]; exact qv_lt px0 PP.out.w0 _)
    have HQ := Lib.hid (And.intro hna.symm (And.intro hnb.symm hsx.symm))
    clear hna hnb hsx
    have k_a_0 := B_a.cell 0 _ rfl
    have k_a_1 := B_a.cell 1 _ rfl
    have l_a := B_a.lt
    have l2_a : S_a < w19.heap.size + 1 := by omega
    have k_b_0 := B_b.cell 0 _ rfl
    have k_b_1 := B_b.cell 1 _ rfl
    have l_b := B_b.lt
    have l2_b : S_b < w19.heap.size + 1 := by omega
    have k_v_0 := B_v.cell 0 _ rfl
    have k_v_1 := B_v.cell 1 _ rfl
    have l_v := B_v.lt
    have l2_v : S_v < w19.heap.size + 1 := by omega
    have k_r_0 := B_r.cell 0 _ rfl
    have k_r_1 := B_r.cell 1 _ rfl
    have l_r := B_r.lt
    have l2_r : S_r < w19.heap.size + 1 := by omega
    go_wp2_with fail
    clear k_a_0 k_a_1 l_a l2_a k_b_0 k_b_1 l_b l2_b k_v_0 k_v_1 l_v l2_v k_r_0 k_r_1 l_r l2_r
    have B_s : BoxAt (w19.alloc (.cells #[.int .i64 k, u64V sa, u64V sb] 40)) w19.heap.size [.int .i64 k, u64V sa, u64V sb] := BoxAt.new w19 _ _
    have hb := below_alloc w19 (.cells #[.int .i64 k, u64V sa, u64V sb] 40)
    obtain ⟨S_s, hS_s⟩ : ∃ S, S = w19.heap.size := ⟨_, rfl⟩
    rw [← hS_s] at B_s ⊢
    clear hS_s
    generalize hg : World.alloc w19 _ = w20 at *
    clear hg
    replace Ra0 := Ra0.below hb
    replace Ra1 := Ra1.below hb
    replace Rb0 := Rb0.below hb
    replace Rb1 := Rb1.below hb
    replace Rv0 := Rv0.below hb
    replace Rv1 := Rv1.below hb
    replace Rr0 := Rr0.below hb
    replace Rr1 := Rr1.below hb
    replace B_a := B_a.below hb
    replace B_b := B_b.below hb
    replace B_v := B_v.below hb
    replace B_r := B_r.below hb
    replace hT := below_to hT hb hT.size
    clear hb
    refine (seed_at2 HO.out HQ.out.1 HQ.out.2.1 HQ.out.2.2 (implSeedShare_any k sa sb hb0 _ x0 _ x1 (by omega) (by omega) _ Ra0 Ra1)).mono ?_
    rintro e w21 ⟨rfl, hb⟩
    replace Ra0 := Ra0.below hb
    replace Ra1 := Ra1.below hb
    replace Rb0 := Rb0.below hb
    replace Rb1 := Rb1.below hb
    replace Rv0 := Rv0.below hb
    replace Rv1 := Rv1.below hb
    replace Rr0 := Rr0.below hb
    replace Rr1 := Rr1.below hb
    replace B_a := B_a.below hb
    replace B_b := B_b.below hb
    replace B_v := B_v.below hb
    replace B_r := B_r.below hb
    replace B_s := B_s.below hb
    replace hT := below_to hT hb hT.size
    clear hb
    have k_a_0 := B_a.cell 0 _ rfl
    have k_a_1 := B_a.cell 1 _ rfl
    have l_a := B_a.lt
    have l2_a : S_a < w21.heap.size + 1 := by omega
    have k_b_0 := B_b.cell 0 _ rfl
    have k_b_1 := B_b.cell 1 _ rfl
    have l_b := B_b.lt
    have l2_b : S_b < w21.heap.size + 1 := by omega
    have k_v_0 := B_v.cell 0 _ rfl
    have k_v_1 := B_v.cell 1 _ rfl
    have l_v := B_v.lt
    have l2_v : S_v < w21.heap.size + 1 := by omega
    have k_r_0 := B_r.cell 0 _ rfl
    have k_r_1 := B_r.cell 1 _ rfl
    have l_r := B_r.lt
    have l2_r : S_r < w21.heap.size + 1 := by omega
    have k_s_0 := B_s.cell 0 _ rfl
    have k_s_1 := B_s.cell 1 _ rfl
    have k_s_2 := B_s.cell 2 _ rfl
    have l_s := B_s.lt
    have l2_s : S_s < w21.heap.size + 1 := by omega
    go_wp2_with fail
    clear k_a_0 k_a_1 l_a l2_a k_b_0 k_b_1 l_b l2_b k_v_0 k_v_1 l_v l2_v k_r_0 k_r_1 l_r l2_r k_s_0 k_s_1 k_s_2 l_s l2_s
    have B_c : BoxAt (w21.alloc (.cells #[.int .i64 k, u64V na, u64V nb] 40)) w21.heap.size [.int .i64 k, u64V na, u64V nb] := BoxAt.new w21 _ _
    have hb := below_alloc w21 (.cells #[.int .i64 k, u64V na, u64V nb] 40)
    obtain ⟨S_c, hS_c⟩ : ∃ S, S = w21.heap.size := ⟨_, rfl⟩
    rw [← hS_c] at B_c ⊢
    clear hS_c
    generalize hg : World.alloc w21 _ = w22 at *
    clear hg
    replace Ra0 := Ra0.below hb
    replace Ra1 := Ra1.below hb
    replace Rb0 := Rb0.below hb
    replace Rb1 := Rb1.below hb
    replace Rv0 := Rv0.below hb
    replace Rv1 := Rv1.below hb
    replace Rr0 := Rr0.below hb
    replace Rr1 := Rr1.below hb
    replace B_a := B_a.below hb
    replace B_b := B_b.below hb
    replace B_v := B_v.below hb
    replace B_r := B_r.below hb
    replace B_s := B_s.below hb
    replace hT := below_to hT hb hT.size
    clear hb
    refine (seed_at2 HO.out HQ.out.1 HQ.out.2.1 HQ.out.2.2 (specSeedShare_any k sa sb hb0 _ x0 _ x1 (by omega) (by omega) _ Ra0 Ra1)).mono ?_
    rintro e w23 ⟨rfl, hb⟩
    replace Ra0 := Ra0.below hb
    replace Ra1 := Ra1.below hb
    replace Rb0 := Rb0.below hb
    replace Rb1 := Rb1.below hb
    replace Rv0 := Rv0.below hb
    replace Rv1 := Rv1.below hb
    replace Rr0 := Rr0.below hb
    replace Rr1 := Rr1.below hb
    replace B_a := B_a.below hb
    replace B_b := B_b.below hb
    replace B_v := B_v.below hb
    replace B_r := B_r.below hb
    replace B_s := B_s.below hb
    replace B_c := B_c.below hb
    replace hT := below_to hT hb hT.size
    clear hb
    have k_a_0 := B_a.cell 0 _ rfl
    have k_a_1 := B_a.cell 1 _ rfl
    have l_a := B_a.lt
    have l2_a : S_a < w23.heap.size + 1 := by omega
    have k_b_0 := B_b.cell 0 _ rfl
    have k_b_1 := B_b.cell 1 _ rfl
    have l_b := B_b.lt
    have l2_b : S_b < w23.heap.size + 1 := by omega
    have k_v_0 := B_v.cell 0 _ rfl
    have k_v_1 := B_v.cell 1 _ rfl
    have l_v := B_v.lt
    have l2_v : S_v < w23.heap.size + 1 := by omega
    have k_r_0 := B_r.cell 0 _ rfl
    have k_r_1 := B_r.cell 1 _ rfl
    have l_r := B_r.lt
    have l2_r : S_r < w23.heap.size + 1 := by omega
    have k_s_0 := B_s.cell 0 _ rfl
    have k_s_1 := B_s.cell 1 _ rfl
    have k_s_2 := B_s.cell 2 _ rfl
    have l_s := B_s.lt
    have l2_s : S_s < w23.heap.size + 1 := by omega
    have k_c_0 := B_c.cell 0 _ rfl
    have k_c_1 := B_c.cell 1 _ rfl
    have k_c_2 := B_c.cell 2 _ rfl
    have l_c := B_c.lt
    have l2_c : S_c < w23.heap.size + 1 := by omega
    go_wp2_with fail
    clear k_a_0 k_a_1 l_a l2_a k_b_0 k_b_1 l_b l2_b k_v_0 k_v_1 l_v l2_v k_r_0 k_r_1 l_r l2_r k_s_0 k_s_1 k_s_2 l_s l2_s k_c_0 k_c_1 k_c_2 l_c l2_c
    have B_d : BoxAt (w23.alloc (.cells #[.int .i64 k, u64V na, u64V nb] 40)) w23.heap.size [.int .i64 k, u64V na, u64V nb] := BoxAt.new w23 _ _
    have hb := below_alloc w23 (.cells #[.int .i64 k, u64V na, u64V nb] 40)
    obtain ⟨S_d, hS_d⟩ : ∃ S, S = w23.heap.size := ⟨_, rfl⟩
    rw [← hS_d] at B_d ⊢
    clear hS_d
    generalize hg : World.alloc w23 _ = w24 at *
    clear hg
    replace Ra0 := Ra0.below hb
    replace Ra1 := Ra1.below hb
    replace Rb0 := Rb0.below hb
    replace Rb1 := Rb1.below hb
    replace Rv0 := Rv0.below hb
    replace Rv1 := Rv1.below hb
    replace Rr0 := Rr0.below hb
    replace Rr1 := Rr1.below hb
    replace B_a := B_a.below hb
    replace B_b := B_b.below hb
    replace B_v := B_v.below hb
    replace B_r := B_r.below hb
    replace B_s := B_s.below hb
    replace B_c := B_c.below hb
    replace hT := below_to hT hb hT.size
    clear hb
    refine (apart_at2 (by omega) (by omega) (by omega) (by omega) PP.out.b1 PP.out.av _ Ra0 Ra1 Rb0 Rb1).mono ?_
    rintro e w25 ⟨rfl, hb⟩
    replace Ra0 := Ra0.below hb
    replace Ra1 := Ra1.below hb
    replace Rb0 := Rb0.below hb
    replace Rb1 := Rb1.below hb
    replace Rv0 := Rv0.below hb
    replace Rv1 := Rv1.below hb
    replace Rr0 := Rr0.below hb
    replace Rr1 := Rr1.below hb
    replace B_a := B_a.below hb
    replace B_b := B_b.below hb
    replace B_v := B_v.below hb
    replace B_r := B_r.below hb
    replace B_s := B_s.below hb
    replace B_c := B_c.below hb
    replace B_d := B_d.below hb
    replace hT := below_to hT hb hT.size
    clear hb
    have k_a_0 := B_a.cell 0 _ rfl
    have k_a_1 := B_a.cell 1 _ rfl
    have l_a := B_a.lt
    have l2_a : S_a < w25.heap.size + 1 := by omega
    have k_b_0 := B_b.cell 0 _ rfl
    have k_b_1 := B_b.cell 1 _ rfl
    have l_b := B_b.lt
    have l2_b : S_b < w25.heap.size + 1 := by omega
    have k_v_0 := B_v.cell 0 _ rfl
    have k_v_1 := B_v.cell 1 _ rfl
    have l_v := B_v.lt
    have l2_v : S_v < w25.heap.size + 1 := by omega
    have k_r_0 := B_r.cell 0 _ rfl
    have k_r_1 := B_r.cell 1 _ rfl
    have l_r := B_r.lt
    have l2_r : S_r < w25.heap.size + 1 := by omega
    have k_s_0 := B_s.cell 0 _ rfl
    have k_s_1 := B_s.cell 1 _ rfl
    have k_s_2 := B_s.cell 2 _ rfl
    have l_s := B_s.lt
    have l2_s : S_s < w25.heap.size + 1 := by omega
    have k_c_0 := B_c.cell 0 _ rfl
    have k_c_1 := B_c.cell 1 _ rfl
    have k_c_2 := B_c.cell 2 _ rfl
    have l_c := B_c.lt
    have l2_c : S_c < w25.heap.size + 1 := by omega
    have k_d_0 := B_d.cell 0 _ rfl
    have k_d_1 := B_d.cell 1 _ rfl
    have k_d_2 := B_d.cell 2 _ rfl
    have l_d := B_d.lt
    have l2_d : S_d < w25.heap.size + 1 := by omega
    go_wp2_with fail
    clear k_a_0 k_a_1 l_a l2_a k_b_0 k_b_1 l_b l2_b k_v_0 k_v_1 l_v l2_v k_r_0 k_r_1 l_r l2_r k_s_0 k_s_1 k_s_2 l_s l2_s k_c_0 k_c_1 k_c_2 l_c l2_c k_d_0 k_d_1 k_d_2 l_d l2_d
    refine (apart_at2 (by omega) (by omega) (by omega) (by omega) PP.out.b2 PP.out.aw _ Rb0 Rb1 Ra0 Ra1).mono ?_
    rintro e w26 ⟨rfl, hb⟩
    replace Ra0 := Ra0.below hb
    replace Ra1 := Ra1.below hb
    replace Rb0 := Rb0.below hb
    replace Rb1 := Rb1.below hb
    replace Rv0 := Rv0.below hb
    replace Rv1 := Rv1.below hb
    replace Rr0 := Rr0.below hb
    replace Rr1 := Rr1.below hb
    replace B_a := B_a.below hb
    replace B_b := B_b.below hb
    replace B_v := B_v.below hb
    replace B_r := B_r.below hb
    replace B_s := B_s.below hb
    replace B_c := B_c.below hb
    replace B_d := B_d.below hb
    replace hT := below_to hT hb hT.size
    clear hb
    have k_a_0 := B_a.cell 0 _ rfl
    have k_a_1 := B_a.cell 1 _ rfl
    have l_a := B_a.lt
    have l2_a : S_a < w26.heap.size + 1 := by omega
    have k_b_0 := B_b.cell 0 _ rfl
    have k_b_1 := B_b.cell 1 _ rfl
    have l_b := B_b.lt
    have l2_b : S_b < w26.heap.size + 1 := by omega
    have k_v_0 := B_v.cell 0 _ rfl
    have k_v_1 := B_v.cell 1 _ rfl
    have l_v := B_v.lt
    have l2_v : S_v < w26.heap.size + 1 := by omega
    have k_r_0 := B_r.cell 0 _ rfl
    have k_r_1 := B_r.cell 1 _ rfl
    have l_r := B_r.lt
    have l2_r : S_r < w26.heap.size + 1 := by omega
    have k_s_0 := B_s.cell 0 _ rfl
    have k_s_1 := B_s.cell 1 _ rfl
    have k_s_2 := B_s.cell 2 _ rfl
    have l_s := B_s.lt
    have l2_s : S_s < w26.heap.size + 1 := by omega
    have k_c_0 := B_c.cell 0 _ rfl
    have k_c_1 := B_c.cell 1 _ rfl
    have k_c_2 := B_c.cell 2 _ rfl
    have l_c := B_c.lt
    have l2_c : S_c < w26.heap.size + 1 := by omega
    have k_d_0 := B_d.cell 0 _ rfl
    have k_d_1 := B_d.cell 1 _ rfl
    have k_d_2 := B_d.cell 2 _ rfl
    have l_d := B_d.lt
    have l2_d : S_d < w26.heap.size + 1 := by omega
    go_wp2_with fail
    clear k_a_0 k_a_1 l_a l2_a k_b_0 k_b_1 l_b l2_b k_v_0 k_v_1 l_v l2_v k_r_0 k_r_1 l_r l2_r k_s_0 k_s_1 k_s_2 l_s l2_s k_c_0 k_c_1 k_c_2 l_c l2_c k_d_0 k_d_1 k_d_2 l_d l2_d
    refine (steps_at2 (by omega) (by omega) (by omega) (by omega) PP.out.b1 PP.out.sv _ Ra0 Ra1 Rb0 Rb1).mono ?_
    rintro e w27 ⟨rfl, hb⟩
    replace Ra0 := Ra0.below hb
    replace Ra1 := Ra1.below hb
    replace Rb0 := Rb0.below hb
    replace Rb1 := Rb1.below hb
    replace Rv0 := Rv0.below hb
    replace Rv1 := Rv1.below hb
    replace Rr0 := Rr0.below hb
    replace Rr1 := Rr1.below hb
    replace B_a := B_a.below hb
    replace B_b := B_b.below hb
    replace B_v := B_v.below hb
    replace B_r := B_r.below hb
    replace B_s := B_s.below hb
    replace B_c := B_c.below hb
    replace B_d := B_d.below hb
    replace hT := below_to hT hb hT.size
    clear hb
    have k_a_0 := B_a.cell 0 _ rfl
    have k_a_1 := B_a.cell 1 _ rfl
    have l_a := B_a.lt
    have l2_a : S_a < w27.heap.size + 1 := by omega
    have k_b_0 := B_b.cell 0 _ rfl
    have k_b_1 := B_b.cell 1 _ rfl
    have l_b := B_b.lt
    have l2_b : S_b < w27.heap.size + 1 := by omega
    have k_v_0 := B_v.cell 0 _ rfl
    have k_v_1 := B_v.cell 1 _ rfl
    have l_v := B_v.lt
    have l2_v : S_v < w27.heap.size + 1 := by omega
    have k_r_0 := B_r.cell 0 _ rfl
    have k_r_1 := B_r.cell 1 _ rfl
    have l_r := B_r.lt
    have l2_r : S_r < w27.heap.size + 1 := by omega
    have k_s_0 := B_s.cell 0 _ rfl
    have k_s_1 := B_s.cell 1 _ rfl
    have k_s_2 := B_s.cell 2 _ rfl
    have l_s := B_s.lt
    have l2_s : S_s < w27.heap.size + 1 := by omega
    have k_c_0 := B_c.cell 0 _ rfl
    have k_c_1 := B_c.cell 1 _ rfl
    have k_c_2 := B_c.cell 2 _ rfl
    have l_c := B_c.lt
    have l2_c : S_c < w27.heap.size + 1 := by omega
    have k_d_0 := B_d.cell 0 _ rfl
    have k_d_1 := B_d.cell 1 _ rfl
    have k_d_2 := B_d.cell 2 _ rfl
    have l_d := B_d.lt
    have l2_d : S_d < w27.heap.size + 1 := by omega
    go_wp2_with fail
    clear k_a_0 k_a_1 l_a l2_a k_b_0 k_b_1 l_b l2_b k_v_0 k_v_1 l_v l2_v k_r_0 k_r_1 l_r l2_r k_s_0 k_s_1 k_s_2 l_s l2_s k_c_0 k_c_1 k_c_2 l_c l2_c k_d_0 k_d_1 k_d_2 l_d l2_d
    refine (apart_at2 (by omega) (by omega) (by omega) (by omega) PP.out.b3 PP.out.nv _ Ra0 Ra1 Ra0 Ra1).mono ?_
    rintro e w28 ⟨rfl, hb⟩
    replace Ra0 := Ra0.below hb
    replace Ra1 := Ra1.below hb
    replace Rb0 := Rb0.below hb
    replace Rb1 := Rb1.below hb
    replace Rv0 := Rv0.below hb
    replace Rv1 := Rv1.below hb
    replace Rr0 := Rr0.below hb
    replace Rr1 := Rr1.below hb
    replace B_a := B_a.below hb
    replace B_b := B_b.below hb
    replace B_v := B_v.below hb
    replace B_r := B_r.below hb
    replace B_s := B_s.below hb
    replace B_c := B_c.below hb
    replace B_d := B_d.below hb
    replace hT := below_to hT hb hT.size
    clear hb
    have k_a_0 := B_a.cell 0 _ rfl
    have k_a_1 := B_a.cell 1 _ rfl
    have l_a := B_a.lt
    have l2_a : S_a < w28.heap.size + 1 := by omega
    have k_b_0 := B_b.cell 0 _ rfl
    have k_b_1 := B_b.cell 1 _ rfl
    have l_b := B_b.lt
    have l2_b : S_b < w28.heap.size + 1 := by omega
    have k_v_0 := B_v.cell 0 _ rfl
    have k_v_1 := B_v.cell 1 _ rfl
    have l_v := B_v.lt
    have l2_v : S_v < w28.heap.size + 1 := by omega
    have k_r_0 := B_r.cell 0 _ rfl
    have k_r_1 := B_r.cell 1 _ rfl
    have l_r := B_r.lt
    have l2_r : S_r < w28.heap.size + 1 := by omega
    have k_s_0 := B_s.cell 0 _ rfl
    have k_s_1 := B_s.cell 1 _ rfl
    have k_s_2 := B_s.cell 2 _ rfl
    have l_s := B_s.lt
    have l2_s : S_s < w28.heap.size + 1 := by omega
    have k_c_0 := B_c.cell 0 _ rfl
    have k_c_1 := B_c.cell 1 _ rfl
    have k_c_2 := B_c.cell 2 _ rfl
    have l_c := B_c.lt
    have l2_c : S_c < w28.heap.size + 1 := by omega
    have k_d_0 := B_d.cell 0 _ rfl
    have k_d_1 := B_d.cell 1 _ rfl
    have k_d_2 := B_d.cell 2 _ rfl
    have l_d := B_d.lt
    have l2_d : S_d < w28.heap.size + 1 := by omega
    go_wp2_with fail
    clear k_a_0 k_a_1 l_a l2_a k_b_0 k_b_1 l_b l2_b k_v_0 k_v_1 l_v l2_v k_r_0 k_r_1 l_r l2_r k_s_0 k_s_1 k_s_2 l_s l2_s k_c_0 k_c_1 k_c_2 l_c l2_c k_d_0 k_d_1 k_d_2 l_d l2_d
    refine (entropy_at2 (by omega) (by omega) PP.out.sh PP.out.ev _ Ra0 Ra1).mono ?_
    rintro e w29 ⟨rfl, hb⟩
    replace Ra0 := Ra0.below hb
    replace Ra1 := Ra1.below hb
    replace Rb0 := Rb0.below hb
    replace Rb1 := Rb1.below hb
    replace Rv0 := Rv0.below hb
    replace Rv1 := Rv1.below hb
    replace Rr0 := Rr0.below hb
    replace Rr1 := Rr1.below hb
    replace B_a := B_a.below hb
    replace B_b := B_b.below hb
    replace B_v := B_v.below hb
    replace B_r := B_r.below hb
    replace B_s := B_s.below hb
    replace B_c := B_c.below hb
    replace B_d := B_d.below hb
    replace hT := below_to hT hb hT.size
    clear hb
    have k_a_0 := B_a.cell 0 _ rfl
    have k_a_1 := B_a.cell 1 _ rfl
    have l_a := B_a.lt
    have l2_a : S_a < w29.heap.size + 1 := by omega
    have k_b_0 := B_b.cell 0 _ rfl
    have k_b_1 := B_b.cell 1 _ rfl
    have l_b := B_b.lt
    have l2_b : S_b < w29.heap.size + 1 := by omega
    have k_v_0 := B_v.cell 0 _ rfl
    have k_v_1 := B_v.cell 1 _ rfl
    have l_v := B_v.lt
    have l2_v : S_v < w29.heap.size + 1 := by omega
    have k_r_0 := B_r.cell 0 _ rfl
    have k_r_1 := B_r.cell 1 _ rfl
    have l_r := B_r.lt
    have l2_r : S_r < w29.heap.size + 1 := by omega
    have k_s_0 := B_s.cell 0 _ rfl
    have k_s_1 := B_s.cell 1 _ rfl
    have k_s_2 := B_s.cell 2 _ rfl
    have l_s := B_s.lt
    have l2_s : S_s < w29.heap.size + 1 := by omega
    have k_c_0 := B_c.cell 0 _ rfl
    have k_c_1 := B_c.cell 1 _ rfl
    have k_c_2 := B_c.cell 2 _ rfl
    have l_c := B_c.lt
    have l2_c : S_c < w29.heap.size + 1 := by omega
    have k_d_0 := B_d.cell 0 _ rfl
    have k_d_1 := B_d.cell 1 _ rfl
    have k_d_2 := B_d.cell 2 _ rfl
    have l_d := B_d.lt
    have l2_d : S_d < w29.heap.size + 1 := by omega
    go_wp2_with fail
    clear k_a_0 k_a_1 l_a l2_a k_b_0 k_b_1 l_b l2_b k_v_0 k_v_1 l_v l2_v k_r_0 k_r_1 l_r l2_r k_s_0 k_s_1 k_s_2 l_s l2_s k_c_0 k_c_1 k_c_2 l_c l2_c k_d_0 k_d_1 k_d_2 l_d l2_d
    refine (sameNumber_sp HX.out _).mono ?_
    rintro e w' ⟨rfl, rfl⟩
    have k_a_0 := B_a.cell 0 _ rfl
    have k_a_1 := B_a.cell 1 _ rfl
    have l_a := B_a.lt
    have l2_a : S_a < w29.heap.size + 1 := by omega
    have k_b_0 := B_b.cell 0 _ rfl
    have k_b_1 := B_b.cell 1 _ rfl
    have l_b := B_b.lt
    have l2_b : S_b < w29.heap.size + 1 := by omega
    have k_v_0 := B_v.cell 0 _ rfl
    have k_v_1 := B_v.cell 1 _ rfl
    have l_v := B_v.lt
    have l2_v : S_v < w29.heap.size + 1 := by omega
    have k_r_0 := B_r.cell 0 _ rfl
    have k_r_1 := B_r.cell 1 _ rfl
    have l_r := B_r.lt
    have l2_r : S_r < w29.heap.size + 1 := by omega
    have k_s_0 := B_s.cell 0 _ rfl
    have k_s_1 := B_s.cell 1 _ rfl
    have k_s_2 := B_s.cell 2 _ rfl
    have l_s := B_s.lt
    have l2_s : S_s < w29.heap.size + 1 := by omega
    have k_c_0 := B_c.cell 0 _ rfl
    have k_c_1 := B_c.cell 1 _ rfl
    have k_c_2 := B_c.cell 2 _ rfl
    have l_c := B_c.lt
    have l2_c : S_c < w29.heap.size + 1 := by omega
    have k_d_0 := B_d.cell 0 _ rfl
    have k_d_1 := B_d.cell 1 _ rfl
    have k_d_2 := B_d.cell 2 _ rfl
    have l_d := B_d.lt
    have l2_d : S_d < w29.heap.size + 1 := by omega
    go_wp2_with fail
    clear k_a_0 k_a_1 l_a l2_a k_b_0 k_b_1 l_b l2_b k_v_0 k_v_1 l_v l2_v k_r_0 k_r_1 l_r l2_r k_s_0 k_s_1 k_s_2 l_s l2_s k_c_0 k_c_1 k_c_2 l_c l2_c k_d_0 k_d_1 k_d_2 l_d l2_d
    refine (G3.out _).mono ?_
    rintro e w' ⟨rfl, rfl⟩
    go_wp2
    go_ret
    exact ⟨rfl, hT⟩
  case true =>
    have HGO := Lib.hid hgo
    clear hgo
    have k_a_0 := B_a.cell 0 _ rfl
    have k_a_1 := B_a.cell 1 _ rfl
    have l_a := B_a.lt
    have l2_a : S_a < w14.heap.size + 1 := by omega
    have k_b_0 := B_b.cell 0 _ rfl
    have k_b_1 := B_b.cell 1 _ rfl
    have l_b := B_b.lt
    have l2_b : S_b < w14.heap.size + 1 := by omega
    go_wp2_with fail
    clear k_a_0 k_a_1 l_a l2_a k_b_0 k_b_1 l_b l2_b
    refine (implGivenAbove_any _ x0 _ x1 (by omega) (by omega) _ _ Ra0 Ra1).mono ?_
    rintro e w15 ⟨v0, v0v, v1, v1v, rfl, o0, o1, -, lv0, lv1, av0, av1, hb⟩
    rw [HGO.out] at av0 av1 ⊢
    rw [if_pos rfl] at av0 av1
    have Av := Lib.hid (And.intro av0 av1)
    clear av0 av1
    obtain ⟨Ev0, cv0, rfl, q1, q2⟩ := o0.rd
    obtain ⟨Ev1, cv1, rfl, q3, q4⟩ := o1.rd
    have Rv0 := o0.rd
    have Rv1 := o1.rd
    clear q1 q2 q3 q4 o0 o1
    replace Ra0 := Ra0.below hb
    replace Ra1 := Ra1.below hb
    replace Rb0 := Rb0.below hb
    replace Rb1 := Rb1.below hb
    replace B_a := B_a.below hb
    replace B_b := B_b.below hb
    replace hT := below_to hT hb hT.size
    clear hb
    have k_a_0 := B_a.cell 0 _ rfl
    have k_a_1 := B_a.cell 1 _ rfl
    have l_a := B_a.lt
    have l2_a : S_a < w15.heap.size + 1 := by omega
    have k_b_0 := B_b.cell 0 _ rfl
    have k_b_1 := B_b.cell 1 _ rfl
    have l_b := B_b.lt
    have l2_b : S_b < w15.heap.size + 1 := by omega
    go_wp2_with fail
    clear k_a_0 k_a_1 l_a l2_a k_b_0 k_b_1 l_b l2_b
    have B_v : BoxAt (w15.alloc (.cells #[.slice Ev0 v0v.length cv0, .slice Ev1 v1v.length cv1] 26)) w15.heap.size [.slice Ev0 v0v.length cv0, .slice Ev1 v1v.length cv1] := BoxAt.new w15 _ _
    have hb := below_alloc w15 (.cells #[.slice Ev0 v0v.length cv0, .slice Ev1 v1v.length cv1] 26)
    obtain ⟨S_v, hS_v⟩ : ∃ S, S = w15.heap.size := ⟨_, rfl⟩
    rw [← hS_v] at B_v ⊢
    clear hS_v
    generalize hg : World.alloc w15 _ = w16 at *
    clear hg
    replace Ra0 := Ra0.below hb
    replace Ra1 := Ra1.below hb
    replace Rb0 := Rb0.below hb
    replace Rb1 := Rb1.below hb
    replace Rv0 := Rv0.below hb
    replace Rv1 := Rv1.below hb
    replace B_a := B_a.below hb
    replace B_b := B_b.below hb
    replace hT := below_to hT hb hT.size
    clear hb
    refine (specGivenAbove_any _ x0 _ x1 (by omega) (by omega) _ _ Ra0 Ra1).mono ?_
    rintro e w17 ⟨v0, r0, v1, r1, rfl, o0, o1, -, lr0, lr1, ar0, ar1, hb⟩
    rw [HGO.out] at ar0 ar1 ⊢
    rw [if_pos rfl] at ar0 ar1
    have Ar := Lib.hid (And.intro ar0 ar1)
    clear ar0 ar1
    obtain ⟨Er0, cr0, rfl, q1, q2⟩ := o0.rd
    obtain ⟨Er1, cr1, rfl, q3, q4⟩ := o1.rd
    have Rr0 := o0.rd
    have Rr1 := o1.rd
    clear q1 q2 q3 q4 o0 o1
    replace Ra0 := Ra0.below hb
    replace Ra1 := Ra1.below hb
    replace Rb0 := Rb0.below hb
    replace Rb1 := Rb1.below hb
    replace Rv0 := Rv0.below hb
    replace Rv1 := Rv1.below hb
    replace B_a := B_a.below hb
    replace B_b := B_b.below hb
    replace B_v := B_v.below hb
    replace hT := below_to hT hb hT.size
    clear hb
    have HV := Lib.hid (PP.out.gv v0v Av.out.1)
    have k_a_0 := B_a.cell 0 _ rfl
    have k_a_1 := B_a.cell 1 _ rfl
    have l_a := B_a.lt
    have l2_a : S_a < w17.heap.size + 1 := by omega
    have k_b_0 := B_b.cell 0 _ rfl
    have k_b_1 := B_b.cell 1 _ rfl
    have l_b := B_b.lt
    have l2_b : S_b < w17.heap.size + 1 := by omega
    have k_v_0 := B_v.cell 0 _ rfl
    have k_v_1 := B_v.cell 1 _ rfl
    have l_v := B_v.lt
    have l2_v : S_v < w17.heap.size + 1 := by omega
    go_wp2
    clear k_a_0 k_a_1 l_a l2_a k_b_0 k_b_1 l_b l2_b k_v_0 k_v_1 l_v l2_v
    have B_r : BoxAt (w17.alloc (.cells #[.slice Er0 r0.length cr0, .slice Er1 r1.length cr1] 26)) w17.heap.size [.slice Er0 r0.length cr0, .slice Er1 r1.length cr1] := BoxAt.new w17 _ _
    have hb := below_alloc w17 (.cells #[.slice Er0 r0.length cr0, .slice Er1 r1.length cr1] 26)
    obtain ⟨S_r, hS_r⟩ : ∃ S, S = w17.heap.size := ⟨_, rfl⟩
    rw [← hS_r] at B_r ⊢
    clear hS_r
    generalize hg : World.alloc w17 _ = w18 at *
    clear hg
    replace Ra0 := Ra0.below hb
    replace Ra1 := Ra1.below hb
    replace Rb0 := Rb0.below hb
    replace Rb1 := Rb1.below hb
    replace Rv0 := Rv0.below hb
    replace Rv1 := Rv1.below hb
    replace Rr0 := Rr0.below hb
    replace Rr1 := Rr1.below hb
    replace B_a := B_a.below hb
    replace B_b := B_b.below hb
    replace B_v := B_v.below hb
    replace hT := below_to hT hb hT.size
    clear hb
    have HVR := Lib.hid Rv0
    obtain ⟨Av0, cv0v, ev, hcv, hAv⟩ := Rv0
    cases ev
    have HAv := Lib.hid hAv
    clear hAv
    go_loopw [196] (fun si wr => ∃ k : Nat, k ≤ v0v.length ∧ si = .int .i64 k ∧ w18 = wr) (fun si _ => v0v.length - (intOf si).toNat)
    case atStart => exact ⟨0, Nat.zero_le _, rfl, by first | trivial | rfl⟩
    case round =>
      obtain ⟨j, hj, rfl, hwr⟩ := hrel
      subst hwr
      by_cases hlt : j < v0v.length
      case pos =>
        obtain ⟨y, hy⟩ := get_of_lt hlt
        obtain ⟨ad, rfl, hbl, hcell⟩ := HAv.out j y hy
        have hle := HV.out j y hy
        clear hy
        have k_a_0 := B_a.cell 0 _ rfl
        have k_a_1 := B_a.cell 1 _ rfl
        have l_a := B_a.lt
        have l2_a : S_a < w18.heap.size + 1 := by omega
        have k_b_0 := B_b.cell 0 _ rfl
        have k_b_1 := B_b.cell 1 _ rfl
        have l_b := B_b.lt
        have l2_b : S_b < w18.heap.size + 1 := by omega
        have k_v_0 := B_v.cell 0 _ rfl
        have k_v_1 := B_v.cell 1 _ rfl
        have l_v := B_v.lt
        have l2_v : S_v < w18.heap.size + 1 := by omega
        have k_r_0 := B_r.cell 0 _ rfl
        have k_r_1 := B_r.cell 1 _ rfl
        have l_r := B_r.lt
        have l2_r : S_r < w18.heap.size + 1 := by omega
        go_wp2
        go_roundw
        case rel => exact ⟨j + 1, by omega, by go_num, by first | trivial | rfl⟩
        case measure => simp [intOf]; omega
      case neg =>
        have hke : j = v0v.length := by omega
        subst hke
        replace Rv0 := HVR.out
        have k_a_0 := B_a.cell 0 _ rfl
        have k_a_1 := B_a.cell 1 _ rfl
        have l_a := B_a.lt
        have l2_a : S_a < w18.heap.size + 1 := by omega
        have k_b_0 := B_b.cell 0 _ rfl
        have k_b_1 := B_b.cell 1 _ rfl
        have l_b := B_b.lt
        have l2_b : S_b < w18.heap.size + 1 := by omega
        have k_v_0 := B_v.cell 0 _ rfl
        have k_v_1 := B_v.cell 1 _ rfl
        have l_v := B_v.lt
        have l2_v : S_v < w18.heap.size + 1 := by omega
        have k_r_0 := B_r.cell 0 _ rfl
        have k_r_1 := B_r.cell 1 _ rfl
        have l_r := B_r.lt
        have l2_r : S_r < w18.heap.size + 1 := by omega
        go_wp2_with fail
        clear k_a_0 k_a_1 l_a l2_a k_b_0 k_b_1 l_b l2_b k_v_0 k_v_1 l_v l2_v k_r_0 k_r_1 l_r l2_r
        refine (b10Seed_any _ xs (by omega) _ (HR0.out.below hT)).mono ?_
        rintro e w19 ⟨k, sa, sb, rfl, hs, hb0, hb⟩
        have HS := Lib.hid hs
        clear hs
        replace Ra0 := Ra0.below hb
        replace Ra1 := Ra1.below hb
        replace Rb0 := Rb0.below hb
        replace Rb1 := Rb1.below hb
        replace Rv0 := Rv0.below hb
        replace Rv1 := Rv1.below hb
        replace Rr0 := Rr0.below hb
        replace Rr1 := Rr1.below hb
        replace B_a := B_a.below hb
        replace B_b := B_b.below hb
        replace B_v := B_v.below hb
        replace B_r := B_r.below hb
        replace hT := below_to hT hb hT.size
        clear hb
        have HO := Lib.hid (ss_t HS.out PP.out.sh)
        obtain ⟨na, hna⟩ : ∃ n, n = nextA k sa sb := ⟨_, rfl⟩
        obtain ⟨nb, hnb⟩ : ∃ n, n = nextB k sa sb := ⟨_, rfl⟩
        obtain ⟨sx, hsx⟩ : ∃ n, n = qv x0 x1 (gtA (shareU k sa sb)) := ⟨_, rfl⟩
        have HX := Lib.hid (show sx < 4294967296 by rw [hsx]; exact qv_lt px0 PP.out.w0 _)
        have HQ := Lib.hid (And.intro hna.symm (And.intro hnb.symm hsx.symm))
        clear hna hnb hsx
        have k_a_0 := B_a.cell 0 _ rfl
        have k_a_1 := B_a.cell 1 _ rfl
        have l_a := B_a.lt
        have l2_a : S_a < w19.heap.size + 1 := by omega
        have k_b_0 := B_b.cell 0 _ rfl
        have k_b_1 := B_b.cell 1 _ rfl
        have l_b := B_b.lt
        have l2_b : S_b < w19.heap.size + 1 := by omega
        have k_v_0 := B_v.cell 0 _ rfl
        have k_v_1 := B_v.cell 1 _ rfl
        have l_v := B_v.lt
        have l2_v : S_v < w19.heap.size + 1 := by omega
        have k_r_0 := B_r.cell 0 _ rfl
        have k_r_1 := B_r.cell 1 _ rfl
        have l_r := B_r.lt
        have l2_r : S_r < w19.heap.size + 1 := by omega
        go_wp2_with fail
        clear k_a_0 k_a_1 l_a l2_a k_b_0 k_b_1 l_b l2_b k_v_0 k_v_1 l_v l2_v k_r_0 k_r_1 l_r l2_r
        have B_s : BoxAt (w19.alloc (.cells #[.int .i64 k, u64V sa, u64V sb] 40)) w19.heap.size [.int .i64 k, u64V sa, u64V sb] := BoxAt.new w19 _ _
        have hb := below_alloc w19 (.cells #[.int .i64 k, u64V sa, u64V sb] 40)
        obtain ⟨S_s, hS_s⟩ : ∃ S, S = w19.heap.size := ⟨_, rfl⟩
        rw [← hS_s] at B_s ⊢
        clear hS_s
        generalize hg : World.alloc w19 _ = w20 at *
        clear hg
        replace Ra0 := Ra0.below hb
        replace Ra1 := Ra1.below hb
        replace Rb0 := Rb0.below hb
        replace Rb1 := Rb1.below hb
        replace Rv0 := Rv0.below hb
        replace Rv1 := Rv1.below hb
        replace Rr0 := Rr0.below hb
        replace Rr1 := Rr1.below hb
        replace B_a := B_a.below hb
        replace B_b := B_b.below hb
        replace B_v := B_v.below hb
        replace B_r := B_r.below hb
        replace hT := below_to hT hb hT.size
        clear hb
        refine (seed_at2 HO.out HQ.out.1 HQ.out.2.1 HQ.out.2.2 (implSeedShare_any k sa sb hb0 _ x0 _ x1 (by omega) (by omega) _ Ra0 Ra1)).mono ?_
        rintro e w21 ⟨rfl, hb⟩
        replace Ra0 := Ra0.below hb
        replace Ra1 := Ra1.below hb
        replace Rb0 := Rb0.below hb
        replace Rb1 := Rb1.below hb
        replace Rv0 := Rv0.below hb
        replace Rv1 := Rv1.below hb
        replace Rr0 := Rr0.below hb
        replace Rr1 := Rr1.below hb
        replace B_a := B_a.below hb
        replace B_b := B_b.below hb
        replace B_v := B_v.below hb
        replace B_r := B_r.below hb
        replace B_s := B_s.below hb
        replace hT := below_to hT hb hT.size
        clear hb
        have k_a_0 := B_a.cell 0 _ rfl
        have k_a_1 := B_a.cell 1 _ rfl
        have l_a := B_a.lt
        have l2_a : S_a < w21.heap.size + 1 := by omega
        have k_b_0 := B_b.cell 0 _ rfl
        have k_b_1 := B_b.cell 1 _ rfl
        have l_b := B_b.lt
        have l2_b : S_b < w21.heap.size + 1 := by omega
        have k_v_0 := B_v.cell 0 _ rfl
        have k_v_1 := B_v.cell 1 _ rfl
        have l_v := B_v.lt
        have l2_v : S_v < w21.heap.size + 1 := by omega
        have k_r_0 := B_r.cell 0 _ rfl
        have k_r_1 := B_r.cell 1 _ rfl
        have l_r := B_r.lt
        have l2_r : S_r < w21.heap.size + 1 := by omega
        have k_s_0 := B_s.cell 0 _ rfl
        have k_s_1 := B_s.cell 1 _ rfl
        have k_s_2 := B_s.cell 2 _ rfl
        have l_s := B_s.lt
        have l2_s : S_s < w21.heap.size + 1 := by omega
        go_wp2_with fail
        clear k_a_0 k_a_1 l_a l2_a k_b_0 k_b_1 l_b l2_b k_v_0 k_v_1 l_v l2_v k_r_0 k_r_1 l_r l2_r k_s_0 k_s_1 k_s_2 l_s l2_s
        have B_c : BoxAt (w21.alloc (.cells #[.int .i64 k, u64V na, u64V nb] 40)) w21.heap.size [.int .i64 k, u64V na, u64V nb] := BoxAt.new w21 _ _
        have hb := below_alloc w21 (.cells #[.int .i64 k, u64V na, u64V nb] 40)
        obtain ⟨S_c, hS_c⟩ : ∃ S, S = w21.heap.size := ⟨_, rfl⟩
        rw [← hS_c] at B_c ⊢
        clear hS_c
        generalize hg : World.alloc w21 _ = w22 at *
        clear hg
        replace Ra0 := Ra0.below hb
        replace Ra1 := Ra1.below hb
        replace Rb0 := Rb0.below hb
        replace Rb1 := Rb1.below hb
        replace Rv0 := Rv0.below hb
        replace Rv1 := Rv1.below hb
        replace Rr0 := Rr0.below hb
        replace Rr1 := Rr1.below hb
        replace B_a := B_a.below hb
        replace B_b := B_b.below hb
        replace B_v := B_v.below hb
        replace B_r := B_r.below hb
        replace B_s := B_s.below hb
        replace hT := below_to hT hb hT.size
        clear hb
        refine (seed_at2 HO.out HQ.out.1 HQ.out.2.1 HQ.out.2.2 (specSeedShare_any k sa sb hb0 _ x0 _ x1 (by omega) (by omega) _ Ra0 Ra1)).mono ?_
        rintro e w23 ⟨rfl, hb⟩
        replace Ra0 := Ra0.below hb
        replace Ra1 := Ra1.below hb
        replace Rb0 := Rb0.below hb
        replace Rb1 := Rb1.below hb
        replace Rv0 := Rv0.below hb
        replace Rv1 := Rv1.below hb
        replace Rr0 := Rr0.below hb
        replace Rr1 := Rr1.below hb
        replace B_a := B_a.below hb
        replace B_b := B_b.below hb
        replace B_v := B_v.below hb
        replace B_r := B_r.below hb
        replace B_s := B_s.below hb
        replace B_c := B_c.below hb
        replace hT := below_to hT hb hT.size
        clear hb
        have k_a_0 := B_a.cell 0 _ rfl
        have k_a_1 := B_a.cell 1 _ rfl
        have l_a := B_a.lt
        have l2_a : S_a < w23.heap.size + 1 := by omega
        have k_b_0 := B_b.cell 0 _ rfl
        have k_b_1 := B_b.cell 1 _ rfl
        have l_b := B_b.lt
        have l2_b : S_b < w23.heap.size + 1 := by omega
        have k_v_0 := B_v.cell 0 _ rfl
        have k_v_1 := B_v.cell 1 _ rfl
        have l_v := B_v.lt
        have l2_v : S_v < w23.heap.size + 1 := by omega
        have k_r_0 := B_r.cell 0 _ rfl
        have k_r_1 := B_r.cell 1 _ rfl
        have l_r := B_r.lt
        have l2_r : S_r < w23.heap.size + 1 := by omega
        have k_s_0 := B_s.cell 0 _ rfl
        have k_s_1 := B_s.cell 1 _ rfl
        have k_s_2 := B_s.cell 2 _ rfl
        have l_s := B_s.lt
        have l2_s : S_s < w23.heap.size + 1 := by omega
        have k_c_0 := B_c.cell 0 _ rfl
        have k_c_1 := B_c.cell 1 _ rfl
        have k_c_2 := B_c.cell 2 _ rfl
        have l_c := B_c.lt
        have l2_c : S_c < w23.heap.size + 1 := by omega
        go_wp2_with fail
        clear k_a_0 k_a_1 l_a l2_a k_b_0 k_b_1 l_b l2_b k_v_0 k_v_1 l_v l2_v k_r_0 k_r_1 l_r l2_r k_s_0 k_s_1 k_s_2 l_s l2_s k_c_0 k_c_1 k_c_2 l_c l2_c
        have B_d : BoxAt (w23.alloc (.cells #[.int .i64 k, u64V na, u64V nb] 40)) w23.heap.size [.int .i64 k, u64V na, u64V nb] := BoxAt.new w23 _ _
        have hb := below_alloc w23 (.cells #[.int .i64 k, u64V na, u64V nb] 40)
        obtain ⟨S_d, hS_d⟩ : ∃ S, S = w23.heap.size := ⟨_, rfl⟩
        rw [← hS_d] at B_d ⊢
        clear hS_d
        generalize hg : World.alloc w23 _ = w24 at *
        clear hg
        replace Ra0 := Ra0.below hb
        replace Ra1 := Ra1.below hb
        replace Rb0 := Rb0.below hb
        replace Rb1 := Rb1.below hb
        replace Rv0 := Rv0.below hb
        replace Rv1 := Rv1.below hb
        replace Rr0 := Rr0.below hb
        replace Rr1 := Rr1.below hb
        replace B_a := B_a.below hb
        replace B_b := B_b.below hb
        replace B_v := B_v.below hb
        replace B_r := B_r.below hb
        replace B_s := B_s.below hb
        replace B_c := B_c.below hb
        replace hT := below_to hT hb hT.size
        clear hb
        refine (apart_at2 (by omega) (by omega) (by omega) (by omega) PP.out.b1 PP.out.av _ Ra0 Ra1 Rb0 Rb1).mono ?_
        rintro e w25 ⟨rfl, hb⟩
        replace Ra0 := Ra0.below hb
        replace Ra1 := Ra1.below hb
        replace Rb0 := Rb0.below hb
        replace Rb1 := Rb1.below hb
        replace Rv0 := Rv0.below hb
        replace Rv1 := Rv1.below hb
        replace Rr0 := Rr0.below hb
        replace Rr1 := Rr1.below hb
        replace B_a := B_a.below hb
        replace B_b := B_b.below hb
        replace B_v := B_v.below hb
        replace B_r := B_r.below hb
        replace B_s := B_s.below hb
        replace B_c := B_c.below hb
        replace B_d := B_d.below hb
        replace hT := below_to hT hb hT.size
        clear hb
        have k_a_0 := B_a.cell 0 _ rfl
        have k_a_1 := B_a.cell 1 _ rfl
        have l_a := B_a.lt
        have l2_a : S_a < w25.heap.size + 1 := by omega
        have k_b_0 := B_b.cell 0 _ rfl
        have k_b_1 := B_b.cell 1 _ rfl
        have l_b := B_b.lt
        have l2_b : S_b < w25.heap.size + 1 := by omega
        have k_v_0 := B_v.cell 0 _ rfl
        have k_v_1 := B_v.cell 1 _ rfl
        have l_v := B_v.lt
        have l2_v : S_v < w25.heap.size + 1 := by omega
        have k_r_0 := B_r.cell 0 _ rfl
        have k_r_1 := B_r.cell 1 _ rfl
        have l_r := B_r.lt
        have l2_r : S_r < w25.heap.size + 1 := by omega
        have k_s_0 := B_s.cell 0 _ rfl
        have k_s_1 := B_s.cell 1 _ rfl
        have k_s_2 := B_s.cell 2 _ rfl
        have l_s := B_s.lt
        have l2_s : S_s < w25.heap.size + 1 := by omega
        have k_c_0 := B_c.cell 0 _ rfl
        have k_c_1 := B_c.cell 1 _ rfl
        have k_c_2 := B_c.cell 2 _ rfl
        have l_c := B_c.lt
        have l2_c : S_c < w25.heap.size + 1 := by omega
        have k_d_0 := B_d.cell 0 _ rfl
        have k_d_1 := B_d.cell 1 _ rfl
        have k_d_2 := B_d.cell 2 _ rfl
        have l_d := B_d.lt
        have l2_d : S_d < w25.heap.size + 1 := by omega
        go_wp2_with fail
        clear k_a_0 k_a_1 l_a l2_a k_b_0 k_b_1 l_b l2_b k_v_0 k_v_1 l_v l2_v k_r_0 k_r_1 l_r l2_r k_s_0 k_s_1 k_s_2 l_s l2_s k_c_0 k_c_1 k_c_2 l_c l2_c k_d_0 k_d_1 k_d_2 l_d l2_d
        refine (apart_at2 (by omega) (by omega) (by omega) (by omega) PP.out.b2 PP.out.aw _ Rb0 Rb1 Ra0 Ra1).mono ?_
        rintro e w26 ⟨rfl, hb⟩
        replace Ra0 := Ra0.below hb
        replace Ra1 := Ra1.below hb
        replace Rb0 := Rb0.below hb
        replace Rb1 := Rb1.below hb
        replace Rv0 := Rv0.below hb
        replace Rv1 := Rv1.below hb
        replace Rr0 := Rr0.below hb
        replace Rr1 := Rr1.below hb
        replace B_a := B_a.below hb
        replace B_b := B_b.below hb
        replace B_v := B_v.below hb
        replace B_r := B_r.below hb
        replace B_s := B_s.below hb
        replace B_c := B_c.below hb
        replace B_d := B_d.below hb
        replace hT := below_to hT hb hT.size
        clear hb
        have k_a_0 := B_a.cell 0 _ rfl
        have k_a_1 := B_a.cell 1 _ rfl
        have l_a := B_a.lt
        have l2_a : S_a < w26.heap.size + 1 := by omega
        have k_b_0 := B_b.cell 0 _ rfl
        have k_b_1 := B_b.cell 1 _ rfl
        have l_b := B_b.lt
        have l2_b : S_b < w26.heap.size + 1 := by omega
        have k_v_0 := B_v.cell 0 _ rfl
        have k_v_1 := B_v.cell 1 _ rfl
        have l_v := B_v.lt
        have l2_v : S_v < w26.heap.size + 1 := by omega
        have k_r_0 := B_r.cell 0 _ rfl
        have k_r_1 := B_r.cell 1 _ rfl
        have l_r := B_r.lt
        have l2_r : S_r < w26.heap.size + 1 := by omega
        have k_s_0 := B_s.cell 0 _ rfl
        have k_s_1 := B_s.cell 1 _ rfl
        have k_s_2 := B_s.cell 2 _ rfl
        have l_s := B_s.lt
        have l2_s : S_s < w26.heap.size + 1 := by omega
        have k_c_0 := B_c.cell 0 _ rfl
        have k_c_1 := B_c.cell 1 _ rfl
        have k_c_2 := B_c.cell 2 _ rfl
        have l_c := B_c.lt
        have l2_c : S_c < w26.heap.size + 1 := by omega
        have k_d_0 := B_d.cell 0 _ rfl
        have k_d_1 := B_d.cell 1 _ rfl
        have k_d_2 := B_d.cell 2 _ rfl
        have l_d := B_d.lt
        have l2_d : S_d < w26.heap.size + 1 := by omega
        go_wp2_with fail
        clear k_a_0 k_a_1 l_a l2_a k_b_0 k_b_1 l_b l2_b k_v_0 k_v_1 l_v l2_v k_r_0 k_r_1 l_r l2_r k_s_0 k_s_1 k_s_2 l_s l2_s k_c_0 k_c_1 k_c_2 l_c l2_c k_d_0 k_d_1 k_d_2 l_d l2_d
        refine (steps_at2 (by omega) (by omega) (by omega) (by omega) PP.out.b1 PP.out.sv _ Ra0 Ra1 Rb0 Rb1).mono ?_
        rintro e w27 ⟨rfl, hb⟩
        replace Ra0 := Ra0.below hb
        replace Ra1 := Ra1.below hb
        replace Rb0 := Rb0.below hb
        replace Rb1 := Rb1.below hb
        replace Rv0 := Rv0.below hb
        replace Rv1 := Rv1.below hb
        replace Rr0 := Rr0.below hb
        replace Rr1 := Rr1.below hb
        replace B_a := B_a.below hb
        replace B_b := B_b.below hb
        replace B_v := B_v.below hb
        replace B_r := B_r.below hb
        replace B_s := B_s.below hb
        replace B_c := B_c.below hb
        replace B_d := B_d.below hb
        replace hT := below_to hT hb hT.size
        clear hb
        have k_a_0 := B_a.cell 0 _ rfl
        have k_a_1 := B_a.cell 1 _ rfl
        have l_a := B_a.lt
        have l2_a : S_a < w27.heap.size + 1 := by omega
        have k_b_0 := B_b.cell 0 _ rfl
        have k_b_1 := B_b.cell 1 _ rfl
        have l_b := B_b.lt
        have l2_b : S_b < w27.heap.size + 1 := by omega
        have k_v_0 := B_v.cell 0 _ rfl
        have k_v_1 := B_v.cell 1 _ rfl
        have l_v := B_v.lt
        have l2_v : S_v < w27.heap.size + 1 := by omega
        have k_r_0 := B_r.cell 0 _ rfl
        have k_r_1 := B_r.cell 1 _ rfl
        have l_r := B_r.lt
        have l2_r : S_r < w27.heap.size + 1 := by omega
        have k_s_0 := B_s.cell 0 _ rfl
        have k_s_1 := B_s.cell 1 _ rfl
        have k_s_2 := B_s.cell 2 _ rfl
        have l_s := B_s.lt
        have l2_s : S_s < w27.heap.size + 1 := by omega
        have k_c_0 := B_c.cell 0 _ rfl
        have k_c_1 := B_c.cell 1 _ rfl
        have k_c_2 := B_c.cell 2 _ rfl
        have l_c := B_c.lt
        have l2_c : S_c < w27.heap.size + 1 := by omega
        have k_d_0 := B_d.cell 0 _ rfl
        have k_d_1 := B_d.cell 1 _ rfl
        have k_d_2 := B_d.cell 2 _ rfl
        have l_d := B_d.lt
        have l2_d : S_d < w27.heap.size + 1 := by omega
        go_wp2_with fail
        clear k_a_0 k_a_1 l_a l2_a k_b_0 k_b_1 l_b l2_b k_v_0 k_v_1 l_v l2_v k_r_0 k_r_1 l_r l2_r k_s_0 k_s_1 k_s_2 l_s l2_s k_c_0 k_c_1 k_c_2 l_c l2_c k_d_0 k_d_1 k_d_2 l_d l2_d
        refine (apart_at2 (by omega) (by omega) (by omega) (by omega) PP.out.b3 PP.out.nv _ Ra0 Ra1 Ra0 Ra1).mono ?_
        rintro e w28 ⟨rfl, hb⟩
        replace Ra0 := Ra0.below hb
        replace Ra1 := Ra1.below hb
        replace Rb0 := Rb0.below hb
        replace Rb1 := Rb1.below hb
        replace Rv0 := Rv0.below hb
        replace Rv1 := Rv1.below hb
        replace Rr0 := Rr0.below hb
        replace Rr1 := Rr1.below hb
        replace B_a := B_a.below hb
        replace B_b := B_b.below hb
        replace B_v := B_v.below hb
        replace B_r := B_r.below hb
        replace B_s := B_s.below hb
        replace B_c := B_c.below hb
        replace B_d := B_d.below hb
        replace hT := below_to hT hb hT.size
        clear hb
        have k_a_0 := B_a.cell 0 _ rfl
        have k_a_1 := B_a.cell 1 _ rfl
        have l_a := B_a.lt
        have l2_a : S_a < w28.heap.size + 1 := by omega
        have k_b_0 := B_b.cell 0 _ rfl
        have k_b_1 := B_b.cell 1 _ rfl
        have l_b := B_b.lt
        have l2_b : S_b < w28.heap.size + 1 := by omega
        have k_v_0 := B_v.cell 0 _ rfl
        have k_v_1 := B_v.cell 1 _ rfl
        have l_v := B_v.lt
        have l2_v : S_v < w28.heap.size + 1 := by omega
        have k_r_0 := B_r.cell 0 _ rfl
        have k_r_1 := B_r.cell 1 _ rfl
        have l_r := B_r.lt
        have l2_r : S_r < w28.heap.size + 1 := by omega
        have k_s_0 := B_s.cell 0 _ rfl
        have k_s_1 := B_s.cell 1 _ rfl
        have k_s_2 := B_s.cell 2 _ rfl
        have l_s := B_s.lt
        have l2_s : S_s < w28.heap.size + 1 := by omega
        have k_c_0 := B_c.cell 0 _ rfl
        have k_c_1 := B_c.cell 1 _ rfl
        have k_c_2 := B_c.cell 2 _ rfl
        have l_c := B_c.lt
        have l2_c : S_c < w28.heap.size + 1 := by omega
        have k_d_0 := B_d.cell 0 _ rfl
        have k_d_1 := B_d.cell 1 _ rfl
        have k_d_2 := B_d.cell 2 _ rfl
        have l_d := B_d.lt
        have l2_d : S_d < w28.heap.size + 1 := by omega
        go_wp2_with fail
        clear k_a_0 k_a_1 l_a l2_a k_b_0 k_b_1 l_b l2_b k_v_0 k_v_1 l_v l2_v k_r_0 k_r_1 l_r l2_r k_s_0 k_s_1 k_s_2 l_s l2_s k_c_0 k_c_1 k_c_2 l_c l2_c k_d_0 k_d_1 k_d_2 l_d l2_d
        refine (entropy_at2 (by omega) (by omega) PP.out.sh PP.out.ev _ Ra0 Ra1).mono ?_
        rintro e w29 ⟨rfl, hb⟩
        replace Ra0 := Ra0.below hb
        replace Ra1 := Ra1.below hb
        replace Rb0 := Rb0.below hb
        replace Rb1 := Rb1.below hb
        replace Rv0 := Rv0.below hb
        replace Rv1 := Rv1.below hb
        replace Rr0 := Rr0.below hb
        replace Rr1 := Rr1.below hb
        replace B_a := B_a.below hb
        replace B_b := B_b.below hb
        replace B_v := B_v.below hb
        replace B_r := B_r.below hb
        replace B_s := B_s.below hb
        replace B_c := B_c.below hb
        replace B_d := B_d.below hb
        replace hT := below_to hT hb hT.size
        clear hb
        have k_a_0 := B_a.cell 0 _ rfl
        have k_a_1 := B_a.cell 1 _ rfl
        have l_a := B_a.lt
        have l2_a : S_a < w29.heap.size + 1 := by omega
        have k_b_0 := B_b.cell 0 _ rfl
        have k_b_1 := B_b.cell 1 _ rfl
        have l_b := B_b.lt
        have l2_b : S_b < w29.heap.size + 1 := by omega
        have k_v_0 := B_v.cell 0 _ rfl
        have k_v_1 := B_v.cell 1 _ rfl
        have l_v := B_v.lt
        have l2_v : S_v < w29.heap.size + 1 := by omega
        have k_r_0 := B_r.cell 0 _ rfl
        have k_r_1 := B_r.cell 1 _ rfl
        have l_r := B_r.lt
        have l2_r : S_r < w29.heap.size + 1 := by omega
        have k_s_0 := B_s.cell 0 _ rfl
        have k_s_1 := B_s.cell 1 _ rfl
        have k_s_2 := B_s.cell 2 _ rfl
        have l_s := B_s.lt
        have l2_s : S_s < w29.heap.size + 1 := by omega
        have k_c_0 := B_c.cell 0 _ rfl
        have k_c_1 := B_c.cell 1 _ rfl
        have k_c_2 := B_c.cell 2 _ rfl
        have l_c := B_c.lt
        have l2_c : S_c < w29.heap.size + 1 := by omega
        have k_d_0 := B_d.cell 0 _ rfl
        have k_d_1 := B_d.cell 1 _ rfl
        have k_d_2 := B_d.cell 2 _ rfl
        have l_d := B_d.lt
        have l2_d : S_d < w29.heap.size + 1 := by omega
        go_wp2_with fail
        clear k_a_0 k_a_1 l_a l2_a k_b_0 k_b_1 l_b l2_b k_v_0 k_v_1 l_v l2_v k_r_0 k_r_1 l_r l2_r k_s_0 k_s_1 k_s_2 l_s l2_s k_c_0 k_c_1 k_c_2 l_c l2_c k_d_0 k_d_1 k_d_2 l_d l2_d
        refine (sameNumber_sp HX.out _).mono ?_
        rintro e w' ⟨rfl, rfl⟩
        have k_a_0 := B_a.cell 0 _ rfl
        have k_a_1 := B_a.cell 1 _ rfl
        have l_a := B_a.lt
        have l2_a : S_a < w29.heap.size + 1 := by omega
        have k_b_0 := B_b.cell 0 _ rfl
        have k_b_1 := B_b.cell 1 _ rfl
        have l_b := B_b.lt
        have l2_b : S_b < w29.heap.size + 1 := by omega
        have k_v_0 := B_v.cell 0 _ rfl
        have k_v_1 := B_v.cell 1 _ rfl
        have l_v := B_v.lt
        have l2_v : S_v < w29.heap.size + 1 := by omega
        have k_r_0 := B_r.cell 0 _ rfl
        have k_r_1 := B_r.cell 1 _ rfl
        have l_r := B_r.lt
        have l2_r : S_r < w29.heap.size + 1 := by omega
        have k_s_0 := B_s.cell 0 _ rfl
        have k_s_1 := B_s.cell 1 _ rfl
        have k_s_2 := B_s.cell 2 _ rfl
        have l_s := B_s.lt
        have l2_s : S_s < w29.heap.size + 1 := by omega
        have k_c_0 := B_c.cell 0 _ rfl
        have k_c_1 := B_c.cell 1 _ rfl
        have k_c_2 := B_c.cell 2 _ rfl
        have l_c := B_c.lt
        have l2_c : S_c < w29.heap.size + 1 := by omega
        have k_d_0 := B_d.cell 0 _ rfl
        have k_d_1 := B_d.cell 1 _ rfl
        have k_d_2 := B_d.cell 2 _ rfl
        have l_d := B_d.lt
        have l2_d : S_d < w29.heap.size + 1 := by omega
        go_wp2_with fail
        clear k_a_0 k_a_1 l_a l2_a k_b_0 k_b_1 l_b l2_b k_v_0 k_v_1 l_v l2_v k_r_0 k_r_1 l_r l2_r k_s_0 k_s_1 k_s_2 l_s l2_s k_c_0 k_c_1 k_c_2 l_c l2_c k_d_0 k_d_1 k_d_2 l_d l2_d
        refine (G3.out _).mono ?_
        rintro e w' ⟨rfl, rfl⟩
        go_wp2
        go_ret
        exact ⟨rfl, hT⟩
end Go.Proofs.YtjajlddnhmbekaaGreat
