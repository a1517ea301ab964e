/-
  The walk of FnMixtures, over what is reckoned.
-/
import Derived.Test.YtimpabceellihaaMxQ
import Derived.Test.YtimpabceellihaaFitS
import Derived.Test.YtimpabceellihaaLike
namespace Go.Proofs.Ytimpabceellihaa
open Go.RowKit

/-- The numbers. -/
def lst (xs : List (Fin 256)) (k : Nat) : List Nat := (List.range k).map fun i => hlf (((b10A xs i 17 : Nat) : Int) - 8)
theorem lst_succ (xs : List (Fin 256)) (k : Nat) : lst xs (k + 1) = lst xs k ++ [hlf (((b10A xs k 17 : Nat) : Int) - 8)] := by simp [lst, List.range_succ]
theorem lst_len (xs : List (Fin 256)) (k : Nat) : (lst xs k).length = k := by simp [lst]
theorem lst_halves (xs : List (Fin 256)) (k : Nat) : Halves (lst xs k) := by
  intro y hy
  obtain ⟨i, -, rfl⟩ := List.mem_map.1 hy
  have h := b10A_lt xs i (n := 17) (by omega)
  obtain ⟨-, f, e⟩ := hlf_tab _ h
  exact ⟨f, _, by omega, by omega, e⟩
theorem hlf9 {v : Nat} (h : v < 9) : floatBits .quo .f32 (floatOfInt .f32 ((v : Int) - 4)) 1073741824 = some (hlf ((v : Int) - 4)) := by
  have := (hlf_tab (v + 4) (by omega)).1
  rwa [show ((v + 4 : Nat) : Int) - 8 = (v : Int) - 4 by omega] at this
theorem run_up_y {b : Nat} (h : (FloatKind.f32.decode b).isNaN = false) (W : World) : (convert 39 42 (.float .f32 b)).run Try.prog W = .ok (.float .f64 (upBits b)) W := by
  have := run_up_ b W
  unfold upR upN at this
  rw [h] at this
  exact this
theorem mix_of {x0 x1 x2 : List Nat} {x : Nat} (h : mixOk x0 x1 x2 x = true) : mixB x0 x1 x2 = true := by
  unfold mixOk at h
  simp only [Bool.and_eq_true] at h
  exact h.1.1
theorem row_cell {w : World} {g n c x : Nat} {l : List Nat} (h : Rd fV w (.slice (some ⟨g, 0, none⟩) n c) (x :: l)) : w.cell? ⟨g, 0, none⟩ = some (fV x) ∧ g < w.heap.size := by
  obtain ⟨A, cap, e, -, hA⟩ := h
  cases e
  obtain ⟨ad, e, hb, hc⟩ := hA 0 x rfl
  cases e
  exact ⟨hc, hb⟩
theorem row_cell1 {w : World} {g n c x y : Nat} {l : List Nat} (h : Rd fV w (.slice (some ⟨g, 0, none⟩) n c) (x :: y :: l)) : w.cell? ⟨g, 1, none⟩ = some (fV y) ∧ g < w.heap.size := by
  obtain ⟨A, cap, e, -, hA⟩ := h
  cases e
  obtain ⟨ad, e, hb, hc⟩ := hA 1 y rfl
  cases e
  exact ⟨hc, hb⟩
theorem mix_at2 {s0 s1 s2 : Value} {x0 x1 x2 : List Nat} {x t : Nat} (h0 : x0.length ≤ 1099511627776) (h1 : x1.length ≤ 1099511627776) (h2 : x2.length ≤ 1099511627776) (h : mixOk x0 x1 x2 x = true) (hv : mixV x0 x1 x2 x = some t) (w : World) (hr0 : Rd fV w s0 x0) (hr1 : Rd fV w s1 x1) (hr2 : Rd fV w s2 x2) :
    Calls Try.prog 17 #[mxV s0 s1 s2, fV x] w fun e w' => e = .returned (.tuple #[fV t, .bool true]) ∧ Below w.heap.size w w' := by
  refine (implMixtureAt_any s0 x0 s1 x1 s2 x2 h0 h1 h2 x w hr0 hr1 hr2).mono ?_
  rintro e w' ⟨b, rfl, hb, hB⟩
  rw [hv] at hb
  obtain ⟨rfl, -⟩ := absF_some hb
  rw [h]
  exact ⟨rfl, hB⟩
theorem own_l1 {w : World} {E : TypeId} {b x : Nat} {v : Value} (h : Own fV E w b v [x]) : ∃ g c, v = .slice (some ⟨g, 0, none⟩) 1 c ∧ Rd fV w (.slice (some ⟨g, 0, none⟩) 1 c) [x] := by
  have hr := h.rd
  rcases h.2 with ⟨e0, e⟩ | ⟨g, cap, cur, e, -⟩
  · cases e
  · subst e
    exact ⟨g, cap, rfl, hr⟩
theorem own_l2 {w : World} {E : TypeId} {b x y : Nat} {v : Value} (h : Own fV E w b v [x, y]) : ∃ g c, v = .slice (some ⟨g, 0, none⟩) 2 c ∧ Rd fV w (.slice (some ⟨g, 0, none⟩) 2 c) [x, y] := by
  have hr := h.rd
  rcases h.2 with ⟨e0, e⟩ | ⟨g, cap, cur, e, -⟩
  · cases e
  · subst e
    exact ⟨g, cap, rfl, hr⟩
theorem fit_one {s0 s1 s2 v : Value} {x0 x1 x2 xs : List Nat} {r : Int} {a b c : Nat} (h0 : x0.length ≤ 1099511627776) (h1 : x1.length ≤ 1099511627776) (h2 : x2.length ≤ 1099511627776) (h3 : xs.length ≤ 1099511627776) (ho : fitOk x0 x1 x2 xs r = true) (hf : fitR x0 x1 x2 xs r = ([a], [b], [c])) (ha : absF .f32 a = some a) (hb : absF .f32 b = some b) (hc : absF .f32 c = some c) (w : World) (hr0 : Rd fV w s0 x0) (hr1 : Rd fV w s1 x1) (hr2 : Rd fV w s2 x2) (hr3 : Rd fV w v xs) :
    Calls Try.prog 9 #[mxV s0 s1 s2, v, .int .i64 r] w fun e w' => ∃ g0 c0 g1 c1 g2 c2, e = .returned (.tuple #[mxV (.slice (some ⟨g0, 0, none⟩) 1 c0) (.slice (some ⟨g1, 0, none⟩) 1 c1) (.slice (some ⟨g2, 0, none⟩) 1 c2), .bool true]) ∧
      Rd fV w' (.slice (some ⟨g0, 0, none⟩) 1 c0) [a] ∧ Rd fV w' (.slice (some ⟨g1, 0, none⟩) 1 c1) [b] ∧ Rd fV w' (.slice (some ⟨g2, 0, none⟩) 1 c2) [c] ∧ Below w.heap.size w w' := by
  refine (implFitMixture_any s0 x0 s1 x1 s2 x2 h0 h1 h2 v xs h3 r w hr0 hr1 hr2 hr3).mono ?_
  rintro e w' ⟨v0, y0, v1, y1, v2, y2, rfl, o0, o1, o2, -, -, -, -, -, -, e0, e1, e2, hB⟩
  rw [ho, if_pos rfl, hf] at e0 e1 e2
  obtain rfl := abs_l1 ha e0
  obtain rfl := abs_l1 hb e1
  obtain rfl := abs_l1 hc e2
  obtain ⟨g0, c0, rfl, r0⟩ := own_l1 o0
  obtain ⟨g1, c1, rfl, r1⟩ := own_l1 o1
  obtain ⟨g2, c2, rfl, r2⟩ := own_l1 o2
  rw [ho]
  exact ⟨g0, c0, g1, c1, g2, c2, rfl, r0, r1, r2, hB⟩
theorem drewn_more {w wr : World} {n : Nat} (h : ∃ m, w.drewN m = wr) : ∃ m, w.drewN m = wr.drewN n := by
  obtain ⟨m, rfl⟩ := h
  exact ⟨m + n, by rw [World.drewN_drewN]⟩
theorem fit_two {f : FuncId} {args : Array Value} {x0 x1 x2 xs : List Nat} {r : Int} {a0 a1 b0 b1 c0 c1 : Nat} {w : World} (ho : fitOk x0 x1 x2 xs r = true) (hf : fitR x0 x1 x2 xs r = ([a0, a1], [b0, b1], [c0, c1])) (ha0 : absF .f32 a0 = some a0) (ha1 : absF .f32 a1 = some a1) (hb0 : absF .f32 b0 = some b0) (hb1 : absF .f32 b1 = some b1) (hc0 : absF .f32 c0 = some c0) (hc1 : absF .f32 c1 = some c1) (hc : Calls Try.prog f args w (RetFitMixture x0 x1 x2 xs r w)) :
    Calls Try.prog f args w fun e w' => ∃ g0 d0 g1 d1 g2 d2, e = .returned (.tuple #[mxV (.slice (some ⟨g0, 0, none⟩) 2 d0) (.slice (some ⟨g1, 0, none⟩) 2 d1) (.slice (some ⟨g2, 0, none⟩) 2 d2), .bool true]) ∧
      Rd fV w' (.slice (some ⟨g0, 0, none⟩) 2 d0) [a0, a1] ∧ Rd fV w' (.slice (some ⟨g1, 0, none⟩) 2 d1) [b0, b1] ∧ Rd fV w' (.slice (some ⟨g2, 0, none⟩) 2 d2) [c0, c1] ∧ Below w.heap.size w w' := by
  refine hc.mono ?_
  rintro e w' ⟨v0, y0, v1, y1, v2, y2, rfl, o0, o1, o2, -, -, -, -, -, -, e0, e1, e2, hB⟩
  rw [ho, if_pos rfl, hf] at e0 e1 e2
  obtain rfl := abs_l2 ha0 ha1 e0
  obtain rfl := abs_l2 hb0 hb1 e1
  obtain rfl := abs_l2 hc0 hc1 e2
  obtain ⟨g0, d0, rfl, r0⟩ := own_l2 o0
  obtain ⟨g1, d1, rfl, r1⟩ := own_l2 o1
  obtain ⟨g2, d2, rfl, r2⟩ := own_l2 o2
  rw [ho]
  exact ⟨g0, d0, g1, d1, g2, d2, rfl, r0, r1, r2, hB⟩
theorem fit_no {f : FuncId} {args : Array Value} {x0 x1 x2 xs : List Nat} {r : Int} {w : World} (ho : fitOk x0 x1 x2 xs r = false) (hc : Calls Try.prog f args w (RetFitMixture x0 x1 x2 xs r w)) :
    Calls Try.prog f args w fun e w' => ∃ E0 n0 d0 E1 n1 d1 E2 n2 d2, e = .returned (.tuple #[mxV (.slice E0 n0 d0) (.slice E1 n1 d1) (.slice E2 n2 d2), .bool false]) ∧ Below w.heap.size w w' := by
  refine hc.mono ?_
  rintro e w' ⟨v0, y0, v1, y1, v2, y2, rfl, o0, o1, o2, -, -, -, -, -, -, e0, e1, e2, hB⟩
  obtain ⟨E0, d0, rfl, -, -⟩ := o0.rd
  obtain ⟨E1, d1, rfl, -, -⟩ := o1.rd
  obtain ⟨E2, d2, rfl, -, -⟩ := o2.rd
  rw [ho]
  exact ⟨_, _, _, _, _, _, _, _, _, rfl, hB⟩
theorem valid_at2 {s0 s1 s2 : Value} {x0 x1 x2 : List Nat} (h0 : x0.length ≤ 1099511627776) (h1 : x1.length ≤ 1099511627776) (h2 : x2.length ≤ 1099511627776) (h : mixB x0 x1 x2 = true) (w : World) (hr0 : Rd fV w s0 x0) (hr1 : Rd fV w s1 x1) (hr2 : Rd fV w s2 x2) :
    Calls Try.prog 19 #[mxV s0 s1 s2] w fun e w' => e = .returned (.bool true) ∧ Below w.heap.size w w' := by
  refine (implValidMixture_any s0 x0 s1 x1 s2 x2 h0 h1 h2 w hr0 hr1 hr2).mono ?_
  rintro e w' ⟨rfl, hB⟩
  rw [h]
  exact ⟨rfl, hB⟩
theorem row_at2 {w : World} {g n c x y : Nat} (h : Rd fV w (.slice (some ⟨g, 0, none⟩) n c) [x, y]) {k : Nat} (hk : k < 2) : ∃ N ∈ [x, y], w.cell? ⟨g, k, none⟩ = some (fV N) ∧ g < w.heap.size := by
  have : k = 0 ∨ k = 1 := by omega
  rcases this with rfl | rfl
  · exact ⟨x, by simp, row_cell h⟩
  · exact ⟨y, by simp, row_cell1 h⟩
theorem like_at2 {f : FuncId} {args : Array Value} {x0 x1 x2 xs : List Nat} {ok : Bool} {w : World} (ho : likeOk x0 x1 x2 xs = ok) (hc : Calls Try.prog f args w (RetLikeOf x0 x1 x2 xs w)) :
    Calls Try.prog f args w fun e w' => ∃ t, e = .returned (.tuple #[fV t, .bool ok]) ∧ Below w.heap.size w w' := by
  refine hc.mono ?_
  rintro e w' ⟨b, rfl, -, hB⟩
  rw [ho]
  exact ⟨b, rfl, hB⟩
theorem below_app {w wr wA w6 : World} (h : Below w.heap.size w wr) (hA : Below wr.heap.size wr wA) (hb : Below w.heap.size wA w6) : Below w.heap.size w w6 :=
  (below_to h hA h.size).trans hb

set_option maxHeartbeats 12800000 in
set_option maxRecDepth 100000 in
theorem lawMixtures_any (u0 v0' : Value) (xs ys : List (Fin 256)) (w : World) (hr : Rd yV w u0 xs) (hs : Rd yV w v0' ys) :
    Calls Try.prog 4 #[u0, v0'] w fun e w' => e = .returned (.bool true) ∧ Below w.heap.size w w' := by
  have HR0 := Lib.hid hr
  have HR1 := Lib.hid hs
  have HL := Lib.hid (b10Long_any u0 v0' xs ys w hr hs)
  clear hs hr
  cases hL : (decide (1048576 < xs.length) || decide (1048576 < ys.length))
  case true =>
    rw [hL] at HL
    clear hL
    go_enter Try.func4, Try.ntmps4
    go_wp2_with fail
    refine HL.out.mono ?_
    rintro e w' ⟨rfl, rfl⟩
    go_wp2
    go_ret
    exact ⟨rfl, Below.refl _ _⟩
  rw [hL] at HL
  clear hL
  have hat : ∀ (i n : Nat), i ≤ 1000 → 2 ≤ n → n ≤ 1000 → ∀ W, Below w.heap.size w W → Calls Try.prog 16 #[v0', .int .i64 i, .int .i64 n] W fun e w' => e = .returned (.int .i64 ((b10A ys i n : Nat) : Int)) ∧ W = w' := fun i n h1 h2 h3 W hW => b10At_any v0' ys i n h1 h2 h3 W (HR1.out.below hW)
  have AC : Hid (∀ k : Nat, k ≤ 1000 → ∀ W, Below w.heap.size w W → Calls Try.prog 16 #[u0, .int .i64 k, .int .i64 17] W fun e w' => e = .returned (.int .i64 ((b10A xs k 17 : Nat) : Int)) ∧ W = w') := Lib.hid (fun k hk W hW => b10At_any u0 xs k 17 hk (by omega) (by omega) W (HR0.out.below hW))
  have A0 := Lib.hid (hat 0 12 (by omega) (by omega) (by omega))
  have A1 := Lib.hid (hat 1 9 (by omega) (by omega) (by omega))
  have A2 := Lib.hid (hat 2 7 (by omega) (by omega) (by omega))
  have A3 := Lib.hid (hat 3 10 (by omega) (by omega) (by omega))
  have hv12 := b10A_lt ys 0 (n := 12) (by omega)
  have hv9 := b10A_lt ys 1 (n := 9) (by omega)
  have hv7 := b10A_lt ys 2 (n := 7) (by omega)
  have hv10 := b10A_lt ys 3 (n := 10) (by omega)
  clear hat
  generalize b10A ys 0 12 = v0 at A0 hv12
  generalize b10A ys 1 9 = v1 at A1 hv9
  generalize b10A ys 2 7 = v2 at A2 hv7
  generalize b10A ys 3 10 = v3 at A3 hv10
  have hT := Below.refl w.heap.size w
  go_enter Try.func4, Try.ntmps4
  go_wp2_with fail
  refine (HL.out).mono ?_
  rintro e w' ⟨rfl, rfl⟩
  go_wp2_with fail
  have OL0 : Own fV 39 (w.alloc (.cells #[] 39)) w.heap.size (.slice (some ⟨w.heap.size, 0, none⟩) 0 0) (lst xs 0) := own_nil_new fV w 39
  have hb0 := below_alloc w (.cells #[] 39)
  generalize hg : World.alloc w _ = w1 at *
  clear hg
  replace hT := below_to hT hb0 hT.size
  clear hb0
  refine (A0.out _ hT).mono ?_
  rintro e w' ⟨rfl, rfl⟩
  go_wp2
  go_loopw [5, 7] (fun sv sk wq => ∃ k : Nat, k ≤ 4 + v0 ∧ sk = .int .i64 k ∧ Hid (Own fV 39 wq w.heap.size sv (lst xs k)) ∧ Hid (Below w.heap.size w wq)) (fun _ sk _ => 4 + v0 - (intOf sk).toNat)
  case atStart => exact ⟨0, Nat.zero_le _, rfl, OL0, hT⟩
  case round =>
    clear OL0 hT
    obtain ⟨k, hk, rfl, HO, hT⟩ := hrel
    by_cases hlt : k < 4 + v0
    case pos =>
      have hlt2 : (k : Int) < 4 + (v0 : Int) := by omega
      have hTs := hT.out.size
      go_wp2_with fail
      refine (AC.out k (by omega) _ hT.out).mono ?_
      rintro e w' ⟨rfl, rfl⟩
      have hx17 := b10A_lt xs k (n := 17) (by omega)
      have hsnoc := Lib.hid (lst_succ xs k)
      generalize b10A xs k 17 = x at hx17 hsnoc ⊢
      have hf := fun W => run_float_arith (P := Try.prog) W .quo 39 .f32 _ _ _ (hlf_tab x hx17).1
      go_wp2_with (at_builtin; go_loud (refine elF_.app (fun _ => rfl) _ rfl _ _ rfl w.heap.size _ (lst xs k) rfl (Own.alloc HO.out _) _ _ rfl (rd_one fV _ _ _) (by omega) (by simp [lst_len]; omega) (by simp; omega) ?_))
      intro v' w6 ho hg hbb hp
      have hlk : lst xs k ++ [hlf ((x : Int) - 8)] = lst xs (k + 1) := hsnoc.out.symm
      rw [hlk] at ho
      have hwA := below_alloc wr (.cells #[fV (hlf ((x : Int) - 8))] 39)
      have HT6 := Lib.hid (below_app hT.out hwA hbb)
      have HV := Lib.hid ho
      clear ho hg hbb hp hwA hf hsnoc hlk
      go_wp2
      go_roundw
      case rel => exact ⟨k + 1, by omega, by go_num, HV.out, HT6.out⟩
      case measure => simp [intOf]; omega
    case neg =>
      have hke : k = 4 + v0 := by omega
      subst hke
      have hlt2 : ¬ ((4 + v0 : Nat) : Int) < 4 + (v0 : Int) := by omega
      obtain ⟨L, eL⟩ : ∃ L, L = lst xs (4 + v0) := ⟨_, rfl⟩
      have HL4 := Lib.hid (show L.length = 4 + v0 by rw [eL, lst_len])
      have HLh := Lib.hid (show Halves L by rw [eL]; exact lst_halves _ _)
      rw [← eL] at HO
      clear eL
      obtain ⟨EL, cL, rfl, q1, q2⟩ := HO.out.rd
      have RL := HO.out.rd
      replace hT := hT.out
      clear q1 q2 HO hk hlt
      go_wp2_with fail
      have RW : Rd fV (wr.alloc (.cells #[fV 1065353216] 39)) (.slice (some ⟨wr.heap.size, 0, none⟩) 1 1) [1065353216] := rd_one fV _ _ _
      have hb := below_alloc wr (.cells #[fV 1065353216] 39)
      have hz_RW : (World.alloc wr (.cells #[fV 1065353216] 39)).heap.size = wr.heap.size + 1 := size_alloc _ _
      obtain ⟨S_RW, hS_RW⟩ : ∃ S, S = wr.heap.size := ⟨_, rfl⟩
      rw [← hS_RW] at RW hz_RW ⊢
      clear hS_RW
      generalize hg : World.alloc wr (.cells #[fV 1065353216] 39) = w2 at *
      clear hg
      replace RL := RL.below hb
      replace hT := below_to hT hb hT.size
      clear hb
      clear hz_RW
      have f1 := fun W => run_float_arith (P := Try.prog) W .quo 39 .f32 _ _ _ (hlf9 hv9)
      have f2 := fun W => run_float_arith (P := Try.prog) W .quo 39 .f32 _ _ _ (qrt_tab v2 hv7).1
      refine (A1.out _ hT).mono ?_
      rintro e w' ⟨rfl, rfl⟩
      go_wp2_with fail
      have RM : Rd fV (w2.alloc (.cells #[fV (hlf ((v1 : Int) - 4))] 39)) (.slice (some ⟨w2.heap.size, 0, none⟩) 1 1) [hlf ((v1 : Int) - 4)] := rd_one fV _ _ _
      have hb := below_alloc w2 (.cells #[fV (hlf ((v1 : Int) - 4))] 39)
      have hz_RM : (World.alloc w2 (.cells #[fV (hlf ((v1 : Int) - 4))] 39)).heap.size = w2.heap.size + 1 := size_alloc _ _
      obtain ⟨S_RM, hS_RM⟩ : ∃ S, S = w2.heap.size := ⟨_, rfl⟩
      rw [← hS_RM] at RM hz_RM ⊢
      clear hS_RM
      generalize hg : World.alloc w2 (.cells #[fV (hlf ((v1 : Int) - 4))] 39) = w3 at *
      clear hg
      replace RL := RL.below hb
      replace RW := RW.below hb
      replace hT := below_to hT hb hT.size
      clear hb
      clear hz_RM
      refine (A2.out _ hT).mono ?_
      rintro e w' ⟨rfl, rfl⟩
      obtain ⟨t1, t2, t3, t4, t5, t6, t7⟩ := top_facts hv9 hv7
      obtain ⟨wx, Mx, Sx, mb, wb, g2, pw, g3, h1, h2, hP⟩ := one_facts HLh.out (by rw [HL4.out]; omega) (by rw [HL4.out]; omega) hv9 hv7 (mix_of t1)
      rw [show ((L.length : Nat) : Int) = 4 + (v0 : Int) by rw [HL4.out]; omega] at hP
      have HM := Lib.hid t1
      have HV := Lib.hid t2
      have HP := Lib.hid hP
      clear t1 t2 hP
      go_wp2_with fail
      have RS : Rd fV (w3.alloc (.cells #[fV (qrt (2 + (v2 : Int)))] 39)) (.slice (some ⟨w3.heap.size, 0, none⟩) 1 1) [qrt (2 + (v2 : Int))] := rd_one fV _ _ _
      have hb := below_alloc w3 (.cells #[fV (qrt (2 + (v2 : Int)))] 39)
      have hz_RS : (World.alloc w3 (.cells #[fV (qrt (2 + (v2 : Int)))] 39)).heap.size = w3.heap.size + 1 := size_alloc _ _
      obtain ⟨S_RS, hS_RS⟩ : ∃ S, S = w3.heap.size := ⟨_, rfl⟩
      rw [← hS_RS] at RS hz_RS ⊢
      clear hS_RS
      generalize hg : World.alloc w3 (.cells #[fV (qrt (2 + (v2 : Int)))] 39) = w4 at *
      clear hg
      replace RL := RL.below hb
      replace RW := RW.below hb
      replace RM := RM.below hb
      replace hT := below_to hT hb hT.size
      clear hb
      have B_e : BoxAt (w4.alloc (.cells #[.slice (some ⟨S_RW, 0, none⟩) 1 1, .slice (some ⟨S_RM, 0, none⟩) 1 1, .slice (some ⟨S_RS, 0, none⟩) 1 1] 26)) w4.heap.size [.slice (some ⟨S_RW, 0, none⟩) 1 1, .slice (some ⟨S_RM, 0, none⟩) 1 1, .slice (some ⟨S_RS, 0, none⟩) 1 1] := BoxAt.new w4 _ _
      have hb := below_alloc w4 (.cells #[.slice (some ⟨S_RW, 0, none⟩) 1 1, .slice (some ⟨S_RM, 0, none⟩) 1 1, .slice (some ⟨S_RS, 0, none⟩) 1 1] 26)
      have hz_e : (World.alloc w4 (.cells #[.slice (some ⟨S_RW, 0, none⟩) 1 1, .slice (some ⟨S_RM, 0, none⟩) 1 1, .slice (some ⟨S_RS, 0, none⟩) 1 1] 26)).heap.size = w4.heap.size + 1 := size_alloc _ _
      rw [hz_RS] at B_e hz_e
      clear hz_RS
      obtain ⟨S_e, hS_e⟩ : ∃ S, S = S_RS + 1 := ⟨_, rfl⟩
      rw [← hS_e] at B_e hz_e ⊢
      clear hS_e
      generalize hg : World.alloc w4 (.cells #[.slice (some ⟨S_RW, 0, none⟩) 1 1, .slice (some ⟨S_RM, 0, none⟩) 1 1, .slice (some ⟨S_RS, 0, none⟩) 1 1] 26) = w5 at *
      clear hg
      replace RL := RL.below hb
      replace RW := RW.below hb
      replace RM := RM.below hb
      replace RS := RS.below hb
      replace hT := below_to hT hb hT.size
      clear hb
      clear hz_e
      have k_e_0 := B_e.cell 0 _ rfl
      have k_e_1 := B_e.cell 1 _ rfl
      have k_e_2 := B_e.cell 2 _ rfl
      have l_e := B_e.lt
      have l2_e : S_e < w5.heap.size + 1 := by omega
      obtain ⟨hm0, hm1⟩ := row_cell RM
      go_region_held3 (fun w' => w'.cell? ⟨S_e, 0, none⟩ = some (.slice (some ⟨S_RW, 0, none⟩) 1 1) ∧ w'.cell? ⟨S_e, 1, none⟩ = some (.slice (some ⟨S_RM, 0, none⟩) 1 1) ∧ w'.cell? ⟨S_e, 2, none⟩ = some (.slice (some ⟨S_RS, 0, none⟩) 1 1) ∧ w'.cell? ⟨S_RM, 0, none⟩ = some (fV (hlf ((v1 : Int) - 4))))
        (first
          | go_keep
          | (go_split_ands; refine ⟨?_, ?_, ?_, ?_⟩ <;> (rw [hb6.cell (by simp; omega)]; assumption)))
        (first | (go_at_call 17; refine (mix_at2 (by simp) (by simp) (by simp) HM.out HV.out _ ?_ ?_ ?_).mono ?_; (exact RW.below (Below.refl _ _).drew); (exact RM.below (Below.refl _ _).drew); (exact RS.below (Below.refl _ _).drew); rintro e w6 ⟨rfl, hb6⟩))
      have hb : Below w5.heap.size w5 w6 := below_to ((Below.refl w5.heap.size w5).drew) hb6 (by simp)
      clear hb6 hm0 hm1 k_e_0 k_e_1 k_e_2 l_e l2_e
      replace RL := RL.below hb
      replace RW := RW.below hb
      replace RM := RM.below hb
      replace RS := RS.below hb
      replace B_e := B_e.below hb
      replace hT := below_to hT hb hT.size
      clear hb
      have f3 := fun W => run_float_arith (P := Try.prog) W .quo 42 .f64 _ _ _ t5
      have u1 := fun W => run_up_y t3 W
      have u2 := fun W => run_up_y t4 W
      have G0 := Lib.hid (fun W => b10Gap_any t6 W)
      clear t3 t4 t5 t6 f1 f2 hlt2
      have hLn : L.length ≤ 1099511627776 := by rw [HL4.out]; omega
      have k_e_0 := B_e.cell 0 _ rfl
      have k_e_1 := B_e.cell 1 _ rfl
      have k_e_2 := B_e.cell 2 _ rfl
      have l_e := B_e.lt
      have l2_e : S_e < w6.heap.size + 1 := by omega
      go_wp2_with fail
      clear k_e_0 k_e_1 k_e_2 l_e l2_e
      refine (fit_one (by simp) (by simp) (by simp) hLn HP.out.fo HP.out.fr HP.out.aw HP.out.aM HP.out.aS _ RW RM RS RL).mono ?_
      rintro e w7 ⟨G0a, c0a, G1a, c1a, G2a, c2a, rfl, F0, F1, F2, hb⟩
      replace RL := RL.below hb
      replace RW := RW.below hb
      replace RM := RM.below hb
      replace RS := RS.below hb
      replace B_e := B_e.below hb
      replace hT := below_to hT hb hT.size
      clear hb
      have k_e_0 := B_e.cell 0 _ rfl
      have k_e_1 := B_e.cell 1 _ rfl
      have k_e_2 := B_e.cell 2 _ rfl
      have l_e := B_e.lt
      have l2_e : S_e < w7.heap.size + 1 := by omega
      obtain ⟨m_RS, n_RS⟩ := row_cell RS
      have n2_RS : S_RS < w7.heap.size + 1 := by omega
      go_wp2_with fail
      clear k_e_0 k_e_1 k_e_2 l_e l2_e m_RS n_RS n2_RS
      have B_f : BoxAt (w7.alloc (.cells #[.slice (some ⟨G0a, 0, none⟩) 1 c0a, .slice (some ⟨G1a, 0, none⟩) 1 c1a, .slice (some ⟨G2a, 0, none⟩) 1 c2a] 26)) w7.heap.size [.slice (some ⟨G0a, 0, none⟩) 1 c0a, .slice (some ⟨G1a, 0, none⟩) 1 c1a, .slice (some ⟨G2a, 0, none⟩) 1 c2a] := BoxAt.new w7 _ _
      have hb := below_alloc w7 (.cells #[.slice (some ⟨G0a, 0, none⟩) 1 c0a, .slice (some ⟨G1a, 0, none⟩) 1 c1a, .slice (some ⟨G2a, 0, none⟩) 1 c2a] 26)
      have hz_f : (World.alloc w7 (.cells #[.slice (some ⟨G0a, 0, none⟩) 1 c0a, .slice (some ⟨G1a, 0, none⟩) 1 c1a, .slice (some ⟨G2a, 0, none⟩) 1 c2a] 26)).heap.size = w7.heap.size + 1 := size_alloc _ _
      obtain ⟨S_f, hS_f⟩ : ∃ S, S = w7.heap.size := ⟨_, rfl⟩
      rw [← hS_f] at B_f hz_f ⊢
      clear hS_f
      generalize hg : World.alloc w7 (.cells #[.slice (some ⟨G0a, 0, none⟩) 1 c0a, .slice (some ⟨G1a, 0, none⟩) 1 c1a, .slice (some ⟨G2a, 0, none⟩) 1 c2a] 26) = w8 at *
      clear hg
      replace RL := RL.below hb
      replace RW := RW.below hb
      replace RM := RM.below hb
      replace RS := RS.below hb
      replace F0 := F0.below hb
      replace F1 := F1.below hb
      replace F2 := F2.below hb
      replace B_e := B_e.below hb
      replace hT := below_to hT hb hT.size
      clear hb
      clear hz_f
      refine (G0.out _).mono ?_
      rintro e w' ⟨rfl, rfl⟩
      have k_e_0 := B_e.cell 0 _ rfl
      have k_e_1 := B_e.cell 1 _ rfl
      have k_e_2 := B_e.cell 2 _ rfl
      have l_e := B_e.lt
      have l2_e : S_e < w8.heap.size + 1 := by omega
      have k_f_0 := B_f.cell 0 _ rfl
      have k_f_1 := B_f.cell 1 _ rfl
      have k_f_2 := B_f.cell 2 _ rfl
      have l_f := B_f.lt
      have l2_f : S_f < w8.heap.size + 1 := by omega
      go_wp2
      clear k_e_0 k_e_1 k_e_2 l_e l2_e k_f_0 k_f_1 k_f_2 l_f l2_f
      have HRL := Lib.hid RL
      obtain ⟨AL, cL2, evL, hcL, hAL⟩ := RL
      cases evL
      have HAL := Lib.hid hAL
      clear hAL
      go_loopw [13, 116] (fun sm si wq => ∃ k b : Nat, k ≤ L.length ∧ si = .int .i64 k ∧ sm = dV b ∧ Hid (foldO (mT (floatOfInt .f64 (4 + (v0 : Int)))) (some 0) (L.take k) = some b) ∧ w8 = wq) (fun _ si _ => L.length - (intOf si).toNat)
      case atStart => exact ⟨0, 0, Nat.zero_le _, rfl, rfl, rfl, by first | trivial | rfl⟩
      case round =>
        obtain ⟨k, b, hk, rfl, rfl, hb, hwr⟩ := hrel
        subst hwr
        by_cases hlt : k < L.length
        case pos =>
          obtain ⟨y, hy⟩ := get_of_lt hlt
          obtain ⟨b1, q, b2, e1, e2, e3, e4⟩ := HP.out.ms k y hy
          rw [hb.out] at e1
          injection e1 with e1
          subst e1
          have E4 := Lib.hid e4
          have g1 := fun W => run_up_y (HP.out.fy y (List.mem_of_getElem? hy)) W
          have g2 := fun W => run_float_arith (P := Try.prog) W .quo 42 .f64 _ _ _ e2
          have g3 := fun W => run_float_arith (P := Try.prog) W .add 42 .f64 _ _ _ e3
          obtain ⟨ad, rfl, hbl, hcell⟩ := HAL.out k y hy
          clear hy e2 e3 e4 hb
          go_wp2
          go_roundw
          case rel => exact ⟨k + 1, b2, by omega, by go_num, rfl, E4.out, by first | trivial | rfl⟩
          case measure => simp [intOf]; omega
        case neg =>
          have hke : k = L.length := by omega
          subst hke
          have hbm := hb.out
          rw [List.take_length, HP.out.me] at hbm
          injection hbm with hbm
          subst hbm
          clear hb hlt hk
          go_wp2
          go_loopw [15, 132] (fun sm si wq => ∃ k b : Nat, k ≤ L.length ∧ si = .int .i64 k ∧ sm = dV b ∧ Hid (foldO (wT mb (floatOfInt .f64 (4 + (v0 : Int)))) (some 4547007122018943789) (L.take k) = some b) ∧ Hid (∃ m, w8.drewN m = wq)) (fun _ si _ => L.length - (intOf si).toNat)
          case atStart => exact ⟨0, 4547007122018943789, Nat.zero_le _, rfl, rfl, rfl, 0, rfl⟩
          case round =>
            obtain ⟨k, b, hk, rfl, rfl, hb, hwr⟩ := hrel
            by_cases hlt : k < L.length
            case pos =>
              obtain ⟨y, hy⟩ := get_of_lt hlt
              obtain ⟨b1, d, pq, q, b2, e1, e2, e3, e4, e5, e6⟩ := HP.out.ws k y hy
              rw [hb.out] at e1
              injection e1 with e1
              subst e1
              have E6 := Lib.hid e6
              have g1 := fun W => run_up_y (HP.out.fy y (List.mem_of_getElem? hy)) W
              have g2 := fun W => run_float_arith (P := Try.prog) W .sub 42 .f64 _ _ _ e2
              have g3 := fun W => run_float_arith (P := Try.prog) W .mul 42 .f64 _ _ _ e3
              have g4 := fun W => run_float_arith (P := Try.prog) W .quo 42 .f64 _ _ _ e4
              have g5 := fun W => run_float_arith (P := Try.prog) W .add 42 .f64 _ _ _ e5
              obtain ⟨ad, rfl, hbl, hcell0⟩ := HAL.out k y hy
              have hcell : wr.cell? (ad.add k) = some (fV y) := by obtain ⟨m, hm⟩ := hwr.out; rw [← hm]; exact hcell0
              clear hcell0
              clear hy e2 e3 e4 e5 hb
              go_wp2
              go_quiet (fail)
              go_wp2
              go_roundw
              case rel => exact ⟨k + 1, b2, by omega, by go_num, rfl, E6.out, drewn_more hwr.out⟩
              case measure => simp [intOf]; omega
            case neg =>
              have hke : k = L.length := by omega
              subst hke
              have hbm := hb.out
              rw [List.take_length, HP.out.we] at hbm
              injection hbm with hbm
              subst hbm
              clear hb hlt hk
              have hb : Below w8.heap.size w8 wr := by obtain ⟨m, hm⟩ := hwr.out; rw [← hm]; exact below_drewN_ (Below.refl _ _)
              clear hwr
              have RL := HRL.out
              clear HAL HRL hcL
              replace RL := RL.below hb
              replace RW := RW.below hb
              replace RM := RM.below hb
              replace RS := RS.below hb
              replace F0 := F0.below hb
              replace F1 := F1.below hb
              replace F2 := F2.below hb
              replace B_e := B_e.below hb
              replace B_f := B_f.below hb
              replace hT := below_to hT hb hT.size
              clear hb
              clear B_e RW RM RS F0 u1 u2 f3 G0 A0 A1 A2 AC t7 HM HV HL
              have w1f := fun W => run_up_y HP.out.fM W
              have w2f := fun W => run_up_y HP.out.fS W
              have f1 := fun W => run_float_arith (P := Try.prog) W .mul 42 .f64 _ _ _ HP.out.e3
              have f2 := fun W => run_float_arith (P := Try.prog) W .add 42 .f64 _ _ _ HP.out.e5
              have f4 := fun W => run_float_arith (P := Try.prog) W .mul 42 .f64 _ _ _ HP.out.e6
              have o2 := HP.out.l2
              have o3 := HP.out.l3
              have GA := Lib.hid (quietR (fun W => (b10Gap_any HP.out.e2 W).mono fun e w2 h => ⟨h.1, 0, h.2⟩) wr)
              have GB := Lib.hid (quietR (fun W => (b10Gap_any HP.out.e4 W).mono fun e w2 h => ⟨h.1, 0, h.2⟩) wr)
              have k_f_0 := B_f.cell 0 _ rfl
              have k_f_1 := B_f.cell 1 _ rfl
              have k_f_2 := B_f.cell 2 _ rfl
              have l_f := B_f.lt
              have l2_f : S_f < wr.heap.size + 1 := by omega
              obtain ⟨m_F1, n_F1⟩ := row_cell F1
              have n2_F1 : G1a < wr.heap.size + 1 := by omega
              obtain ⟨m_F2, n_F2⟩ := row_cell F2
              have n2_F2 : G2a < wr.heap.size + 1 := by omega
              go_wp2
              go_quiet (first | (go_at_call_of 18 (Value.float .f64 (upBits Mx)); exact GA.out _) | (go_at_call_of 18 (Value.float .f64 pw); exact GB.out _))
              have hb : Below wr.heap.size wr (wr.drewN nq) := below_drewN_ (Below.refl _ _)
              clear k_f_0 k_f_1 k_f_2 l_f l2_f m_F1 n_F1 n2_F1 m_F2 n_F2 n2_F2
              generalize wr.drewN nq = w9 at *
              replace RL := RL.below hb
              replace F1 := F1.below hb
              replace F2 := F2.below hb
              replace B_f := B_f.below hb
              replace hT := below_to hT hb hT.size
              clear hb
              clear w1f w2f f1 f2 f4 o2 o3 GA GB HP
              clear F1 F2 B_f
              go_wp2_with fail
              have B0 : Rd fV (w9.alloc (.cells #[fV 1056964608, fV 1056964608] 39)) (.slice (some ⟨w9.heap.size, 0, none⟩) 2 2) [1056964608, 1056964608] := rd_twoB _ _ _ _
              have hb := below_alloc w9 (.cells #[fV 1056964608, fV 1056964608] 39)
              have hz_B0 : (World.alloc w9 (.cells #[fV 1056964608, fV 1056964608] 39)).heap.size = w9.heap.size + 1 := size_alloc _ _
              obtain ⟨S_B0, hS_B0⟩ : ∃ S, S = w9.heap.size := ⟨_, rfl⟩
              rw [← hS_B0] at B0 hz_B0 ⊢
              clear hS_B0
              generalize hg : World.alloc w9 (.cells #[fV 1056964608, fV 1056964608] 39) = w10 at *
              clear hg
              replace RL := RL.below hb
              replace hT := below_to hT hb hT.size
              clear hb
              have B1 : Rd fV (w10.alloc (.cells #[fV 3221225472, fV 1073741824] 39)) (.slice (some ⟨w10.heap.size, 0, none⟩) 2 2) [3221225472, 1073741824] := rd_twoB _ _ _ _
              have hb := below_alloc w10 (.cells #[fV 3221225472, fV 1073741824] 39)
              have hz_B1 : (World.alloc w10 (.cells #[fV 3221225472, fV 1073741824] 39)).heap.size = w10.heap.size + 1 := size_alloc _ _
              rw [hz_B0] at B1 hz_B1
              clear hz_B0
              obtain ⟨S_B1, hS_B1⟩ : ∃ S, S = S_B0 + 1 := ⟨_, rfl⟩
              rw [← hS_B1] at B1 hz_B1 ⊢
              clear hS_B1
              generalize hg : World.alloc w10 (.cells #[fV 3221225472, fV 1073741824] 39) = w11 at *
              clear hg
              replace RL := RL.below hb
              replace B0 := B0.below hb
              replace hT := below_to hT hb hT.size
              clear hb
              have B2 : Rd fV (w11.alloc (.cells #[fV 1065353216, fV 1065353216] 39)) (.slice (some ⟨w11.heap.size, 0, none⟩) 2 2) [1065353216, 1065353216] := rd_twoB _ _ _ _
              have hb := below_alloc w11 (.cells #[fV 1065353216, fV 1065353216] 39)
              have hz_B2 : (World.alloc w11 (.cells #[fV 1065353216, fV 1065353216] 39)).heap.size = w11.heap.size + 1 := size_alloc _ _
              rw [hz_B1] at B2 hz_B2
              clear hz_B1
              obtain ⟨S_B2, hS_B2⟩ : ∃ S, S = S_B1 + 1 := ⟨_, rfl⟩
              rw [← hS_B2] at B2 hz_B2 ⊢
              clear hS_B2
              generalize hg : World.alloc w11 (.cells #[fV 1065353216, fV 1065353216] 39) = w12 at *
              clear hg
              replace RL := RL.below hb
              replace B0 := B0.below hb
              replace B1 := B1.below hb
              replace hT := below_to hT hb hT.size
              clear hb
              have B_b : BoxAt (w12.alloc (.cells #[.slice (some ⟨S_B0, 0, none⟩) 2 2, .slice (some ⟨S_B1, 0, none⟩) 2 2, .slice (some ⟨S_B2, 0, none⟩) 2 2] 26)) w12.heap.size [.slice (some ⟨S_B0, 0, none⟩) 2 2, .slice (some ⟨S_B1, 0, none⟩) 2 2, .slice (some ⟨S_B2, 0, none⟩) 2 2] := BoxAt.new w12 _ _
              have hb := below_alloc w12 (.cells #[.slice (some ⟨S_B0, 0, none⟩) 2 2, .slice (some ⟨S_B1, 0, none⟩) 2 2, .slice (some ⟨S_B2, 0, none⟩) 2 2] 26)
              have hz_b : (World.alloc w12 (.cells #[.slice (some ⟨S_B0, 0, none⟩) 2 2, .slice (some ⟨S_B1, 0, none⟩) 2 2, .slice (some ⟨S_B2, 0, none⟩) 2 2] 26)).heap.size = w12.heap.size + 1 := size_alloc _ _
              rw [hz_B2] at B_b hz_b
              clear hz_B2
              obtain ⟨S_b, hS_b⟩ : ∃ S, S = S_B2 + 1 := ⟨_, rfl⟩
              rw [← hS_b] at B_b hz_b ⊢
              clear hS_b
              generalize hg : World.alloc w12 (.cells #[.slice (some ⟨S_B0, 0, none⟩) 2 2, .slice (some ⟨S_B1, 0, none⟩) 2 2, .slice (some ⟨S_B2, 0, none⟩) 2 2] 26) = w13 at *
              clear hg
              replace RL := RL.below hb
              replace B0 := B0.below hb
              replace B1 := B1.below hb
              replace B2 := B2.below hb
              replace hT := below_to hT hb hT.size
              clear hb
              clear hz_b
              refine (A3.out _ hT).mono ?_
              rintro e w' ⟨rfl, rfl⟩
              clear A3
              cases hfo : fitOk [1056964608, 1056964608] [3221225472, 1073741824] [1065353216, 1065353216] L (v3 : Int)
              case false =>
                have HFO := Lib.hid hfo
                clear hfo
                have k_b_0 := B_b.cell 0 _ rfl
                have k_b_1 := B_b.cell 1 _ rfl
                have k_b_2 := B_b.cell 2 _ rfl
                have l_b := B_b.lt
                have l2_b : S_b < w13.heap.size + 1 := by omega
                go_wp2_with fail
                clear k_b_0 k_b_1 k_b_2 l_b l2_b
                refine (fit_no HFO.out (specFitMixture_any _ _ _ _ _ _ (by simp) (by simp) (by simp) _ L hLn _ _ B0 B1 B2 RL)).mono ?_
                rintro e w14 ⟨X0, i0, j0, X1, i1, j1, X2, i2, j2, rfl, hb⟩
                replace RL := RL.below hb
                replace B0 := B0.below hb
                replace B1 := B1.below hb
                replace B2 := B2.below hb
                replace B_b := B_b.below hb
                replace hT := below_to hT hb hT.size
                clear hb
                have k_b_0 := B_b.cell 0 _ rfl
                have k_b_1 := B_b.cell 1 _ rfl
                have k_b_2 := B_b.cell 2 _ rfl
                have l_b := B_b.lt
                have l2_b : S_b < w14.heap.size + 1 := by omega
                go_wp2_with fail
                clear k_b_0 k_b_1 k_b_2 l_b l2_b
                have B_x : BoxAt (w14.alloc (.cells #[.slice X0 i0 j0, .slice X1 i1 j1, .slice X2 i2 j2] 26)) w14.heap.size [.slice X0 i0 j0, .slice X1 i1 j1, .slice X2 i2 j2] := BoxAt.new w14 _ _
                have hb := below_alloc w14 (.cells #[.slice X0 i0 j0, .slice X1 i1 j1, .slice X2 i2 j2] 26)
                have hz_x : (World.alloc w14 (.cells #[.slice X0 i0 j0, .slice X1 i1 j1, .slice X2 i2 j2] 26)).heap.size = w14.heap.size + 1 := size_alloc _ _
                obtain ⟨S_x, hS_x⟩ : ∃ S, S = w14.heap.size := ⟨_, rfl⟩
                rw [← hS_x] at B_x hz_x ⊢
                clear hS_x
                generalize hg : World.alloc w14 (.cells #[.slice X0 i0 j0, .slice X1 i1 j1, .slice X2 i2 j2] 26) = w15 at *
                clear hg
                replace RL := RL.below hb
                replace B0 := B0.below hb
                replace B1 := B1.below hb
                replace B2 := B2.below hb
                replace B_b := B_b.below hb
                replace hT := below_to hT hb hT.size
                clear hb
                clear hz_x
                clear B_x
                refine (fit_no HFO.out (implFitMixture_any _ _ _ _ _ _ (by simp) (by simp) (by simp) _ L hLn _ _ B0 B1 B2 RL)).mono ?_
                rintro e w16 ⟨Y0, k0, l0, Y1, k1, l1, Y2, k2, l2, rfl, hb⟩
                replace RL := RL.below hb
                replace B0 := B0.below hb
                replace B1 := B1.below hb
                replace B2 := B2.below hb
                replace B_b := B_b.below hb
                replace hT := below_to hT hb hT.size
                clear hb
                go_wp2
                go_ret
                exact ⟨rfl, hT.alloc hT.size _⟩
              case true =>
                obtain ⟨W0, W1, N0, N1, S0, S1, sw, g, hR, aW0, aW1, aN0, aN1, aS0, aS1, hmx, fW0, fW1, e1, e2, ol, oN⟩ := two_facts HLh.out (by rw [HL4.out]; omega) (by rw [HL4.out]; omega) hfo
                have HA := Lib.hid (And.intro hfo (And.intro hR (And.intro aW0 (And.intro aW1 (And.intro aN0 (And.intro aN1 (And.intro aS0 (And.intro aS1 hmx))))))))
                clear hfo hR aW0 aW1 aN0 aN1 aS0 aS1 hmx
                have k_b_0 := B_b.cell 0 _ rfl
                have k_b_1 := B_b.cell 1 _ rfl
                have k_b_2 := B_b.cell 2 _ rfl
                have l_b := B_b.lt
                have l2_b : S_b < w13.heap.size + 1 := by omega
                go_wp2_with fail
                clear k_b_0 k_b_1 k_b_2 l_b l2_b
                refine (fit_two HA.out.1 HA.out.2.1 HA.out.2.2.1 HA.out.2.2.2.1 HA.out.2.2.2.2.1 HA.out.2.2.2.2.2.1 HA.out.2.2.2.2.2.2.1 HA.out.2.2.2.2.2.2.2.1 (specFitMixture_any _ _ _ _ _ _ (by simp) (by simp) (by simp) _ L hLn _ _ B0 B1 B2 RL)).mono ?_
                rintro e w14 ⟨X0, i0, X1, i1, X2, i2, rfl, -, -, -, hb⟩
                replace RL := RL.below hb
                replace B0 := B0.below hb
                replace B1 := B1.below hb
                replace B2 := B2.below hb
                replace B_b := B_b.below hb
                replace hT := below_to hT hb hT.size
                clear hb
                have k_b_0 := B_b.cell 0 _ rfl
                have k_b_1 := B_b.cell 1 _ rfl
                have k_b_2 := B_b.cell 2 _ rfl
                have l_b := B_b.lt
                have l2_b : S_b < w14.heap.size + 1 := by omega
                go_wp2_with fail
                clear k_b_0 k_b_1 k_b_2 l_b l2_b
                have B_x : BoxAt (w14.alloc (.cells #[.slice (some ⟨X0, 0, none⟩) 2 i0, .slice (some ⟨X1, 0, none⟩) 2 i1, .slice (some ⟨X2, 0, none⟩) 2 i2] 26)) w14.heap.size [.slice (some ⟨X0, 0, none⟩) 2 i0, .slice (some ⟨X1, 0, none⟩) 2 i1, .slice (some ⟨X2, 0, none⟩) 2 i2] := BoxAt.new w14 _ _
                have hb := below_alloc w14 (.cells #[.slice (some ⟨X0, 0, none⟩) 2 i0, .slice (some ⟨X1, 0, none⟩) 2 i1, .slice (some ⟨X2, 0, none⟩) 2 i2] 26)
                have hz_x : (World.alloc w14 (.cells #[.slice (some ⟨X0, 0, none⟩) 2 i0, .slice (some ⟨X1, 0, none⟩) 2 i1, .slice (some ⟨X2, 0, none⟩) 2 i2] 26)).heap.size = w14.heap.size + 1 := size_alloc _ _
                obtain ⟨S_x, hS_x⟩ : ∃ S, S = w14.heap.size := ⟨_, rfl⟩
                rw [← hS_x] at B_x hz_x ⊢
                clear hS_x
                generalize hg : World.alloc w14 (.cells #[.slice (some ⟨X0, 0, none⟩) 2 i0, .slice (some ⟨X1, 0, none⟩) 2 i1, .slice (some ⟨X2, 0, none⟩) 2 i2] 26) = w15 at *
                clear hg
                replace RL := RL.below hb
                replace B0 := B0.below hb
                replace B1 := B1.below hb
                replace B2 := B2.below hb
                replace B_b := B_b.below hb
                replace hT := below_to hT hb hT.size
                clear hb
                clear hz_x
                clear B_x
                refine (fit_two HA.out.1 HA.out.2.1 HA.out.2.2.1 HA.out.2.2.2.1 HA.out.2.2.2.2.1 HA.out.2.2.2.2.2.1 HA.out.2.2.2.2.2.2.1 HA.out.2.2.2.2.2.2.2.1 (implFitMixture_any _ _ _ _ _ _ (by simp) (by simp) (by simp) _ L hLn _ _ B0 B1 B2 RL)).mono ?_
                rintro e w16 ⟨Y0, k0, Y1, k1, Y2, k2, rfl, H0, H1, H2, hb⟩
                replace RL := RL.below hb
                replace B0 := B0.below hb
                replace B1 := B1.below hb
                replace B2 := B2.below hb
                replace B_b := B_b.below hb
                replace hT := below_to hT hb hT.size
                clear hb
                have k_b_0 := B_b.cell 0 _ rfl
                have k_b_1 := B_b.cell 1 _ rfl
                have k_b_2 := B_b.cell 2 _ rfl
                have l_b := B_b.lt
                have l2_b : S_b < w16.heap.size + 1 := by omega
                go_wp2
                clear k_b_0 k_b_1 k_b_2 l_b l2_b
                have B_h : BoxAt (w16.alloc (.cells #[.slice (some ⟨Y0, 0, none⟩) 2 k0, .slice (some ⟨Y1, 0, none⟩) 2 k1, .slice (some ⟨Y2, 0, none⟩) 2 k2] 26)) w16.heap.size [.slice (some ⟨Y0, 0, none⟩) 2 k0, .slice (some ⟨Y1, 0, none⟩) 2 k1, .slice (some ⟨Y2, 0, none⟩) 2 k2] := BoxAt.new w16 _ _
                have hb := below_alloc w16 (.cells #[.slice (some ⟨Y0, 0, none⟩) 2 k0, .slice (some ⟨Y1, 0, none⟩) 2 k1, .slice (some ⟨Y2, 0, none⟩) 2 k2] 26)
                have hz_h : (World.alloc w16 (.cells #[.slice (some ⟨Y0, 0, none⟩) 2 k0, .slice (some ⟨Y1, 0, none⟩) 2 k1, .slice (some ⟨Y2, 0, none⟩) 2 k2] 26)).heap.size = w16.heap.size + 1 := size_alloc _ _
                obtain ⟨S_h, hS_h⟩ : ∃ S, S = w16.heap.size := ⟨_, rfl⟩
                rw [← hS_h] at B_h hz_h ⊢
                clear hS_h
                generalize hg : World.alloc w16 (.cells #[.slice (some ⟨Y0, 0, none⟩) 2 k0, .slice (some ⟨Y1, 0, none⟩) 2 k1, .slice (some ⟨Y2, 0, none⟩) 2 k2] 26) = w17 at *
                clear hg
                replace RL := RL.below hb
                replace B0 := B0.below hb
                replace B1 := B1.below hb
                replace B2 := B2.below hb
                replace H0 := H0.below hb
                replace H1 := H1.below hb
                replace H2 := H2.below hb
                replace B_b := B_b.below hb
                replace hT := below_to hT hb hT.size
                clear hb
                clear hz_h
                have u1 := fun W => run_up_y fW0 W
                have u2 := fun W => run_up_y fW1 W
                have f1 := fun W => run_float_arith (P := Try.prog) W .add 42 .f64 _ _ _ e1
                have GC := Lib.hid (fun W => b10Gap_any e2 W)
                have HN := Lib.hid oN
                clear fW0 fW1 e1 e2 oN
                have k_b_0 := B_b.cell 0 _ rfl
                have k_b_1 := B_b.cell 1 _ rfl
                have k_b_2 := B_b.cell 2 _ rfl
                have l_b := B_b.lt
                have l2_b : S_b < w17.heap.size + 1 := by omega
                have k_h_0 := B_h.cell 0 _ rfl
                have k_h_1 := B_h.cell 1 _ rfl
                have k_h_2 := B_h.cell 2 _ rfl
                have l_h := B_h.lt
                have l2_h : S_h < w17.heap.size + 1 := by omega
                obtain ⟨m_H0, n_H0⟩ := row_cell H0
                have n2_H0 : Y0 < w17.heap.size + 1 := by omega
                have mm_H0 := (row_cell1 H0).1
                go_region_held3 (fun w' => w'.cell? ⟨S_h, 0, none⟩ = some (.slice (some ⟨Y0, 0, none⟩) 2 k0) ∧ w'.cell? ⟨S_h, 1, none⟩ = some (.slice (some ⟨Y1, 0, none⟩) 2 k1) ∧ w'.cell? ⟨S_h, 2, none⟩ = some (.slice (some ⟨Y2, 0, none⟩) 2 k2) ∧ w'.cell? ⟨Y0, 0, none⟩ = some (fV W0) ∧ w'.cell? ⟨Y0, 1, none⟩ = some (fV W1))
                  (first
                    | go_keep
                    | (go_split_ands; refine ⟨?_, ?_, ?_, ?_, ?_⟩ <;> (rw [hb6.cell (by simp; omega)]; assumption)))
                  (first | (go_at_call 19; refine (valid_at2 (by simp) (by simp) (by simp) HA.out.2.2.2.2.2.2.2.2 _ ?_ ?_ ?_).mono ?_; (exact H0.below (Below.refl _ _).drew); (exact H1.below (Below.refl _ _).drew); (exact H2.below (Below.refl _ _).drew); rintro e w18 ⟨rfl, hb6⟩) | (go_at_call 18; refine (GC.out _).mono ?_; rintro e w' ⟨rfl, rfl⟩))
                have hb : Below w17.heap.size w17 w18 := below_to ((Below.refl w17.heap.size w17).drew) hb6 (by simp)
                clear hb6 u1 u2 f1 GC k_b_0 k_b_1 k_b_2 l_b l2_b k_h_0 k_h_1 k_h_2 l_h l2_h m_H0 n_H0 n2_H0 mm_H0
                replace RL := RL.below hb
                replace B0 := B0.below hb
                replace B1 := B1.below hb
                replace B2 := B2.below hb
                replace H0 := H0.below hb
                replace H1 := H1.below hb
                replace H2 := H2.below hb
                replace B_b := B_b.below hb
                replace B_h := B_h.below hb
                replace hT := below_to hT hb hT.size
                clear hb
                have k_b_0 := B_b.cell 0 _ rfl
                have k_b_1 := B_b.cell 1 _ rfl
                have k_b_2 := B_b.cell 2 _ rfl
                have l_b := B_b.lt
                have l2_b : S_b < w18.heap.size + 1 := by omega
                have k_h_0 := B_h.cell 0 _ rfl
                have k_h_1 := B_h.cell 1 _ rfl
                have k_h_2 := B_h.cell 2 _ rfl
                have l_h := B_h.lt
                have l2_h : S_h < w18.heap.size + 1 := by omega
                go_wp2
                clear k_b_0 k_b_1 k_b_2 l_b l2_b k_h_0 k_h_1 k_h_2 l_h l2_h
                go_loopw [241] (fun si wq => ∃ k : Nat, k ≤ 2 ∧ si = .int .i64 k ∧ w18 = wq) (fun si _ => 2 - (intOf si).toNat)
                case atStart => exact ⟨0, Nat.zero_le _, rfl, by first | trivial | rfl⟩
                case round =>
                  obtain ⟨k, hk, rfl, hwr⟩ := hrel
                  subst hwr
                  by_cases hlt : k < 2
                  case pos =>
                    have k_b_0 := B_b.cell 0 _ rfl
                    have k_b_1 := B_b.cell 1 _ rfl
                    have k_b_2 := B_b.cell 2 _ rfl
                    have l_b := B_b.lt
                    have l2_b : S_b < w18.heap.size + 1 := by omega
                    have k_h_0 := B_h.cell 0 _ rfl
                    have k_h_1 := B_h.cell 1 _ rfl
                    have k_h_2 := B_h.cell 2 _ rfl
                    have l_h := B_h.lt
                    have l2_h : S_h < w18.heap.size + 1 := by omega
                    obtain ⟨N, hNm, hcell, hcb⟩ := row_at2 H1 hlt
                    obtain ⟨og, oh⟩ := HN.out N hNm
                    clear hNm
                    go_wp2
                    go_roundw
                    case rel => exact ⟨k + 1, by omega, by go_num, by first | trivial | rfl⟩
                    case measure => simp [intOf]; omega
                  case neg =>
                    have hke : k = 2 := by omega
                    subst hke
                    clear hlt hk
                    clear B_h H0 H1 H2 HA HN
                    cases hlk : likeOk [1056964608, 1056964608] [3221225472, 1073741824] [1065353216, 1065353216] L
                    all_goals
                      have HLK := Lib.hid hlk
                      clear hlk
                      have k_b_0 := B_b.cell 0 _ rfl
                      have k_b_1 := B_b.cell 1 _ rfl
                      have k_b_2 := B_b.cell 2 _ rfl
                      have l_b := B_b.lt
                      have l2_b : S_b < w18.heap.size + 1 := by omega
                      go_wp2_with fail
                      clear k_b_0 k_b_1 k_b_2 l_b l2_b
                      refine (like_at2 HLK.out (specLikeOf_any _ _ _ _ _ _ (by simp) (by simp) (by simp) _ L hLn _ B0 B1 B2 RL)).mono ?_
                      rintro e w19 ⟨t1, rfl, hb⟩
                      replace RL := RL.below hb
                      replace B0 := B0.below hb
                      replace B1 := B1.below hb
                      replace B2 := B2.below hb
                      replace B_b := B_b.below hb
                      replace hT := below_to hT hb hT.size
                      clear hb
                      have k_b_0 := B_b.cell 0 _ rfl
                      have k_b_1 := B_b.cell 1 _ rfl
                      have k_b_2 := B_b.cell 2 _ rfl
                      have l_b := B_b.lt
                      have l2_b : S_b < w19.heap.size + 1 := by omega
                      go_wp2_with fail
                      clear k_b_0 k_b_1 k_b_2 l_b l2_b
                      refine (like_at2 HLK.out (implLikeOf_any _ _ _ _ _ _ (by simp) (by simp) (by simp) _ L hLn _ B0 B1 B2 RL)).mono ?_
                      rintro e w20 ⟨t2, rfl, hb⟩
                      replace RL := RL.below hb
                      replace B0 := B0.below hb
                      replace B1 := B1.below hb
                      replace B2 := B2.below hb
                      replace B_b := B_b.below hb
                      replace hT := below_to hT hb hT.size
                      clear hb
                      go_wp2
                      go_ret
                      exact ⟨rfl, hT⟩
end Go.Proofs.Ytimpabceellihaa
