/-
  The second half of FnBells, reckoned out.
-/
import Derived.Test.YthafpbhjpmnddaaHitT0
import Derived.Test.YthafpbhjpmnddaaBellT6
namespace Go.Proofs.Ythafpbhjpmnddaa
open Go.RowKit

/-! ### Hits -/
def ckC (c : Nat) : Bool := fbL .quo .f32 (floatOfInt .f32 (c : Int)) 1098907648 == some (chT.getD c 0) && (fbL .sub .f32 1065353216 (chT.getD c 0) == some (qqT.getD c 0) && (nn (chT.getD c 0) && (partB (chT.getD c 0) &&
  (chkRows (chT.getD c 0) (qqT.getD c 0) [1065353216] (rowsT.getD c []).tail && ((rowsT.getD c []).head? == some [1065353216] && (rowsT.getD c []).length == 20)))))
def ckN (c n : Nat) : Bool :=
  let ch := chT.getD c 0
  let row := (rowsT.getD c []).getD n []
  let M := (mmT.getD c []).getD n 0
  let V := (vvT.getD c []).getD n 0
  shareB (cntL (n + 1)) row && (dotL (cntL (n + 1)) row (some 0) == some M && (finB M && (nn M && (momL M (cntL (n + 1)) row (some 0) == some V && (finB V && (nn V &&
  match fbL .mul .f64 (floatOfInt .f64 (n : Int)) (upBits ch), fbL .sub .f64 4607182418800017408 (upBits ch) with
  | some W, some d => (match fbL .mul .f64 W d, gapL (upBits M) W with
    | some e, some g1 => (FloatKind.f64.format.order g1 4576918229304087675 == some .lt) && (match gapL (upBits V) e with
      | some g2 => (FloatKind.f64.format.order g2 4576918229304087675 == some .lt)
      | none => false)
    | _, _ => false)
  | _, _ => false))))))
set_option maxRecDepth 100000
theorem ckC_ok : ∀ c, c < 17 → ckC c = true := by decide +kernel
theorem ckN0 : ∀ n, n < 20 → ckN 0 n = true := by decide +kernel
theorem ckN1 : ∀ n, n < 20 → ckN 1 n = true := by decide +kernel
theorem ckN2 : ∀ n, n < 20 → ckN 2 n = true := by decide +kernel
theorem ckN3 : ∀ n, n < 20 → ckN 3 n = true := by decide +kernel
theorem ckN4 : ∀ n, n < 20 → ckN 4 n = true := by decide +kernel
theorem ckN5 : ∀ n, n < 20 → ckN 5 n = true := by decide +kernel
theorem ckN6 : ∀ n, n < 20 → ckN 6 n = true := by decide +kernel
theorem ckN7 : ∀ n, n < 20 → ckN 7 n = true := by decide +kernel
theorem ckN8 : ∀ n, n < 20 → ckN 8 n = true := by decide +kernel
theorem ckN9 : ∀ n, n < 20 → ckN 9 n = true := by decide +kernel
theorem ckN10 : ∀ n, n < 20 → ckN 10 n = true := by decide +kernel
theorem ckN11 : ∀ n, n < 20 → ckN 11 n = true := by decide +kernel
theorem ckN12 : ∀ n, n < 20 → ckN 12 n = true := by decide +kernel
theorem ckN13 : ∀ n, n < 20 → ckN 13 n = true := by decide +kernel
theorem ckN14 : ∀ n, n < 20 → ckN 14 n = true := by decide +kernel
theorem ckN15 : ∀ n, n < 20 → ckN 15 n = true := by decide +kernel
theorem ckN16 : ∀ n, n < 20 → ckN 16 n = true := by decide +kernel
theorem ckN_ok (c n : Nat) (hc : c < 17) (hn : n < 20) : ckN c n = true := by
  have h : c = 0 ∨ c = 1 ∨ c = 2 ∨ c = 3 ∨ c = 4 ∨ c = 5 ∨ c = 6 ∨ c = 7 ∨ c = 8 ∨ c = 9 ∨ c = 10 ∨ c = 11 ∨ c = 12 ∨ c = 13 ∨ c = 14 ∨ c = 15 ∨ c = 16 := by omega
  rcases h with rfl | rfl | rfl | rfl | rfl | rfl | rfl | rfl | rfl | rfl | rfl | rfl | rfl | rfl | rfl | rfl | rfl
  · exact ckN0 n hn
  · exact ckN1 n hn
  · exact ckN2 n hn
  · exact ckN3 n hn
  · exact ckN4 n hn
  · exact ckN5 n hn
  · exact ckN6 n hn
  · exact ckN7 n hn
  · exact ckN8 n hn
  · exact ckN9 n hn
  · exact ckN10 n hn
  · exact ckN11 n hn
  · exact ckN12 n hn
  · exact ckN13 n hn
  · exact ckN14 n hn
  · exact ckN15 n hn
  · exact ckN16 n hn
theorem hitP_all (n c : Nat) (hn : n < 20) (hc : c < 17) : ∃ ch M V W d e g1 g2 ys, HitP n c ch M V W d e g1 g2 ys := by
  have hC := ckC_ok c hc
  have hN := ckN_ok c n hc hn
  unfold ckC at hC
  unfold ckN at hN
  dsimp only at hN
  simp only [Bool.and_eq_true, beq_iff_eq] at hC
  obtain ⟨c1, c2, c3, c4, c5, c6, c7⟩ := hC
  generalize chT.getD c 0 = ch at *
  generalize qqT.getD c 0 = q at *
  generalize (mmT.getD c []).getD n 0 = M at *
  generalize (vvT.getD c []).getD n 0 = V at *
  generalize rowsT.getD c [] = rows at *
  rw [fbL_eq] at c1 c2
  cases rows with
  | nil => cases c6
  | cons r0 rs =>
  simp only [List.head?_cons, Option.some.injEq] at c6
  subst c6
  have ha := absF_of (nn_t c3)
  have hq : opF .sub .f32 oneN (some ch) = some q := c2
  obtain ⟨row, hrow⟩ : ∃ row, ([1065353216] :: rs)[n]? = some row := ⟨_, List.getElem?_eq_getElem (by rw [c7]; exact hn)⟩
  have hR := chkRows_ok hq rs [1065353216] 0 c5 (row_start ch) n row hrow
  rw [Nat.zero_add] at hR
  rw [show ([1065353216] :: rs).getD n [] = row by rw [List.getD_eq_getElem?_getD, hrow]; rfl] at hN
  simp only [Bool.and_eq_true, beq_iff_eq] at hN
  obtain ⟨n1, n2, n3, n4, n5, n6, n7, n8⟩ := hN
  cases eW : fbL .mul .f64 (floatOfInt .f64 (n : Int)) (upBits ch) with
  | none => rw [eW] at n8; cases n8
  | some W =>
  cases ed : fbL .sub .f64 4607182418800017408 (upBits ch) with
  | none => rw [eW, ed] at n8; cases n8
  | some d =>
  rw [eW, ed] at n8
  dsimp only at n8
  cases ee : fbL .mul .f64 W d with
  | none => rw [ee] at n8; cases n8
  | some e =>
  cases eg : gapL (upBits M) W with
  | none => rw [ee, eg] at n8; cases n8
  | some g1 =>
  rw [ee, eg] at n8
  dsimp only at n8
  rw [Bool.and_eq_true] at n8
  cases eh : gapL (upBits V) e with
  | none => rw [eh] at n8; cases n8.2
  | some g2 =>
  rw [eh] at n8
  dsimp only at n8
  rw [fbL_eq] at eW ed ee
  rw [gapL_eq] at eg eh
  have hCr := hitC_row ha hR
  have hm := mean_lit n1 n2 n3
  have hv := mom_lit n1 n2 n3 n5 n6
  have hok : hitOk (n : Int) ch = true := by
    unfold hitOk hitOk1
    rw [c4, hCr, Int.toNat_natCast]
    have e2 : row.map some = absL row := by
      have := (shareB_abs2 n1).2.2
      unfold absL
      exact (List.map_congr_left fun x hx => (this x hx)).symm
    rw [e2, ← shareB_abs, n1]
    simp only [Bool.and_true]
    exact decide_eq_true (by omega)
  exact ⟨ch, M, V, W, d, e, g1, g2, row, c1, hok, hCr, hm.1, hm.2, hv.1, hv.2, nn_t n4, nn_t n7, nn_t c3, eW, eg, n8.1, ed, ee, eh, n8.2⟩

/-! ### What is rare -/
def chkRaw (r : Nat) : Nat → Nat → List Nat → Bool
  | _, _, [] => true
  | k, p, a :: zs => opL .quo .f32 (opL .mul .f32 (some p) (some r)) (absF .f32 (floatOfInt .f32 ((k : Int) + 1))) == some a && chkRaw r (k + 1) a zs
theorem chkRaw_ok {r : Nat} : ∀ (zs : List Nat) (k p : Nat), chkRaw r k p zs = true → rareA (some r) k = some p → ∀ (i x : Nat), (p :: zs)[i]? = some x → rareA (some r) (k + i) = some x
  | [], k, p, _, hp, i, x, hx => by
    cases i with
    | zero => cases hx; exact hp
    | succ i => simp at hx
  | a :: zs, k, p, h, hp, i, x, hx => by
    unfold chkRaw at h
    rw [Bool.and_eq_true, opL_eq, opL_eq, beq_iff_eq] at h
    cases i with
    | zero => cases hx; exact hp
    | succ i =>
      have ha : rareA (some r) (k + 1) = some a := by
        show opF .quo .f32 (opF .mul .f32 (rareA (some r) k) (some r)) (absF .f32 (floatOfInt .f32 ((k : Int) + 1))) = _
        rw [hp]
        exact h.1
      have := chkRaw_ok zs (k + 1) a h.2 ha i x (by simpa using hx)
      rw [show k + (i + 1) = k + 1 + i by omega]
      exact this
def sumL : List Nat → Option Nat → Option Nat
  | [], s => s
  | x :: xs, s => outO (opL .add .f32 s (some x)) fun t => sumL xs t
theorem sumL_eq : ∀ (xs : List Nat) (s : Option Nat), sumL xs s = (xs.map some).foldl (opF .add .f32) s
  | [], s => rfl
  | x :: xs, s => by
    unfold sumL
    rw [out_eq, opL_eq, sumL_eq xs]
    rfl
def chkDiv (S : Nat) : List Nat → List Nat → Bool
  | [], [] => true
  | x :: xs, z :: zs => opL .quo .f32 (some x) (some S) == some z && chkDiv S xs zs
  | _, _ => false
theorem chkDiv_ok {S : Nat} : ∀ (xs zs : List Nat), chkDiv S xs zs = true → (xs.map some).map (fun x => opF .quo .f32 x (some S)) = zs.map some
  | [], [], _ => rfl
  | [], _ :: _, h => by cases h
  | _ :: _, [], h => by cases h
  | x :: xs, z :: zs, h => by
    unfold chkDiv at h
    rw [Bool.and_eq_true, opL_eq, beq_iff_eq] at h
    rw [List.map_cons, List.map_cons, List.map_cons, h.1, chkDiv_ok xs zs h.2]
def ckR (r : Nat) : Bool :=
  let rw' := rwT.getD r 0
  let raw := rawTb.getD r []
  let zs := zzT.getD r []
  fbL .quo .f32 (floatOfInt .f32 (r : Int)) 1073741824 == some rw' && (nn rw' && (rareOk1 rw' 40 && (raw.length == 41 && (raw.head? == some 1065353216 && (chkRaw rw' 0 1065353216 raw.tail && (sumL raw (some 0) == some (ssT.getD r 0) && (chkDiv (ssT.getD r 0) raw zs &&
  (shareB (cntL 41) zs && (dotL (cntL 41) zs (some 0) == some (ooT.getD r 0) && (finB (ooT.getD r 0) && (nn (ooT.getD r 0) &&
  match fbL .quo .f64 (floatOfInt .f64 (r : Int)) 4611686018427387904 with
  | some h => (match gapL (upBits (ooT.getD r 0)) h with
    | some g => (FloatKind.f64.format.order g 4576918229304087675 == some .lt)
    | none => false)
  | none => false)))))))))))
theorem ckR_ok : ∀ r, r < 9 → ckR r = true := by decide +kernel
theorem rareP_all (r : Nat) (hr : r < 9) : ∃ rw' O h g zs, RareP r rw' O h g zs := by
  have h := ckR_ok r hr
  unfold ckR at h
  dsimp only at h
  simp only [Bool.and_eq_true, beq_iff_eq] at h
  generalize rwT.getD r 0 = rw' at *
  generalize rawTb.getD r [] = raw at *
  generalize zzT.getD r [] = zs at *
  generalize ssT.getD r 0 = S at *
  generalize ooT.getD r 0 = O at *
  obtain ⟨h1, h2, h3, h4, h5, h6, h7, h8, h9, h10, h11, h12, h13⟩ := h
  rw [fbL_eq] at h1
  cases raw with
  | nil => cases h5
  | cons r0 rs =>
  simp only [List.head?_cons, Option.some.injEq] at h5
  subst h5
  have ha := absF_of (nn_t h2)
  have hraw : rareRow (some rw') 41 = (1065353216 :: rs).map some := by
    unfold rareRow
    apply List.ext_getElem?
    intro i
    rw [List.getElem?_map, List.getElem?_map]
    by_cases hi : i < 41
    · rw [List.getElem?_range hi]
      have hil : i < (1065353216 :: rs).length := by rw [h4]; exact hi
      rw [List.getElem?_eq_getElem hil]
      have := chkRaw_ok rs 0 1065353216 h6 rfl i _ (List.getElem?_eq_getElem hil)
      rw [Nat.zero_add] at this
      exact congrArg some this
    · rw [List.getElem?_eq_none (by simp; omega), List.getElem?_eq_none (by rw [h4]; omega)]
      rfl
  have hsum : sumF (rareRow (some rw') 41) = some S := by
    rw [hraw]
    unfold sumF
    rw [← sumL_eq, h7]
  have hzs : rareC rw' 40 = zs.map some := by
    unfold rareC
    rw [show (40 : Int).toNat + 1 = 41 from rfl, ha, hsum]
    unfold divTo
    rw [List.take_of_length_le (by rw [rareRow_len]; omega), List.drop_eq_nil_of_le (by rw [rareRow_len]; omega), List.append_nil, hraw]
    exact chkDiv_ok _ _ h8
  cases eh : fbL .quo .f64 (floatOfInt .f64 (r : Int)) 4611686018427387904 with
  | none => rw [eh] at h13; cases h13
  | some hh =>
  rw [eh] at h13
  dsimp only at h13
  cases eg : gapL (upBits O) hh with
  | none => rw [eg] at h13; cases h13
  | some g =>
  rw [eg] at h13
  dsimp only at h13
  rw [fbL_eq] at eh
  rw [gapL_eq] at eg
  have hm := mean_lit h9 h10 h11
  have hok : rareOk rw' 40 = true := by
    unfold rareOk
    rw [h3, hzs, show (40 : Int).toNat + 1 = 41 from rfl]
    have e2 : zs.map some = absL zs := by
      have := (shareB_abs2 h9).2.2
      unfold absL
      exact (List.map_congr_left fun x hx => (this x hx)).symm
    rw [e2, ← shareB_abs, h9]
    rfl
  exact ⟨rw', O, hh, g, zs, h1, hok, hzs, hm.1, hm.2, nn_t h12, eh, eg, h13⟩
end Go.Proofs.Ythafpbhjpmnddaa
