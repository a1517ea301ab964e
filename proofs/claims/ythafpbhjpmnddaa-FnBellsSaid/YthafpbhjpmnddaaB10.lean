/-
  Bytes that choose numbers; gaps; and the walk of FnBells over what is reckoned of it.
-/
import Derived.Test.YthafpbhjpmnddaaBells
import Derived.Test.YthafpbhjpmnddaaHits2
import Derived.Test.YthafpbhjpmnddaaRare2
import Derived.Test.YthafpbhjpmnddaaMoment
import Derived.Test.YthafpbhjpmnddaaLw
import Derived.Test.YthafpbhjpmnddaaOpen
namespace Go.Proofs.Ythafpbhjpmnddaa
open Go.RowKit

/-- A byte as a cell. -/
abbrev yV (b : Fin 256) : Value := .int .u8 ((b.val : Nat) : Int)
theorem elem_byte {H : Type} {enc : TypeId × Value → H} {P : Program} {w : World} {base : Nat} {spare : Nat → Bool} {held : Bool} {e : TypeId} (he : P.underlying e = some (.int .u8)) (n : Nat) (v : Value) (y : DataW H × List MemPlace) (h : DataW.trod enc P w base spare held n e [v] = some y) : ∃ x : Fin 256, v = yV x := by
  obtain ⟨x, hx, _, hw⟩ := DataW.trod_int he h
  have h2 : 0 ≤ x ∧ x ≤ 255 := by
    have h3 : IntKind.u8.min ≤ x ∧ x ≤ IntKind.u8.max := by simpa [Lit.wf] using hw
    exact h3
  simp at hx
  refine ⟨⟨x.toNat, by omega⟩, ?_⟩
  rw [hx]
  congr 1
  show x = ((x.toNat : Nat) : Int)
  omega
/-- The number that a byte chooses. -/
def b10A (xs : List (Fin 256)) (i n : Nat) : Nat := match xs[i]? with
  | some x => x.val % n
  | none => (i * 37 + 11) % n
theorem b10A_lt (xs : List (Fin 256)) (i : Nat) {n : Nat} (h : 0 < n) : b10A xs i n < n := by unfold b10A; split <;> exact Nat.mod_lt _ h
theorem b10At_any (v : Value) (xs : List (Fin 256)) (i n : Nat) (hi : i ≤ 1000) (hn : 2 ≤ n) (hn2 : n ≤ 1000) (w : World) (hr : Rd yV w v xs) :
    Calls Try.prog 5 #[v, .int .i64 i, .int .i64 n] w fun e w' => e = .returned (.int .i64 ((b10A xs i n : Nat) : Int)) ∧ w = w' := by
  obtain ⟨A, cap, rfl, hcap, hA⟩ := hr
  have n1 : ¬ (n : Int) ≤ 1 := by omega
  have n0 : ¬ (n : Int) = 0 := by omega
  have n2 : ((n : Int) == 0) = false := beq_eq_false_iff_ne.2 n0
  have i0 : (0 : Int) ≤ (i : Int) := by omega
  by_cases hlt : i < xs.length
  · obtain ⟨x, hx⟩ := get_of_lt hlt
    obtain ⟨ad, rfl, hbl, hc⟩ := hA i x hx
    have i1 : (i : Int) < (xs.length : Int) := by omega
    have HX : Hid (b10A xs i n = x.val % n) := by unfold Hid b10A; rw [hx]
    have hx2 := x.isLt
    clear hA hx
    go_enter Try.func5, Try.ntmps5
    go_wp2
    go_ret
    refine ⟨ret_int ?_, rfl⟩
    rw [HX.out]
    exact (Int.natCast_emod _ _).symm
  · have i1 : ¬ (i : Int) < (xs.length : Int) := by omega
    have HX : Hid (b10A xs i n = (i * 37 + 11) % n) := by unfold Hid b10A; rw [List.getElem?_eq_none (by omega)]
    clear hA
    go_enter Try.func5, Try.ntmps5
    go_wp2
    go_ret
    refine ⟨ret_int ?_, rfl⟩
    rw [HX.out, Int.natCast_emod]
    simp
theorem b10Long_any (u v : Value) (xs ys : List (Fin 256)) (w : World) (hr : Rd yV w u xs) (hs : Rd yV w v ys) :
    Calls Try.prog 4 #[u, v] w fun e w' => e = .returned (.bool (decide (1048576 < xs.length) || decide (1048576 < ys.length))) ∧ w = w' := by
  obtain ⟨A, cap, rfl, hcap, hA⟩ := hr
  obtain ⟨B, cap2, rfl, hcap2, hB⟩ := hs
  clear hA hB
  by_cases h1 : 1048576 < xs.length
  · have h2 : (xs.length : Int) > 1048576 := by omega
    go_enter Try.func4, Try.ntmps4
    go_wp2
    go_ret
    exact ⟨ret_bool (by simp [h1]), rfl⟩
  · have h2 : ¬ (xs.length : Int) > 1048576 := by omega
    by_cases h3 : 1048576 < ys.length
    · have h4 : (ys.length : Int) > 1048576 := by omega
      go_enter Try.func4, Try.ntmps4
      go_wp2
      go_ret
      exact ⟨rfl, rfl⟩
    · have h4 : ¬ (ys.length : Int) > 1048576 := by omega
      go_enter Try.func4, Try.ntmps4
      go_wp2
      go_ret
      exact ⟨rfl, rfl⟩
/-- The gap of two words. -/
def gapW (a b : Nat) : Option Nat := if FloatKind.f64.format.order a b == some .lt then floatBits .sub .f64 b a else floatBits .sub .f64 a b
theorem b10Gap_any {a b g : Nat} (hg : gapW a b = some g) (w : World) : Calls Try.prog 8 #[.float .f64 a, .float .f64 b] w fun e w' => e = .returned (.float .f64 g) ∧ w = w' := by
  unfold gapW at hg
  cases h : (FloatKind.f64.format.order a b == some .lt)
  · rw [h, if_neg (by simp)] at hg
    have hf := fun W => run_float_arith (P := Try.prog) W .sub 28 .f64 a b g hg
    clear hg
    go_enter Try.func8, Try.ntmps8
    go_wp2
    go_ret
    exact ⟨rfl, rfl⟩
  · rw [h, if_pos rfl] at hg
    have hf := fun W => run_float_arith (P := Try.prog) W .sub 28 .f64 b a g hg
    clear hg
    go_enter Try.func8, Try.ntmps8
    go_wp2
    go_ret
    exact ⟨rfl, rfl⟩

/-! ### What is reckoned -/
/-- The first half, at the three numbers that are chosen. -/
structure BellP (v u t : Nat) (x q y p A B C T K F s1 s2 g1 g2 g3 : Nat) : Prop where
  hx : floatBits .quo .f32 (floatOfInt .f32 ((v : Int) - 32)) 1090519040 = some x
  hq : floatBits .quo .f32 (floatOfInt .f32 (1 + (u : Int))) 1090519040 = some q
  hy : floatBits .add .f32 x q = some y
  hp : floatBits .quo .f32 (floatOfInt .f32 (1 + (t : Int))) 1107296256 = some p
  fx : finB x = true
  fy : finB y = true
  fn : finB (Op.negFloat .f32 x) = true
  op : openB p = true
  fT : finB T = true
  hA : bellA (absF .f32 x) = some A
  hB : bellA (absF .f32 y) = some B
  hC : bellA (absF .f32 (Op.negFloat .f32 x)) = some C
  hT : (bisA (absF .f32 p) 40).1 = some T
  hK : bellA (absF .f32 T) = some K
  hF : bellA (absF .f32 0) = some F
  nA : (FloatKind.f32.decode A).isNaN = false
  nB : (FloatKind.f32.decode B).isNaN = false
  nC : (FloatKind.f32.decode C).isNaN = false
  nK : (FloatKind.f32.decode K).isNaN = false
  nF : (FloatKind.f32.decode F).isNaN = false
  np : (FloatKind.f32.decode p).isNaN = false
  c1 : (FloatKind.f32.format.order A 0 == some .lt) = false
  c2 : (FloatKind.f32.format.order B 1065353216 == some .gt) = false
  a1 : floatBits .add .f64 (upBits B) 4547007122018943789 = some s1
  c3 : (FloatKind.f64.format.order (upBits A) s1 == some .gt) = false
  a2 : floatBits .add .f64 (upBits A) (upBits C) = some s2
  d1 : gapW s2 4607182418800017408 = some g1
  c4 : (FloatKind.f64.format.order g1 4562254508917369340 == some .gt) = false
  d2 : gapW (upBits K) (upBits p) = some g2
  c5 : (FloatKind.f64.format.order g2 4562254508917369340 == some .gt) = false
  d3 : gapW (upBits F) 4602678819172646912 = some g3
  c6 : (FloatKind.f64.format.order g3 4547007122018943789 == some .gt) = false
/-- The second half. -/
structure HitP (n c : Nat) (ch M V W d e g1 g2 : Nat) (ys : List Nat) : Prop where
  hc : floatBits .quo .f32 (floatOfInt .f32 (c : Int)) 1098907648 = some ch
  ok : hitOk n ch = true
  row : hitC n ch = ys.map some
  mo : meanOk (cntL (n + 1)) ys = true
  mv : meanV (cntL (n + 1)) ys = some M
  vo : momOk (cntL (n + 1)) ys 2 = true
  vv : momV (cntL (n + 1)) ys 2 = some V
  nM : (FloatKind.f32.decode M).isNaN = false
  nV : (FloatKind.f32.decode V).isNaN = false
  nc : (FloatKind.f32.decode ch).isNaN = false
  hW : floatBits .mul .f64 (floatOfInt .f64 (n : Int)) (upBits ch) = some W
  e1 : gapW (upBits M) W = some g1
  c1 : (FloatKind.f64.format.order g1 4576918229304087675 == some .lt) = true
  hd : floatBits .sub .f64 4607182418800017408 (upBits ch) = some d
  he : floatBits .mul .f64 W d = some e
  e2 : gapW (upBits V) e = some g2
  c2 : (FloatKind.f64.format.order g2 4576918229304087675 == some .lt) = true
structure RareP (r : Nat) (rw O h g : Nat) (zs : List Nat) : Prop where
  hr : floatBits .quo .f32 (floatOfInt .f32 (r : Int)) 1073741824 = some rw
  ok : rareOk rw 40 = true
  row : rareC rw 40 = zs.map some
  mo : meanOk (cntL 41) zs = true
  mv : meanV (cntL 41) zs = some O
  nO : (FloatKind.f32.decode O).isNaN = false
  hh : floatBits .quo .f64 (floatOfInt .f64 (r : Int)) 4611686018427387904 = some h
  e : gapW (upBits O) h = some g
  c : (FloatKind.f64.format.order g 4576918229304087675 == some .lt) = true
theorem exact_of {b X : Nat} {o : Option Nat} (h : absF .f32 b = o) (e : o = some X) : b = X := (absF_some (h.trans e)).1
theorem absL_inj {xs ys : List Nat} (h : absL xs = ys.map some) : xs = ys := by
  unfold absL at h
  apply List.ext_getElem?
  intro i
  have := congrArg (fun l => l[i]?) h
  simp only [List.getElem?_map] at this
  cases hx : xs[i]? with
  | none =>
    rw [hx] at this
    cases hy : ys[i]? with
    | none => rfl
    | some y => rw [hy] at this; cases this
  | some x =>
    rw [hx] at this
    cases hy : ys[i]? with
    | none => rw [hy] at this; cases this
    | some y =>
      rw [hy] at this
      simp only [Option.map_some, Option.some.injEq] at this
      rw [(absF_some this).1]
theorem run_up_x {b : Nat} (h : (FloatKind.f32.decode b).isNaN = false) (W : World) : (convert 24 28 (.float .f32 b)).run Try.prog W = .ok (.float .f64 (upBits b)) W := by
  have := run_up_ b W
  unfold upR upN at this
  rw [h] at this
  simpa [World.drewN_zero] using this
end Go.Proofs.Ythafpbhjpmnddaa
