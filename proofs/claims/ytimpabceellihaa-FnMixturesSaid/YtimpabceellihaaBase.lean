/-
  Plain definitions and lemmas of my own, with no program in sight: Pascal's numbers with wrap, tests by name, small facts on lists.
-/
import Derived.Test.YtimpabceellihaaRows
import Derived.WalkKit
import Derived.WalkSpells
import Derived.WalkLawsBesides
import Derived.Lib.Hide
namespace Go.Proofs.Ytimpabceellihaa
open Go.RowKit

/-- 'low ≤ n ≤ high' as a Bool that the walk does not open. -/
def inB (n lo hi : Int) : Bool := decide (lo ≤ n ∧ n ≤ hi)
theorem inB_true {n lo hi : Int} (h : inB n lo hi = true) : lo ≤ n ∧ n ≤ hi := of_decide_eq_true h
theorem inB_false {n lo hi : Int} (h : inB n lo hi = false) : ¬ (lo ≤ n ∧ n ≤ hi) := of_decide_eq_false h

theorem ret_int {k : IntKind} {a b : Int} (h : a = b) : Ending.returned (.int k a) = .returned (.int k b) := by rw [h]
theorem ret_iib {k j : IntKind} {a a' b b' : Int} {c c' : Bool} (h : a = a') (h2 : b = b') (h3 : c = c') : Ending.returned (.tuple #[.int k a, .int j b, .bool c]) = .returned (.tuple #[.int k a', .int j b', .bool c']) := by rw [h, h2, h3]
theorem ret_ib {k : IntKind} {a a' : Int} {c c' : Bool} (h : a = a') (h3 : c = c') : Ending.returned (.tuple #[.int k a, .bool c]) = .returned (.tuple #[.int k a', .bool c']) := by rw [h, h3]
theorem ret_bool {a b : Bool} (h : a = b) : Ending.returned (.bool a) = .returned (.bool b) := by rw [h]

theorem wrap64_id {x : Int} (h1 : -9223372036854775808 ≤ x) (h2 : x ≤ 9223372036854775807) : wrap64 x = x := IntWalk.wrap64_in x ⟨h1, h2⟩

/-- A slice type's number T, its element type's E, the zero value z (of one cell), the bytes. -/
structure Elem (P : Program) (T E : TypeId) (z : Value) (bytes : Nat) : Prop where
  slice : P.underlying T = some (.slice E)
  info : (P.info? E).map (fun i => (i.zero, i.size, i.bytes)) = some (some z, 1, bytes)
  cells : z.cells = #[z]

/-- 'make([]T, n)' of elements of one cell. -/
theorem Elem.make {P : Program} {T E : TypeId} {z : Value} {bytes : Nat} (el : Elem P T E z bytes) (w : World) {ops : Array Oper} {rest : List Oper} {o : Oper} {a : Act} {Q : Exit → Act → World → Prop}
    (hg : o.guard = none) (l c : Operand) (hop : o.op = Op.makeSlice T l c) (kl kc : IntKind) (L C : Int) (n : Nat) (hl : a.eval l = .int kl L) (hc : a.eval c = .int kc C) (hL : L = (n : Int)) (hC : C = (n : Int))
    (hb : bytes ≤ 64) (hn : n ≤ 1099511627776)
    (hK : ∀ w', w'.ownsRow w.heap.size E 1 (.slice (some ⟨w.heap.size, 0, none⟩) n n) n (List.replicate n z) → Below w.heap.size w w' → w'.heap.size = w.heap.size + 1 → wpList P ops Q rest (a.put o.dst (.slice (some ⟨w.heap.size, 0, none⟩) n n)) w') :
    wpList P ops Q (o :: rest) a w := by
  obtain ⟨i0, hi, hz0, hz1, hz2⟩ := info_parts el.info
  have hbn : i0.bytes * n ≤ 281474976710656 := by
    rw [hz2]
    exact Nat.le_trans (Nat.mul_le_mul hb hn) (by decide)
  subst hL; subst hC
  refine wpList_plain hg fun K hK' => ?_
  have hr := run_make (P := P) w T E i0 z el.slice hi hz0 kl kc n n (by omega) (Int.le_refl _) (by rw [← Int.natCast_mul]; omega) (by omega)
  simp only [Int.toNat_natCast] at hr
  have hown := World.ownsRow_lit (w := w) (base := w.heap.size) (e := E) (size := i0.size) (madeCells z.cells (n * i0.size)) n (Nat.le_refl _) (by unfold maxLen; omega) (size_madeCells _ _)
  rw [hz1, el.cells, toList_madeCells_one, Nat.mul_one] at hown
  unfold Oper.wp
  simp [execOp, hop, hl, hc, hr, Result.andThen]
  refine hK' _ _ (hK _ ?_ ?_ ?_)
  · rw [hz1, el.cells]; simpa using hown
  · exact (Below.refl _ _).alloc (Nat.le_refl _) _
  · simp

/-- 'make([]T, n)' as an equation, for every world: laid ahead of a region that draws its order. -/
theorem Elem.mk_eq {P : Program} {T E : TypeId} {z : Value} {bytes : Nat} (el : Elem P T E z bytes) (n : Nat) (L : Int) (hL : L = (n : Int)) (hb : bytes ≤ 64) (hn : n ≤ 1099511627776) (W : World) :
    (Instr.makeSlice T (.int .i64 L) (.int .i64 L)).run P W = .ok (.slice (some ⟨W.heap.size, 0, none⟩) n n) (W.alloc (.cells (Array.replicate n z) E)) := by
  obtain ⟨i0, hi, hz0, hz1, hz2⟩ := info_parts el.info
  have hbn : i0.bytes * n ≤ 281474976710656 := by
    rw [hz2]
    exact Nat.le_trans (Nat.mul_le_mul hb hn) (by decide)
  subst hL
  have hr := run_make (P := P) W T E i0 z el.slice hi hz0 .i64 .i64 n n (by omega) (Int.le_refl _) (by rw [← Int.natCast_mul]; omega) (by omega)
  simp only [Int.toNat_natCast] at hr
  rw [hr, hz1, el.cells, Nat.mul_one]
  congr 3
  apply Array.ext'
  rw [toList_madeCells_one, Array.toList_replicate]
/-- The row that such a make owns. -/
theorem own_made (W : World) (n : Nat) (z : Value) (E : TypeId) (hn : n ≤ 1099511627776) :
    (W.alloc (.cells (Array.replicate n z) E)).ownsRow W.heap.size E 1 (.slice (some ⟨W.heap.size, 0, none⟩) n n) n (List.replicate n z) := by
  have := World.ownsRow_lit (w := W) (base := W.heap.size) (e := E) (size := 1) (Array.replicate n z) n (Nat.le_refl _) (by unfold maxLen; omega) (by simp)
  simpa using this

/-- What is owned stays owned where nothing that was there has turned. -/
theorem own_below {w w' : World} {base : Nat} {e : TypeId} {size : Nat} {v : Value} {n : Nat} {xs : List Value} (h : w.ownsRow base e size v n xs) (hb : Below w.heap.size w w') : w'.ownsRow base e size v n xs := by
  refine ⟨h.1, ?_⟩
  rcases h.2 with hn | ⟨g, cap, cur, rfl, hg, hgg, rest⟩
  · exact .inl hn
  · refine .inr ⟨g, cap, cur, rfl, hg, ?_, rest⟩
    rw [hb.block g (Array.getElem?_eq_some_iff.1 hgg).1]
    exact hgg
theorem own_base {w : World} {base base' : Nat} {e : TypeId} {size : Nat} {v : Value} {n : Nat} {xs : List Value} (h : w.ownsRow base e size v n xs) (hb : base' ≤ base) : w.ownsRow base' e size v n xs := by
  refine ⟨h.1, ?_⟩
  rcases h.2 with hn | ⟨g, cap, cur, rfl, hg, hgg, rest⟩
  · exact .inl hn
  · exact .inr ⟨g, cap, cur, rfl, by omega, hgg, rest⟩
/-- A row of at least one element lies somewhere. -/
theorem own_some {w : World} {base : Nat} {e : TypeId} {size : Nat} {v : Value} {n : Nat} {xs : List Value} (h : w.ownsRow base e size v n xs) (hn : 0 < n) :
    ∃ g cap, v = .slice (some ⟨g, 0, none⟩) n cap ∧ n ≤ cap ∧ base ≤ g ∧ g < w.heap.size := by
  rcases h.2 with ⟨_, h0⟩ | ⟨g, cap, cur, rfl, hg, hgg, hc, rest⟩
  · omega
  · exact ⟨g, cap, rfl, hc, hg, (Array.getElem?_eq_some_iff.1 hgg).1⟩
theorem below_to {a b c : World} {B : Nat} (h : Below B a b) (k : Below b.heap.size b c) (hB : B ≤ b.heap.size) : Below B a c := h.trans (k.mono hB)

/-- 'append(s, ..)' of elements of one cell, s the call's own. -/
theorem Elem.append {P : Program} {T E : TypeId} {z : Value} {bytes : Nat} (el : Elem P T E z bytes) (w : World) {ops : Array Oper} {rest : List Oper} {o : Oper} {a : Act} {Q : Exit → Act → World → Prop}
    (hg : o.guard = none) (s x : Operand) (hop : o.op = Op.call { callee := Callee.builtin Builtin.append, args := #[s, x], argTypes := #[T, T] })
    (base : Nat) (v : Value) (n : Nat) (xs : List Value) (hs : a.eval s = v) (hown : w.ownsRow base E 1 v n xs)
    (ad : Addr) (m c : Nat) (news : List Value) (hx : a.eval x = .slice (some ad) m c) (hl : news.length = m) (hnews : ∀ j u, news[j]? = some u → w.cell? (ad.add j) = some u) (h1 : ∀ u ∈ news, u.oneCell' = true)
    (hb : bytes ≤ 64) (hn : n + m ≤ 1099511627776) (hbase : base ≤ w.heap.size)
    (hK : ∀ v' w', w'.ownsRow base E 1 v' (n + m) (xs ++ news) → w.grownBy w' v.ownBlock → Below base w w' → wpList P ops Q rest (a.put o.dst v') w') :
    wpList P ops Q (o :: rest) a w := by
  obtain ⟨i0, hi, hz0, hz1, hz2⟩ := info_parts el.info
  have hbn : (n + m) * bytes ≤ 140737488355328 := Nat.le_trans (Nat.mul_le_mul hn hb) (by decide)
  refine wpList_append_own w hg s x T hop base E i0 z 1 bytes el.slice hi hz0 hz1 hz2 (by rw [el.cells]; rfl) (by decide) v n xs hs hown ad m c news hx (by omega) hnews h1 (by unfold maxLen; omega) hbn hbase ?_
  intro v' w' ho hgr _
  refine hK v' w' ho hgr ((Below.refl _ _).grown hgr hbase ?_)
  intro k hk
  exact (hown.lt k hk).1

/-- The same as one step of a region that draws its order ('go_region_held3's third argument). -/
theorem Elem.step {P : Program} {T E : TypeId} {z : Value} {bytes : Nat} (el : Elem P T E z bytes) (w : World) {ops : Array Oper} {o : Oper} {a : Act} {K : Act → World → Prop} {Q : Exit → Act → World → Prop} {E' : Prop}
    (hg : o.guard = none) (s x : Operand) (hop : o.op = Op.call { callee := Callee.builtin Builtin.append, args := #[s, x], argTypes := #[T, T] })
    (base : Nat) (v : Value) (n : Nat) (xs : List Value) (hs : a.eval s = v) (hown : w.ownsRow base E 1 v n xs)
    (ad : Addr) (m c : Nat) (news : List Value) (hx : a.eval x = .slice (some ad) m c) (hl : news.length = m) (hnews : ∀ j u, news[j]? = some u → w.cell? (ad.add j) = some u) (h1 : ∀ u ∈ news, u.oneCell' = true)
    (hb : bytes ≤ 64) (hn : n + m ≤ 1099511627776) (hbase : base ≤ w.heap.size)
    (hK : ∀ v' w', w'.ownsRow base E 1 v' (n + m) (xs ++ news) → w.grownBy w' v.ownBlock → Below base w w' → K (a.put o.dst v') w') :
    if Region.wanted o (yielded ops a.tmps) = true then Oper.wp P o a w K Q else E' := by
  have hw : Region.wanted o (yielded ops a.tmps) = true := by simp [Region.wanted, hg]
  rw [if_pos hw]
  obtain ⟨i0, hi, hz0, hz1, hz2⟩ := info_parts el.info
  have hbn : (n + m) * bytes ≤ 140737488355328 := Nat.le_trans (Nat.mul_le_mul hn hb) (by decide)
  refine wp_append_own w s x T hop base E i0 z 1 bytes el.slice hi hz0 hz1 hz2 (by rw [el.cells]; rfl) (by decide) v n xs hs hown ad m c news hx (by omega) hnews h1 (by unfold maxLen; omega) hbn hbase ?_
  intro v' w' ho hgr _
  refine hK v' w' ho hgr ((Below.refl _ _).grown hgr hbase ?_)
  intro k hk
  exact (hown.lt k hk).1

/-- The one new cell behind 'append(s, x)' of one element. -/
theorem new_one (w : World) (u : Value) (E : TypeId) : ∀ j v, [u][j]? = some v → (w.alloc (.cells #[u] E)).cell? ((⟨w.heap.size, 0, none⟩ : Addr).add j) = some v := by
  intro j v hj
  match j, hj with
  | 0, hj => simp at hj; subst hj; simp [Addr.add]
theorem one_one {u : Value} (h : u.oneCell' = true) : ∀ x ∈ [u], x.oneCell' = true := by intro x hx; simp at hx; subst hx; exact h

/-- Pascal's numbers, each sum wrapped as an int64 is. -/
def wC : Nat → Nat → Int
  | _, 0 => 1
  | 0, _ + 1 => 0
  | n + 1, k + 1 => wrap64 (wC n (k + 1) + wC n k)

theorem wC_zero (n : Nat) : wC n 0 = 1 := by cases n <;> rfl
theorem wC_succ (n k : Nat) : wC (n + 1) (k + 1) = wrap64 (wC n (k + 1) + wC n k) := rfl
theorem wC_over (n : Nat) : ∀ k, n < k → wC n k = 0 := by
  induction n with
  | zero => intro k h; cases k with | zero => omega | succ k => rfl
  | succ n ih =>
    intro k h
    cases k with
    | zero => omega
    | succ k => rw [wC_succ, ih _ (by omega), ih _ (by omega)]; exact wrap64_id (by omega) (by omega)
theorem wC_self (n : Nat) : wC n n = 1 := by
  induction n with
  | zero => rfl
  | succ n ih => rw [wC_succ, ih, wC_over n _ (by omega)]; exact wrap64_id (by omega) (by omega)

/-- The row of Pascal's numbers i, as an int64 slice of n + 1 cells holds it. -/
def rowP (n i : Nat) : List Value := (List.range (n + 1)).map fun t => Value.int .i64 (wC i t)
/-- .. in the middle of the round that makes row i out of row i - 1: the cells above j are made. -/
def rowQ (n i j : Nat) : List Value := (List.range (n + 1)).map fun t => Value.int .i64 (if j < t then wC i t else wC (i - 1) t)

theorem rowP_at {n i t : Nat} (h : t ≤ n) : (rowP n i)[t]? = some (.int .i64 (wC i t)) := by
  simp [rowP, List.getElem?_range (show t < n + 1 by omega)]
theorem rowQ_at {n i j t : Nat} (h : t ≤ n) : (rowQ n i j)[t]? = some (.int .i64 (if j < t then wC i t else wC (i - 1) t)) := by
  simp [rowQ, List.getElem?_range (show t < n + 1 by omega)]
theorem rowQ_start (n i : Nat) (hi : 1 ≤ i) : rowP n (i - 1) = rowQ n i i := by
  unfold rowP rowQ
  apply List.map_congr_left
  intro t _
  by_cases h : i < t
  · rw [if_pos h, wC_over _ _ h, wC_over _ _ (by omega)]
  · rw [if_neg h]
theorem rowQ_end (n i : Nat) : rowQ n i 0 = rowP n i := by
  unfold rowP rowQ
  apply List.map_congr_left
  intro t _
  cases t with
  | zero => simp [wC_zero]
  | succ t => simp
theorem rowQ_set {n i j : Nat} (hj : j + 1 ≤ n) (hi : 1 ≤ i) : (rowQ n i (j + 1)).set (j + 1) (.int .i64 (wrap64 (wC (i - 1) (j + 1) + wC (i - 1) j))) = rowQ n i j := by
  obtain ⟨i, rfl⟩ : ∃ i', i = i' + 1 := ⟨i - 1, by omega⟩
  apply List.ext_getElem?
  intro t
  rw [List.getElem?_set]
  by_cases h : t ≤ n
  · rw [rowQ_at h, rowQ_at h]
    by_cases e : j + 1 = t
    · subst e
      simp [rowQ, wC_succ, show j + 1 < n + 1 by omega]
    · rw [if_neg e]
      have : (j + 1 < t) ↔ (j < t) := by omega
      simp [this]
  · rw [if_neg (by omega)]
    simp [rowQ, show n + 1 ≤ t by omega]
theorem rowP_length (n i : Nat) : (rowP n i).length = n + 1 := by simp [rowP]
theorem rowQ_length (n i j : Nat) : (rowQ n i j).length = n + 1 := by simp [rowQ]
/-- Row i as impl.choices builds it: its first j numbers. -/
def rowI (i j : Nat) : List Value := (List.range j).map fun t => Value.int .i64 (wC i t)
theorem rowI_length (i j : Nat) : (rowI i j).length = j := by simp [rowI]
theorem rowI_at {i j t : Nat} (h : t < j) : (rowI i j)[t]? = some (.int .i64 (wC i t)) := by simp [rowI, List.getElem?_range h]
theorem rowI_one (i : Nat) : rowI i 1 = [.int .i64 1] := by simp [rowI, wC_zero]
theorem rowI_snoc (i j : Nat) : rowI (i + 1) (j + 1) ++ [.int .i64 (wrap64 (wC i j + wC i (j + 1)))] = rowI (i + 1) (j + 2) := by
  unfold rowI
  rw [List.range_succ (n := j + 1), List.map_append]
  simp [wC_succ, Int.add_comm]
theorem rowI_end (i : Nat) : rowI (i + 1) (i + 1) ++ [.int .i64 1] = rowI (i + 1) (i + 2) := by
  unfold rowI
  rw [List.range_succ (n := i + 1), List.map_append]
  simp [wC_self]

/-- The zero row with a 1 ahead is row 0. -/
theorem rowP_zero (n : Nat) : (List.replicate (n + 1) (Value.int .i64 0)).set 0 (.int .i64 1) = rowP n 0 := by
  apply List.ext_getElem?
  intro t
  rw [List.getElem?_set]
  by_cases h : t ≤ n
  · rw [rowP_at h]
    cases t with
    | zero => simp [wC_zero]
    | succ t => simp [wC, show t < n by omega]
  · simp [rowP, show n + 1 ≤ t by omega, show ¬ 0 = t by omega]
/-- A call of a function with a body enters it. -/
theorem enter_of {P : Program} {f : FuncId} {fn : Func} (hf : P.funcs[f]? = some fn) (hn : (fn.name == "runtime.NumGoroutine") = false) (hb : fn.body.isNone = false) (args : Array Value) (w : World) :
    (callFunc f args).run P w = .ok (.enter f args) w := by
  have h1 : fn.name ≠ "runtime.NumGoroutine" := by simpa using hn
  have h2 : fn.body ≠ none := by intro h; rw [h] at hb; cases hb
  simp [callFunc, hf, h1, h2]

end Go.Proofs.Ytimpabceellihaa
