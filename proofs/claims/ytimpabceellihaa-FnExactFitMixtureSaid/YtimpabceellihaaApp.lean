/-
  'append' onto a row of the call's own, by what is appended: a slice that reads as a list, or one element.
-/
import Derived.Test.YtimpabceellihaaSl
import Derived.Maps.AppendAt
import Derived.Lib.AppendZeros
namespace Go.Proofs.Ytimpabceellihaa
open Go.RowKit

section
variable {P : Program} {T E : TypeId} {z : Value} {bytes : Nat} {α : Type} {f : α → Value}

theorem Elem.app_run (el : Elem P T E z bytes) (hf : ∀ x, (f x).oneCell' = true) (w : World) (ty : TypeId) (base : Nat) (v : Value) (xs : List α) (ho : Own f E w base v xs) (u : Value) (ys : List α) (hr : Rd f w u ys)
    (hb : bytes ≤ 64) (hn : xs.length + ys.length ≤ 1099511627776) (hbase : base ≤ w.heap.size) :
    ∃ v' w', (Builtin.append_ #[T, T] ty #[v, u]).run P w = .ok v' w' ∧ Own f E w' base v' (xs ++ ys) ∧ w.grownBy w' v.ownBlock ∧ (v'.ownBlock = v.ownBlock ∨ v'.ownBlock = some w.heap.size) := by
  obtain ⟨i0, hi, hz0, hz1, hz2⟩ := info_parts el.info
  obtain ⟨A, cap, rfl, hcap, hA⟩ := hr
  have hbn : (xs.length + ys.length) * bytes ≤ 140737488355328 := Nat.le_trans (Nat.mul_le_mul hn hb) (by decide)
  cases A with
  | some ad =>
    obtain ⟨v', w', h1, h2, h3, _, h5⟩ := run_append_own_at (P := P) w base T ty E i0 z 1 bytes el.slice hi hz0 hz1 hz2 (by rw [el.cells]; rfl) (by decide) v xs.length (xs.map f) ho ad ys.length cap (ys.map f) (by simp)
      (by
        intro j u hu
        rw [List.getElem?_map] at hu
        cases hy : ys[j]? with
        | none => rw [hy] at hu; simp at hu
        | some y =>
          rw [hy] at hu
          simp at hu
          subst hu
          obtain ⟨ad', e, _, hc⟩ := hA j y hy
          cases e
          exact hc)
      (by
        intro u hu
        obtain ⟨y, _, rfl⟩ := List.mem_map.1 hu
        exact hf y)
      (by unfold maxLen; omega) hbn hbase
    refine ⟨v', w', h1, ?_, h3, h5⟩
    unfold Own
    rw [List.length_append, List.map_append]
    exact h2
  | none =>
    have h0 : ys = [] := by
      cases ys with
      | nil => rfl
      | cons y ys =>
        obtain ⟨ad, e, _⟩ := hA 0 y rfl
        cases e
    subst h0
    refine ⟨v, w, ?_, by simpa using ho, World.grownBy.refl _ _, .inl rfl⟩
    rcases ho.2 with ⟨rfl, h0⟩ | ⟨g, cp, cur, rfl, _, _, hnc, _⟩
    · simp [Builtin.append_, run_underlying el.slice, sizeOf, typeInfo, hi, Builtin.lenOf, Builtin.firstCells]
    · simp [Builtin.append_, run_underlying el.slice, sizeOf, typeInfo, hi, Builtin.lenOf, Builtin.firstCells, hnc, storeCells]

theorem Elem.app_wp (el : Elem P T E z bytes) (hf : ∀ x, (f x).oneCell' = true) (w : World) {o : Oper} {a : Act} {K : Act → World → Prop} {Q : Exit → Act → World → Prop} (s x : Operand)
    (hop : o.op = Op.call { callee := Callee.builtin Builtin.append, args := #[s, x], argTypes := #[T, T] })
    (base : Nat) (v : Value) (xs : List α) (hs : a.eval s = v) (ho : Own f E w base v xs) (u : Value) (ys : List α) (hx : a.eval x = u) (hr : Rd f w u ys)
    (hb : bytes ≤ 64) (hn : xs.length + ys.length ≤ 1099511627776) (hbase : base ≤ w.heap.size)
    (hK : ∀ v' w', Own f E w' base v' (xs ++ ys) → w.grownBy w' v.ownBlock → Below base w w' → (v'.ownBlock = v.ownBlock ∨ v'.ownBlock = some w.heap.size) → K (a.put o.dst v') w') : o.wp P a w K Q := by
  obtain ⟨v', w', h1, h2, h3, h4⟩ := el.app_run hf w o.type base v xs ho u ys hr hb hn hbase
  unfold Oper.wp execOp
  simp only [hop, resolve, invoke, builtin, Sem.run_bind, Sem.run_pure, Result.andThen_ok, List.map_toArray, List.map_cons, List.map_nil, hs, hx, h1]
  exact hK v' w' h2 h3 ((Below.refl _ _).grown h3 hbase (fun k hk => (ho.lt k hk).1)) h4

/-- In a plain region. -/
theorem Elem.app (el : Elem P T E z bytes) (hf : ∀ x, (f x).oneCell' = true) (w : World) {ops : Array Oper} {rest : List Oper} {o : Oper} {a : Act} {Q : Exit → Act → World → Prop} (hg : o.guard = none) (s x : Operand)
    (hop : o.op = Op.call { callee := Callee.builtin Builtin.append, args := #[s, x], argTypes := #[T, T] })
    (base : Nat) (v : Value) (xs : List α) (hs : a.eval s = v) (ho : Own f E w base v xs) (u : Value) (ys : List α) (hx : a.eval x = u) (hr : Rd f w u ys)
    (hb : bytes ≤ 64) (hn : xs.length + ys.length ≤ 1099511627776) (hbase : base ≤ w.heap.size)
    (hK : ∀ v' w', Own f E w' base v' (xs ++ ys) → w.grownBy w' v.ownBlock → Below base w w' → (v'.ownBlock = v.ownBlock ∨ v'.ownBlock = some w.heap.size) → wpList P ops Q rest (a.put o.dst v') w') :
    wpList P ops Q (o :: rest) a w :=
  wpList_plain hg fun _ hK' => el.app_wp hf w s x hop base v xs hs ho u ys hx hr hb hn hbase fun v' w' h1 h2 h3 h4 => hK' _ _ (hK v' w' h1 h2 h3 h4)

/-- As one step of a region that draws its order. -/
theorem Elem.app_step (el : Elem P T E z bytes) (hf : ∀ x, (f x).oneCell' = true) (w : World) {ops : Array Oper} {o : Oper} {a : Act} {K : Act → World → Prop} {Q : Exit → Act → World → Prop} {E' : Prop} (hg : o.guard = none) (s x : Operand)
    (hop : o.op = Op.call { callee := Callee.builtin Builtin.append, args := #[s, x], argTypes := #[T, T] })
    (base : Nat) (v : Value) (xs : List α) (hs : a.eval s = v) (ho : Own f E w base v xs) (u : Value) (ys : List α) (hx : a.eval x = u) (hr : Rd f w u ys)
    (hb : bytes ≤ 64) (hn : xs.length + ys.length ≤ 1099511627776) (hbase : base ≤ w.heap.size)
    (hK : ∀ v' w', Own f E w' base v' (xs ++ ys) → w.grownBy w' v.ownBlock → Below base w w' → (v'.ownBlock = v.ownBlock ∨ v'.ownBlock = some w.heap.size) → K (a.put o.dst v') w') :
    if Region.wanted o (yielded ops a.tmps) = true then Oper.wp P o a w K Q else E' := by
  have hw : Region.wanted o (yielded ops a.tmps) = true := by simp [Region.wanted, hg]
  rw [if_pos hw]
  exact el.app_wp hf w s x hop base v xs hs ho u ys hx hr hb hn hbase hK

/-- The one new element of 'append(s, x)' as a slice that reads. -/
theorem rd_one (f : α → Value) (w : World) (x : α) (E : TypeId) : Rd f (w.alloc (.cells #[f x] E)) (.slice (some ⟨w.heap.size, 0, none⟩) 1 1) [x] :=
  ⟨_, 1, rfl, Nat.le_refl _, fun k y hk => by
    match k, hk with
    | 0, hk =>
      simp at hk
      subst hk
      refine ⟨_, rfl, by simp, ?_⟩
      simp [Addr.add]⟩
theorem own_nil_new (f : α → Value) (w : World) (E : TypeId) : Own f E (w.alloc (.cells #[] E)) w.heap.size (.slice (some ⟨w.heap.size, 0, none⟩) 0 0) [] := by
  exact World.ownsRow_lit (w := w) (base := w.heap.size) (e := E) (size := 1) #[] 0 (Nat.le_refl _) (by decide) rfl
theorem Own.alloc {w : World} {base : Nat} {v : Value} {xs : List α} (h : Own f E w base v xs) (o : Obj) : Own f E (w.alloc o) base v xs := World.ownsRow.alloc h o
theorem Rd.alloc {w : World} {v : Value} {xs : List α} (h : Rd f w v xs) (o : Obj) : Rd f (w.alloc o) v xs := h.below ((Below.refl _ _).alloc (Nat.le_refl _) o)
end
end Go.Proofs.Ytimpabceellihaa
