/-
  impl.inOrder: the pairs of a list, each with the lesser number first, in their order.
-/
import Derived.Test.YthdnelfggmlalaaChunkO
import Derived.Test.YthdnelfggmlalaaSortP
import Derived.Test.YthdnelfggmlalaaFence
import Derived.Test.YthdnelfggmlalaaJoin
import Derived.RangeFuncBox
namespace Go.Proofs.Ythdnelfggmlalaa
open Go.RowKit Go.Shelf
attribute [local go_sem] Oper.semAt_some

theorem elS_ : Elem Try.prog 34 36 (.slice none 0 0) 24 := ⟨Try.underlying34, by kernel_rfl, rfl⟩
/-- The box B holds a row of slices of the call's own, each of two numbers: these pairs. -/
def PairsR (W : World) (base B Bs : Nat) (ps : List (Int × Int)) : Prop :=
  ∃ (v : Value) (gs : List Nat), Boxed W B 34 v ∧ Own sl2 36 W base v gs ∧ gs.length = ps.length ∧ v.ownBlock ≠ some Bs ∧ ∀ (k g : Nat) (p : Int × Int), gs[k]? = some g → ps[k]? = some p → PairAt W g p
theorem pairsR_kept {W W' : World} {base B Bs : Nat} {ps : List (Int × Int)} {row : Option Nat} (h : PairsR W base B Bs ps) (hg : W.grownBy W' row) (hr : ∀ r, row = some r → ∃ o : Obj, W.heap[r]? = some o ∧ o.isCells = false) : PairsR W' base B Bs ps := by
  obtain ⟨v, gs, h1, h2, h3, h4, h5⟩ := h
  refine ⟨v, gs, h1.kept hg (fun e => ?_), h2.kept hg ?_, h3, h4, fun k g p hk hp => ?_⟩
  · obtain ⟨o, ho, hc⟩ := hr B e.symm
    rw [show W.heap[B]? = _ from h1] at ho
    cases ho; cases hc
  · rcases h2.2 with ⟨rfl, _⟩ | ⟨g, cap, cur, rfl, _, hgb, _⟩
    · exact .inl rfl
    · refine .inr fun e' => ?_
      obtain ⟨o, ho, hc⟩ := hr g (by simpa [Value.ownBlock] using e'.symm)
      rw [hgb] at ho; cases ho; cases hc
  · have hp' := h5 k g p hk hp
    refine hp'.of_heap (hg.block g hp'.lt fun e => ?_)
    obtain ⟨o, ho, hc⟩ := hr g e.symm
    rw [show W.heap[g]? = _ from hp'] at ho
    cases ho; cases hc
theorem PairAt.kept {W W' : World} {g : Nat} {p : Int × Int} {row : Option Nat} (h : PairAt W g p) (hg : W.grownBy W' row) (hne : some g ≠ row) : PairAt W' g p := h.of_heap (hg.block g h.lt hne)
theorem PairAt.not_box {W : World} {g B : Nat} {p : Int × Int} {t : TypeId} {u : Value} (h : PairAt W g p) (hb : Boxed W B t u) : g ≠ B := by
  intro e
  subst e
  have := (show W.heap[g]? = _ from h).symm.trans (show W.heap[g]? = _ from hb)
  simp at this
theorem PairAt.not_row {W : World} {g base k : Nat} {p : Int × Int} {e : TypeId} {v : Value} {xs : List Value} {size : Nat} (h : PairAt W g p) (hte : 2 ≠ e) (hr : W.ownsRow base e size v k xs) : some g ≠ v.ownBlock := by
  rcases hr.2 with ⟨rfl, _⟩ | ⟨b, cap, cur, rfl, _, hgb, _⟩
  · simp [Value.ownBlock]
  · intro e'
    obtain rfl : g = b := by simpa [Value.ownBlock] using e'
    have := (show W.heap[g]? = _ from h).symm.trans hgb
    simp at this
    exact hte this.2

/-- The k-th pair of a list, its lesser number first. -/
def prAt (xs : List Int) (k : Nat) : Int × Int := normP (xs[2 * k]?.getD 0, xs[2 * k + 1]?.getD 0)
theorem normP_mm (a b : Int) : normP (a, b) = (min a b, max a b) := by
  unfold normP
  by_cases h : a > b
  · rw [if_pos h, Int.min_eq_right (by omega), Int.max_eq_left (by omega)]
  · rw [if_neg h, Int.min_eq_left (by omega), Int.max_eq_right (by omega)]
theorem prAt_all {xs : List Int} {r : Nat} (h : xs.length = 2 * r) : (List.finRange r).map (fun x => prAt xs x.1) = (pairsOf xs).map normP := by
  have hl := pairs_len h
  apply List.ext_getElem?
  intro k
  rw [List.getElem?_map, List.getElem?_map]
  by_cases hk : k < r
  · obtain ⟨p, hp⟩ := get_ex (xs := pairsOf xs) (i := k) (by omega)
    have := flatP_at hp
    rw [flatP_pairs h] at this
    rw [hp, List.getElem?_eq_getElem (by simpa using hk)]
    simp only [Option.map_some, List.getElem_finRange]
    unfold prAt
    simp [this.1, this.2]
  · rw [List.getElem?_eq_none (by simpa using hk), List.getElem?_eq_none (by omega)]
    rfl

/-- One more pair has come: what lies behind the region of a round. -/
theorem pairsR_more {W W1 Wp w1 : World} {base B Bs : Nat} {v v' : Value} {gs : List Nat} {ps : List (Int × Int)} {p : Int × Int} {o : Obj}
    (hW1 : W1 = W.alloc (.cells #[iV p.1, iV p.2] 2)) (hWp : Wp = W1.alloc o)
    (hb : Boxed W B 34 v) (hl : gs.length = ps.length) (hne : v.ownBlock ≠ some Bs) (hBs : Bs < W.heap.size)
    (hp : ∀ (k g : Nat) (p : Int × Int), gs[k]? = some g → ps[k]? = some p → PairAt W g p) (hrow : Own sl2 36 Wp base v gs)
    (ho : Own sl2 36 w1 base v' (gs ++ [W.heap.size])) (hg : Wp.grownBy w1 v.ownBlock) (hv' : v'.ownBlock = v.ownBlock ∨ v'.ownBlock = some Wp.heap.size) :
    Boxed w1 B 34 v ∧ PairsR (w1.setCell ⟨B, 0, none⟩ v') base B Bs (ps ++ [p]) := by
  have hbW : Boxed Wp B 34 v := by rw [hWp, hW1]; exact (hb.alloc _).alloc _
  have hb1 : Boxed w1 B 34 v := hbW.kept hg (hbW.not_row (by decide) hrow)
  have hpn : PairAt Wp W.heap.size p := by
    have h1 : PairAt W1 W.heap.size p := by rw [hW1]; exact World.alloc_heap_new W _
    rw [hWp]
    exact h1.kept (World.grownBy_alloc W1 o none) (by simp)
  have hpW : ∀ (k g : Nat) (q : Int × Int), gs[k]? = some g → ps[k]? = some q → PairAt Wp g q := fun k g q hk hq => by
    have h0 := hp k g q hk hq
    have h1 : PairAt W1 g q := by rw [hW1]; exact h0.kept (World.grownBy_alloc W _ none) (by simp)
    rw [hWp]
    exact h1.kept (World.grownBy_alloc W1 o none) (by simp)
  have fin : ∀ {g : Nat} {q : Int × Int}, PairAt Wp g q → PairAt (w1.setCell ⟨B, 0, none⟩ v') g q := fun {g q} h => by
    have h1 : PairAt w1 g q := h.kept hg (h.not_row (by decide) hrow)
    exact h1.kept (grownBy_setCell' w1 B v') (fun e => h1.not_box hb1 (by cases e; rfl))
  refine ⟨hb1, v', gs ++ [W.heap.size], hb1.set v', ho.kept (grownBy_setCell' w1 B v') (.inr (hb1.not_row (by decide) ho).symm), by simp [hl], ?_, fun k g q hk hq => ?_⟩
  · rcases hv' with e | e
    · rw [e]; exact hne
    · rw [e]
      intro e2
      cases e2
      rw [hWp, hW1] at hBs
      simp at hBs
      omega
  · rcases Nat.lt_or_ge k gs.length with h | h
    · rw [List.getElem?_append_left h] at hk
      rw [List.getElem?_append_left (by omega)] at hq
      exact fin (hpW k g q hk hq)
    · rw [List.getElem?_append_right h] at hk
      rw [List.getElem?_append_right (by omega)] at hq
      rw [hl] at hk
      cases hz : k - ps.length with
      | zero =>
        rw [hz] at hk hq
        simp at hk hq
        subst hk hq
        exact fin hpn
      | succ z =>
        rw [hz] at hk
        simp at hk

theorem one_sl2 (g : Nat) : (sl2 g).oneCell' = true := rfl
theorem s3_kept {W W' : World} {a b c : Addr} {x y z : Value} (hb : Below W.heap.size W W') (ha : a.block < W.heap.size) (hb' : b.block < W.heap.size) (hc : c.block < W.heap.size)
    (h : W.cell? a = some x ∧ W.cell? b = some y ∧ W.cell? c = some z) : W'.cell? a = some x ∧ W'.cell? b = some y ∧ W'.cell? c = some z :=
  ⟨(hb.cell ha).trans h.1, (hb.cell hb').trans h.2.1, (hb.cell hc).trans h.2.2⟩
theorem below_al1 (w : World) (o : Obj) : Below w.heap.size w (w.alloc o) := (Below.refl _ _).alloc (Nat.le_refl _) o

theorem rd_map {α : Type} {f : α → Value} {w : World} {v : Value} {xs : List α} (h : Rd f w v xs) : Rd (fun u => u) w v (xs.map f) := by
  obtain ⟨A, cap, rfl, hc, hA⟩ := h
  refine ⟨A, cap, by rw [List.length_map], by rw [List.length_map]; exact hc, fun k u hu => ?_⟩
  rw [List.getElem?_map, Option.map_eq_some_iff] at hu
  obtain ⟨x, hx, rfl⟩ := hu
  exact hA k x hx
/-- What slices.SortFunc makes of a row of pairs. -/
theorem sortRow_any (v : Value) (base : Nat) (gs : List Nat) (ps : List (Int × Int)) (hl : gs.length = ps.length) (hn : gs.length ≤ 1000000) (W : World) (ho : Own sl2 36 W base v gs)
    (hpa : ∀ (k g : Nat) (p : Int × Int), gs[k]? = some g → ps[k]? = some p → PairAt W g p) :
    Calls Try.prog 88 #[v, .func (.func 89) #[] #[]] W fun e w' =>
      e = .returned (.tuple #[]) ∧ ∃ (hs : List Nat) (qs : List (Int × Int)), hs.length = qs.length ∧ hs.length = gs.length ∧ Rd sl2 w' v hs ∧ (∀ (k h : Nat) (q : Int × Int), hs[k]? = some h → qs[k]? = some q → PairAt w' h q) ∧
        qs.Perm ps ∧ qs.Pairwise (fun x y => ltP y x = false) ∧ Below base W w' ∧ ∀ k, k < W.heap.size → some k ≠ v.ownBlock → w'.heap[k]? = W.heap[k]? := by
  rcases Nat.eq_zero_or_pos gs.length with h0 | h0
  · obtain rfl : gs = [] := List.eq_nil_of_length_eq_zero h0
    obtain rfl : ps = [] := List.eq_nil_of_length_eq_zero hl.symm
    obtain ⟨A, c, rfl, -⟩ := ho.rd
    refine (show Calls Try.prog 88 _ W _ from AnyF.slices_SortFunc_none { sortL with } A c _ W).mono ?_
    rintro e w' ⟨rfl, rfl⟩
    exact ⟨rfl, [], [], rfl, rfl, ho.rd, fun k h q hk => by simp at hk, List.Perm.refl _, List.Pairwise.nil, Below.refl _ _, fun _ _ _ => rfl⟩
  · obtain ⟨g0, c, rfl, hc, hb, hlt⟩ := ho.form h0
    have hx : ∀ (k g : Nat) (p : Int × Int), gs[k]? = some g → ps[k]? = some p → PairAt W g p ∧ g ≠ g0 := fun k g p hk hp => by
      have h := hpa k g p hk hp
      have h2 := h.not_row (e := 36) (by decide) ho
      exact ⟨h, fun e => h2 (by rw [e]; rfl)⟩
    refine (sortPairs_any g0 c gs.length gs ps rfl hl.symm h0 hn W (fun k g hk => ?_) hx hlt).mono ?_
    · have h1 := ho.cellAt k (by rw [Nat.mul_one]; exact lt_of_get hk)
      rw [List.getElem?_map, hk] at h1
      exact ⟨h1, ho.frozenAt k⟩
    · rintro e w' ⟨rfl, hs, qs, e1, e2, hcell, hp, hperm, hsort, hT⟩
      refine ⟨rfl, hs, qs, e1.trans e2.symm, e1, ⟨some ⟨g0, 0, none⟩, c, by rw [e1], by omega, fun k h hk => ⟨_, rfl, Nat.lt_of_lt_of_le hlt hT.size, ?_⟩⟩, hp, hperm, hsort, hT.below hb (by omega), fun k hk hne => hT.block k hk ?_⟩
      · rw [Addr.add_lit, Nat.zero_add]
        exact hcell k h hk
      · have : k ≠ g0 := fun e => hne (by rw [e]; rfl)
        omega
theorem flat_pairs (qs : List (Int × Int)) : (qs.map fun q => [q.1, q.2]).flatten = flatP qs := by
  induction qs with
  | nil => rfl
  | cons q l ih => simp only [List.map_cons, List.flatten_cons, ih, flatP]; rfl

set_option maxRecDepth 100000 in
set_option maxHeartbeats 2000000 in
theorem inOrder_any (r : Nat) (v : Value) (xs : List Int) (hlen : xs.length = 2 * r) (hn : xs.length ≤ 100000) (w : World) (hr : Rd iV w v xs) :
    Calls Try.prog 60 #[v] w fun e w' => ∃ v', e = .returned v' ∧ Own iV 2 w' w.heap.size v' (inOrd xs) ∧ Below w.heap.size w w' := by
  have HR := Lib.hid hr
  obtain ⟨A, cap, rfl, hcap, hA⟩ := hr
  have hlen2 : xs.length = r * 2 := by omega
  obtain ⟨ad, hO⟩ : ∃ ad, A = some ad ∨ r = 0 := by
    rcases Nat.eq_zero_or_pos r with h | h
    · exact ⟨⟨0, 0, none⟩, .inr h⟩
    · obtain ⟨x, hx⟩ := get_of_lt (xs := xs) (k := 0) (by omega)
      obtain ⟨ad, e, _⟩ := hA 0 x hx
      exact ⟨ad, .inl e⟩
  clear hA
  refine (callsIn_wide (n := 6)).1 ?_
  refine callsIn_of_wp_marks Try.func60 rfl trivial ?_ rfl
  simp only [Try.ntmps60, List.size_toArray, List.length_cons, List.length_nil, Nat.reduceAdd, Nat.reduceSub, Array.replicate_succ, Array.replicate_zero, List.push_toArray, List.append_toArray, List.nil_append, List.cons_append]
  have HLEN := Lib.hid hlen
  have HLEN2 := Lib.hid hlen2
  have HOO := Lib.hid hO
  clear hlen hlen2 hO
  gi_wp2_with (refine ⟨trivial, ?_⟩; gi_at_call 87; refine (chunk_in _ A xs.length cap 2 (by decide) _).mono ?_; rintro e w' ⟨rfl, rfl⟩)
  obtain ⟨B, hB⟩ : ∃ B, B = w.heap.size + 1 := ⟨_, rfl⟩
  obtain ⟨Bs, hBs⟩ : ∃ B, B = w.heap.size + 1 + 1 := ⟨_, rfl⟩
  obtain ⟨Bm, hBm⟩ : ∃ B, B = w.heap.size + 1 + 1 + 1 := ⟨_, rfl⟩
  obtain ⟨W6, hW6⟩ : ∃ W, W = (((w.alloc (.cells #[] 36)).alloc (.cells #[.slice (some ⟨w.heap.size, 0, none⟩) 0 0] 34)).alloc (.cells #[.slice A xs.length cap] 36)).alloc (.cells #[.int .i64 2] 3) := ⟨_, rfl⟩
  have bO : Boxed W6 B 34 (.slice (some ⟨w.heap.size, 0, none⟩) 0 0) := by
    have h := ((Boxed.new (w.alloc (.cells #[] 36)) 34 (.slice (some ⟨w.heap.size, 0, none⟩) 0 0)).alloc (.cells #[.slice A xs.length cap] 36)).alloc (.cells #[.int .i64 2] 3)
    rw [World.size_alloc, ← hB] at h
    rw [hW6]; exact h
  have bS : Boxed W6 Bs 36 (.slice A xs.length cap) := by
    have h := (Boxed.new ((w.alloc (.cells #[] 36)).alloc (.cells #[.slice (some ⟨w.heap.size, 0, none⟩) 0 0] 34)) 36 (.slice A xs.length cap)).alloc (.cells #[.int .i64 2] 3)
    rw [World.size_alloc, World.size_alloc, ← hBs] at h
    rw [hW6]; exact h
  have bM : Boxed W6 Bm 3 (.int .i64 2) := by
    have h := Boxed.new (((w.alloc (.cells #[] 36)).alloc (.cells #[.slice (some ⟨w.heap.size, 0, none⟩) 0 0] 34)).alloc (.cells #[.slice A xs.length cap] 36)) 3 (.int .i64 2)
    rw [World.size_alloc, World.size_alloc, World.size_alloc, ← hBm] at h
    rw [hW6]; exact h
  have hO6 : Own sl2 36 W6 w.heap.size (.slice (some ⟨w.heap.size, 0, none⟩) 0 0) [] := by rw [hW6]; exact (((own_nil_new sl2 w 36).alloc _).alloc _).alloc _
  have hT : Below w.heap.size w W6 := by rw [hW6]; exact ((((Below.refl _ _).alloc (Nat.le_refl _) _).alloc (by simp) _).alloc (by simp; omega) _).alloc (by simp; omega) _
  have hz6 : W6.heap.size = w.heap.size + 4 := by rw [hW6]; simp
  have P0 : PairsR W6 w.heap.size B Bs [] := ⟨_, [], bO, hO6, rfl, by simp [Value.ownBlock]; omega, fun k g p h => by simp at h⟩
  rw [← hW6, ← hBm, ← hBs, ← hB]
  have HB := Lib.hid hB
  have HBs := Lib.hid hBs
  have HBm := Lib.hid hBm
  have HZ6 := Lib.hid hz6
  clear hW6 hO6 bO
  refine wpIn_rangeFunc_ownG rfl (by omega) (gf := 119) (lb := #[.pointer (some ⟨Bs, 0, none⟩), .pointer (some ⟨Bm, 0, none⟩)]) rfl trivial (enters_of Try.func119 (by kernel_rfl) rfl)
    (chunk_stops _ (by omega) _ _ A ad xs.length cap r 2 HOO.out (by decide) HLEN2.out (by omega) hcap W6 bS bM) Kc.trans (Kc.put (by omega) (by omega)) (Below.refl _ _) (fun _ => rfl)
    (fun pre W => (PairsR W w.heap.size B Bs (pre.map fun x => prAt xs x.1) ∧ (Boxed W Bs 36 (.slice A xs.length cap) ∧ Boxed W Bm 3 (.int .i64 2))) ∧ Below w.heap.size w W)
    (fun _ _ _ => False)
    (OwnFrom.and (OwnFrom.and (fun s W W' row hs hg hr => pairsR_kept hs hg (fun r e => (hr r e).2)) (OwnFrom.and (Own.from (boxed_own _ _ (fun _ => .slice A xs.length cap)) _) (Own.from (boxed_own _ _ (fun _ => .int .i64 2)) _))) (ownFrom_below (Nat.le_refl _) (by omega)))
    (fun _ _ _ _ _ hs _ _ => hs)
    ⟨⟨P0, bS, bM⟩, hT⟩
    (fun x => { tmps := #[.slice A xs.length cap, undef, .slice none 0 0, .pointer (some ⟨B, 0, none⟩), cutV ad 2 x.1, .slice (some ⟨w.heap.size, 0, none⟩) 0 0, .slice A xs.length cap, .func (.func 119) #[] #[.pointer (some ⟨Bs, 0, none⟩), .pointer (some ⟨Bm, 0, none⟩)], cutV ad 2 x.1, undef, undef, undef, undef, undef, undef, undef, undef, undef, undef, undef, undef, undef, undef, undef, undef, undef, undef, undef, undef, undef, undef], defers := [] }) ?assign ?body ?done ?stop
  case assign =>
    intro l x W K hK
    clear hB hBs hBm hz6
    gi_wp2
    exact hK
  case body =>
    rintro l pre x W ⟨⟨⟨v, gs, hv, hown, hgl, hne, hpa⟩, hbs, hbm⟩, hBW⟩ hlt
    have hlx : 2 * x.1 + 1 < xs.length := by have := HLEN.out; have := x.2; omega
    obtain rfl : A = some ad := HOO.out.resolve_right (by have := x.2; omega)
    obtain ⟨x0, hx0⟩ := get_of_lt (xs := xs) (k := 2 * x.1) (by omega)
    obtain ⟨x1, hx1⟩ := get_of_lt hlx
    obtain ⟨ap, hap⟩ : ∃ ap, ap = ad.add (x.1 * 2) := ⟨_, rfl⟩
    have hrd := HR.out.below hBW
    have adl : ad.block < w.heap.size := by
      obtain ⟨A', c', e, _, h'⟩ := HR.out
      cases e
      obtain ⟨ad', e, h1, h2⟩ := h' _ _ hx0
      cases e
      exact h1
    have rdc : ∀ {k y}, xs[k]? = some y → ad.block < W.heap.size ∧ W.cell? (ad.add k) = some (iV y) := fun {k y} h => by
      obtain ⟨A', c', e, _, h'⟩ := hrd
      cases e
      obtain ⟨ad', e, h1, h2⟩ := h' k y h
      cases e
      exact ⟨h1, h2⟩
    have d0 : W.cell? ap = some (iV x0) := by rw [hap, show x.1 * 2 = 2 * x.1 by omega]; exact (rdc hx0).2
    have d1 : W.cell? ⟨ap.block, ap.off + 1, none⟩ = some (iV x1) := by
      rw [show (⟨ap.block, ap.off + 1, none⟩ : Addr) = ap.add 1 by unfold Addr.add; rw [if_neg (by decide)], hap, Addr.add_add, show x.1 * 2 + 1 = 2 * x.1 + 1 by omega]
      exact (rdc hx1).2
    have dl : ap.block < w.heap.size := by rw [hap, add_block]; exact adl
    have hpr : prAt xs x.1 = normP (x0, x1) := by unfold prAt; rw [hx0, hx1]; rfl
    have HPR := Lib.hid hpr
    have hcut : cutV ad 2 x.1 = .slice (some ap) 2 2 := by rw [hap]; rfl
    rw [hcut]
    clear hcut hap rdc hrd hx0 hx1 hpr
    have hbw := hBW.size
    have hbB : B < W.heap.size := hv.lt
    have hbS : Bs < W.heap.size := hbs.lt
    have hbW : w.heap.size ≤ B := by omega
    have hbl : w.heap.size ≤ W.heap.size := hbw
    have hgl2 : gs.length ≤ 100000 := by
      rw [hgl, List.length_map]
      have := HLEN.out
      omega
    clear hB hBs hBm hz6
    gi_wp2
    refine wpIn_region_T (fun W' => W'.cell? ⟨B, 0, none⟩ = some v ∧ W'.cell? ap = some (iV x0) ∧ W'.cell? ⟨ap.block, ap.off + 1, none⟩ = some (iV x1)) [18] (by kernel_rfl) (by kernel_rfl) (by rintro ⟨a, w', h⟩; exact h) ⟨hv.cell, d0, d1⟩ (fun hS1 => ?_)
    simp only [List.size_toArray, List.length_cons, List.length_nil, Nat.reduceAdd]
    refine wpAnyT_take (i := 0) (v := v) rfl (by kernel_rfl) (by kernel_rfl) (by kernel_rfl) (by kernel_rfl) (by kernel_rfl) (fun _ _ _ h => h) (Or.inl ⟨by rfl, ?_⟩) hS1 ?_
    · intro wq hq; have q0 := hq.1; have q1 := hq.2.1; have q2 := hq.2.2; clear hq; go_simp
    repeat (first | simp only [List.getElem_toArray] | simp only [List.getElem_cons_succ] | simp only [List.getElem_cons_zero] | simp only [Act.put] | simp only [List.setIfInBounds_toArray] | simp only [List.set_cons_succ] | simp only [List.set_cons_zero])
    refine wpAnyT_takeY (i := 1) (v := ?_) rfl (by kernel_rfl) (by kernel_rfl) (by kernel_rfl) (fun _ _ _ h => h) (Or.inl ⟨by rfl, ?_⟩) ?_
    rotate_left
    · intro wq; first | (go_simp; done) | (go_simp; with_reducible rfl)
    repeat (first | simp only [List.getElem_toArray] | simp only [List.getElem_cons_succ] | simp only [List.getElem_cons_zero] | simp only [Act.put] | simp only [List.setIfInBounds_toArray] | simp only [List.set_cons_succ] | simp only [List.set_cons_zero])
    refine wpAnyT_takeY (i := 2) (v := ?_) rfl (by kernel_rfl) (by kernel_rfl) (by kernel_rfl) (fun _ _ _ h => h) (Or.inl ⟨by rfl, ?_⟩) ?_
    rotate_left
    · intro wq; first | (go_simp; done) | (go_simp; with_reducible rfl)
    repeat (first | simp only [List.getElem_toArray] | simp only [List.getElem_cons_succ] | simp only [List.getElem_cons_zero] | simp only [Act.put] | simp only [List.setIfInBounds_toArray] | simp only [List.set_cons_succ] | simp only [List.set_cons_zero])
    refine wpAnyT_take (i := 3) (v := (iV x0)) rfl (by kernel_rfl) (by kernel_rfl) (by kernel_rfl) (by kernel_rfl) (by kernel_rfl) (fun _ _ _ h => h) (Or.inl ⟨by rfl, ?_⟩) hS1 ?_
    · intro wq hq; have q0 := hq.1; have q1 := hq.2.1; have q2 := hq.2.2; clear hq; go_simp
    repeat (first | simp only [List.getElem_toArray] | simp only [List.getElem_cons_succ] | simp only [List.getElem_cons_zero] | simp only [Act.put] | simp only [List.setIfInBounds_toArray] | simp only [List.set_cons_succ] | simp only [List.set_cons_zero])
    refine wpAnyT_takeY (i := 4) (v := ?_) rfl (by kernel_rfl) (by kernel_rfl) (by kernel_rfl) (fun _ _ _ h => h) (Or.inl ⟨by rfl, ?_⟩) ?_
    rotate_left
    · intro wq; first | (go_simp; done) | (go_simp; with_reducible rfl)
    repeat (first | simp only [List.getElem_toArray] | simp only [List.getElem_cons_succ] | simp only [List.getElem_cons_zero] | simp only [Act.put] | simp only [List.setIfInBounds_toArray] | simp only [List.set_cons_succ] | simp only [List.set_cons_zero])
    refine wpAnyT_takeY (i := 5) (v := ?_) rfl (by kernel_rfl) (by kernel_rfl) (by kernel_rfl) (fun _ _ _ h => h) (Or.inl ⟨by rfl, ?_⟩) ?_
    rotate_left
    · intro wq; first | (go_simp; done) | (go_simp; with_reducible rfl)
    repeat (first | simp only [List.getElem_toArray] | simp only [List.getElem_cons_succ] | simp only [List.getElem_cons_zero] | simp only [Act.put] | simp only [List.setIfInBounds_toArray] | simp only [List.set_cons_succ] | simp only [List.set_cons_zero])
    refine wpAnyT_take (i := 6) (v := (iV x1)) rfl (by kernel_rfl) (by kernel_rfl) (by kernel_rfl) (by kernel_rfl) (by kernel_rfl) (fun _ _ _ h => h) (Or.inl ⟨by rfl, ?_⟩) hS1 ?_
    · intro wq hq; have q0 := hq.1; have q1 := hq.2.1; have q2 := hq.2.2; clear hq; go_simp
    repeat (first | simp only [List.getElem_toArray] | simp only [List.getElem_cons_succ] | simp only [List.getElem_cons_zero] | simp only [Act.put] | simp only [List.setIfInBounds_toArray] | simp only [List.set_cons_succ] | simp only [List.set_cons_zero])
    refine wpAnyT_takeY (i := 7) (v := ?_) rfl (by kernel_rfl) (by kernel_rfl) (by kernel_rfl) (fun _ _ _ h => h) (Or.inl ⟨by rfl, ?_⟩) ?_
    rotate_left
    · intro wq; first | (go_simp; done) | (go_simp; with_reducible rfl)
    repeat (first | simp only [List.getElem_toArray] | simp only [List.getElem_cons_succ] | simp only [List.getElem_cons_zero] | simp only [Act.put] | simp only [List.setIfInBounds_toArray] | simp only [List.set_cons_succ] | simp only [List.set_cons_zero])
    refine wpAnyT_takeY (i := 8) (v := ?_) rfl (by kernel_rfl) (by kernel_rfl) (by kernel_rfl) (fun _ _ _ h => h) (Or.inl ⟨by rfl, ?_⟩) ?_
    rotate_left
    · intro wq; first | (go_simp; done) | (go_simp; with_reducible rfl)
    repeat (first | simp only [List.getElem_toArray] | simp only [List.getElem_cons_succ] | simp only [List.getElem_cons_zero] | simp only [Act.put] | simp only [List.setIfInBounds_toArray] | simp only [List.set_cons_succ] | simp only [List.set_cons_zero])
    refine wpAnyT_takeY (i := 9) (v := ?_) rfl (by kernel_rfl) (by kernel_rfl) (by kernel_rfl) (fun _ _ _ h => h) (Or.inl ⟨by rfl, ?_⟩) ?_
    rotate_left
    · intro wq; first | (go_simp; done) | (go_simp; with_reducible rfl)
    repeat (first | simp only [List.getElem_toArray] | simp only [List.getElem_cons_succ] | simp only [List.getElem_cons_zero] | simp only [Act.put] | simp only [List.setIfInBounds_toArray] | simp only [List.set_cons_succ] | simp only [List.set_cons_zero])
    refine wpAnyT_take (i := 10) (v := (iV x0)) rfl (by kernel_rfl) (by kernel_rfl) (by kernel_rfl) (by kernel_rfl) (by kernel_rfl) (fun _ _ _ h => h) (Or.inl ⟨by rfl, ?_⟩) hS1 ?_
    · intro wq hq; have q0 := hq.1; have q1 := hq.2.1; have q2 := hq.2.2; clear hq; go_simp
    repeat (first | simp only [List.getElem_toArray] | simp only [List.getElem_cons_succ] | simp only [List.getElem_cons_zero] | simp only [Act.put] | simp only [List.setIfInBounds_toArray] | simp only [List.set_cons_succ] | simp only [List.set_cons_zero])
    refine wpAnyT_takeY (i := 11) (v := ?_) rfl (by kernel_rfl) (by kernel_rfl) (by kernel_rfl) (fun _ _ _ h => h) (Or.inl ⟨by rfl, ?_⟩) ?_
    rotate_left
    · intro wq; first | (go_simp; done) | (go_simp; with_reducible rfl)
    repeat (first | simp only [List.getElem_toArray] | simp only [List.getElem_cons_succ] | simp only [List.getElem_cons_zero] | simp only [Act.put] | simp only [List.setIfInBounds_toArray] | simp only [List.set_cons_succ] | simp only [List.set_cons_zero])
    refine wpAnyT_takeY (i := 12) (v := ?_) rfl (by kernel_rfl) (by kernel_rfl) (by kernel_rfl) (fun _ _ _ h => h) (Or.inl ⟨by rfl, ?_⟩) ?_
    rotate_left
    · intro wq; first | (go_simp; done) | (go_simp; with_reducible rfl)
    repeat (first | simp only [List.getElem_toArray] | simp only [List.getElem_cons_succ] | simp only [List.getElem_cons_zero] | simp only [Act.put] | simp only [List.setIfInBounds_toArray] | simp only [List.set_cons_succ] | simp only [List.set_cons_zero])
    refine wpAnyT_take (i := 13) (v := (iV x1)) rfl (by kernel_rfl) (by kernel_rfl) (by kernel_rfl) (by kernel_rfl) (by kernel_rfl) (fun _ _ _ h => h) (Or.inl ⟨by rfl, ?_⟩) hS1 ?_
    · intro wq hq; have q0 := hq.1; have q1 := hq.2.1; have q2 := hq.2.2; clear hq; go_simp
    repeat (first | simp only [List.getElem_toArray] | simp only [List.getElem_cons_succ] | simp only [List.getElem_cons_zero] | simp only [Act.put] | simp only [List.setIfInBounds_toArray] | simp only [List.set_cons_succ] | simp only [List.set_cons_zero])
    refine wpAnyT_takeY (i := 14) (v := ?_) rfl (by kernel_rfl) (by kernel_rfl) (by kernel_rfl) (fun _ _ _ h => h) (Or.inl ⟨by rfl, ?_⟩) ?_
    rotate_left
    · intro wq; first | (go_simp; done) | (go_simp; with_reducible rfl)
    repeat (first | simp only [List.getElem_toArray] | simp only [List.getElem_cons_succ] | simp only [List.getElem_cons_zero] | simp only [Act.put] | simp only [List.setIfInBounds_toArray] | simp only [List.set_cons_succ] | simp only [List.set_cons_zero])
    obtain ⟨lo, hlo⟩ : ∃ lo, lo = min x0 x1 := ⟨_, rfl⟩
    obtain ⟨hi, hhi⟩ : ∃ hi, hi = max x0 x1 := ⟨_, rfl⟩
    have hp : prAt xs x.1 = (lo, hi) := by rw [HPR.out, normP_mm, hlo, hhi]
    rw [← hlo, ← hhi]
    clear hlo hhi hS1
    obtain ⟨Wd, hWd⟩ : ∃ Wd, Wd = W.drew := ⟨_, rfl⟩
    have hvd : Boxed Wd B 34 v := by rw [hWd]; exact hv
    have hownd : Own sl2 36 Wd w.heap.size v gs := by rw [hWd]; exact hown
    have hpad : ∀ (k g : Nat) (p : Int × Int), gs[k]? = some g → (pre.map fun x => prAt xs x.1)[k]? = some p → PairAt Wd g p := by rw [hWd]; exact hpa
    have hk0 : KeepsOthers W Wd := by rw [hWd]; exact KeepsOthers.drew _
    have hBd : Below w.heap.size W Wd := by rw [hWd]; exact (Below.refl _ _).drew
    have hbsd : ∀ u, Boxed W Bs 36 u → Boxed Wd Bs 36 u := by rw [hWd]; exact fun _ h => h
    have hbmd : ∀ u, Boxed W Bm 3 u → Boxed Wd Bm 3 u := by rw [hWd]; exact fun _ h => h
    have zd : Wd.heap.size = W.heap.size := by rw [hWd]; rfl
    rw [← hWd]
    clear hWd hv hown hpa d0 d1
    refine wpAnyT_ready (rs := [15]) (by kernel_rfl) (by simp) ?_
    refine AllT.cons rfl (fun K hK => ?_) AllT.nil
    go_simp
    refine hK.out _ _ (fun h _ => s3_kept (below_al1 Wd _) (by simp only; omega) (by omega) (by simp only; omega) h) ?_
    clear hK K
    repeat (first | simp only [List.getElem_toArray] | simp only [List.getElem_cons_succ] | simp only [List.getElem_cons_zero] | simp only [Act.put] | simp only [List.setIfInBounds_toArray] | simp only [List.set_cons_succ] | simp only [List.set_cons_zero])
    obtain ⟨W1, hW1⟩ : ∃ W1, W1 = Wd.alloc (.cells #[iV lo, iV hi] 2) := ⟨_, rfl⟩
    have hv1 : Boxed W1 B 34 v := by rw [hW1]; exact hvd.alloc _
    have hown1 : Own sl2 36 W1 w.heap.size v gs := by rw [hW1]; exact hownd.alloc _
    have hk1 : KeepsOthers W W1 := by rw [hW1]; exact hk0.trans (KeepsOthers.alloc _ _)
    have hB1 : Below w.heap.size W W1 := by rw [hW1]; exact hBd.alloc (by omega) _
    have z1 : W1.heap.size = W.heap.size + 1 := by rw [hW1, World.size_alloc, zd]
    have hbs1 : ∀ u, Boxed W Bs 36 u → Boxed W1 Bs 36 u := by rw [hW1]; exact fun u h => (hbsd u h).alloc _
    have hbm1 : ∀ u, Boxed W Bm 3 u → Boxed W1 Bm 3 u := by rw [hW1]; exact fun u h => (hbmd u h).alloc _
    rw [show Wd.alloc (.cells #[Value.int IntKind.i64 lo, Value.int IntKind.i64 hi] 2) = W1 from hW1.symm]
    have HW1 := Lib.hid hW1
    clear hW1
    refine wpAnyT_ready (rs := [16]) (by kernel_rfl) (by simp) ?_
    refine AllT.cons rfl (fun K hK => ?_) AllT.nil
    go_simp
    refine hK.out _ _ (fun h _ => s3_kept (below_al1 W1 _) (by simp only; omega) (by omega) (by simp only; omega) h) ?_
    clear hK K
    repeat (first | simp only [List.getElem_toArray] | simp only [List.getElem_cons_succ] | simp only [List.getElem_cons_zero] | simp only [Act.put] | simp only [List.setIfInBounds_toArray] | simp only [List.set_cons_succ] | simp only [List.set_cons_zero])
    obtain ⟨Wp, hWp⟩ : ∃ Wp, Wp = W1.alloc (.cells #[sl2 W.heap.size] 36) := ⟨_, rfl⟩
    have hownp : Own sl2 36 Wp w.heap.size v gs := by rw [hWp]; exact hown1.alloc _
    have hrdp : Rd sl2 Wp (.slice (some ⟨W.heap.size + 1, 0, none⟩) 1 1) [W.heap.size] := by rw [hWp, ← z1]; exact rd_one sl2 W1 W.heap.size _
    have zp : w.heap.size ≤ Wp.heap.size := by rw [hWp, World.size_alloc]; omega
    have hbp : Below W1.heap.size W1 Wp := by rw [hWp]; exact below_al1 W1 _
    have hvp : Boxed Wp B 34 v := by rw [hWp]; exact hv1.alloc _
    rw [show W1.alloc (.cells #[Value.slice (some ⟨W.heap.size, 0, none⟩) 2 2] 36) = Wp from hWp.symm]
    have HWp := Lib.hid hWp
    clear hWp
    refine wpAnyT_ready (rs := [17]) (by kernel_rfl) (by simp) ?_
    refine AllT.cons rfl (fun K hK => ?_) AllT.nil
    refine elS_.app_step (f := sl2) one_sl2 _ (by rfl) _ _ (by rfl) w.heap.size v gs (by rfl) hownp _ [W.heap.size] (by rfl) hrdp (by decide) (by simp; omega) zp ?_
    intro v' w1 ho hg hbb hpv
    rw [← zd] at ho
    obtain ⟨hb1, hP⟩ := pairsR_more (p := (lo, hi)) HW1.out HWp.out hvd hgl hne (by omega) hpad hownp ho hg hpv
    obtain ⟨-, -, -, hk2, hb2⟩ := hv1.appended (by decide) hown1 (by omega) hbW ho (by rw [← HWp.out]; exact hg)
    obtain ⟨g', c', hv', -, -, -⟩ := ho.form (by simp)
    rw [show (gs ++ [Wd.heap.size]).length = pre.length + 1 by rw [List.length_append, hgl, List.length_map]; rfl] at hv'
    subst hv'
    have hend : ownPostG W6.heap.size (Kc Bs Bm) (fun pre W => (PairsR W w.heap.size B Bs (pre.map fun x => prAt xs x.1) ∧ (Boxed W Bs 36 (.slice (some ad) xs.length cap) ∧ Boxed W Bm 3 (.int .i64 2))) ∧ Below w.heap.size w W) (fun _ _ _ => False) (pre ++ [x]) W .normal { tmps := #[], defers := [] } (w1.setCell ⟨B, 0, none⟩ (.slice (some ⟨g', 0, none⟩) (pre.length + 1) c')) := by
      have kS : ∀ u, Boxed W Bs 36 u → Boxed (w1.setCell ⟨B, 0, none⟩ (.slice (some ⟨g', 0, none⟩) (pre.length + 1) c')) Bs 36 u := fun u hu => by
        have h1 : Boxed Wp Bs 36 u := by rw [HWp.out]; exact (hbs1 u hu).alloc _
        exact (h1.kept hg (fun e => hne e.symm)).other (by have := HB.out; have := HBs.out; omega) _
      have kM : ∀ u, Boxed W Bm 3 u → Boxed (w1.setCell ⟨B, 0, none⟩ (.slice (some ⟨g', 0, none⟩) (pre.length + 1) c')) Bm 3 u := fun u hu => by
        have h1 : Boxed Wp Bm 3 u := by rw [HWp.out]; exact (hbm1 u hu).alloc _
        exact (h1.kept hg (h1.not_row (by decide) hownp)).other (by have := HB.out; have := HBm.out; omega) _
      exact ⟨(hk1.trans hk2).from _, ⟨kS, kM⟩, ⟨⟨by rw [List.map_append, List.map_singleton, hp]; exact hP, kS _ hbs, kM _ hbm⟩, (hBW.trans (hB1.trans hb2))⟩⟩
    have HEND := Lib.hid hend
    have c1 := hb1.cell
    have f1 := hb1.frozen
    refine hK.out _ _ (fun h _ => ⟨c1, ((hbb.cell dl).trans h.2.1), ((hbb.cell (by simp only; exact dl)).trans h.2.2)⟩) ?_
    clear hK K hend hP hk2 hb2
    repeat (first | simp only [List.getElem_toArray] | simp only [List.getElem_cons_succ] | simp only [List.getElem_cons_zero] | simp only [Act.put] | simp only [List.setIfInBounds_toArray] | simp only [List.set_cons_succ] | simp only [List.set_cons_zero])
    refine wpAnyT_ready (rs := [18]) (by kernel_rfl) (by simp) ?_
    refine AllT.cons rfl (fun K hK => ?_) AllT.nil
    go_simp
    refine hK.out _ _ (fun _ ht => by cases ht) ?_
    clear hK K
    refine wpAnyT_done (by kernel_rfl) ?_ _
    exact HEND.out
  case done =>
    rintro D ys W hD rfl ⟨⟨⟨v, gs, hv, hown, hgl, hne, hpa⟩, hbs, hbm⟩, hBW⟩ hK
    rw [prAt_all HLEN.out] at hgl hpa
    have hgl2 : gs.length ≤ 1000000 := by
      rw [hgl, List.length_map, pairs_len HLEN.out]
      have := HLEN.out
      omega
    have hbw := hBW.size
    have hDW : D < W.heap.size := (Array.getElem?_eq_some_iff.1 hK).1
    have hbB : B < W.heap.size := hv.lt
    have hDr : some D ≠ v.ownBlock := by
      rcases hown.2 with ⟨rfl, _⟩ | ⟨b, cap, cur, rfl, _, hgb, _⟩
      · simp [Value.ownBlock]
      · intro e'
        obtain rfl : D = b := by simpa [Value.ownBlock] using e'
        rw [hK] at hgb
        cases hgb
    have HSORT := Lib.hid (sortRow_any v w.heap.size gs _ hgl hgl2 W hown hpa)
    have hbr := hv.not_row (by decide) hown
    have hc := hv.cell
    clear hB hBs hBm hz6
    have hvs : ∀ {w2 : World} {hs : List Nat} {qs : List (Int × Int)}, (∀ (k h : Nat) (q : Int × Int), hs[k]? = some h → qs[k]? = some q → PairAt w2 h q) → ∀ (k : Nat) (u : Value) (ys : List Int), (hs.map sl2)[k]? = some u → (qs.map fun q => [q.1, q.2])[k]? = some ys → Rd iV w2 u ys := by
      intro w2 hs qs hp k u ys hu hy
      rw [List.getElem?_map, Option.map_eq_some_iff] at hu hy
      obtain ⟨h, hh, rfl⟩ := hu
      obtain ⟨q, hq, rfl⟩ := hy
      exact (hp k h q hh hq).rd
    have hll : ∀ {hs : List Nat}, hs.length = gs.length → hs.length ≤ 50000 := by
      intro hs e
      rw [e, hgl, List.length_map, pairs_len HLEN.out]
      have := HLEN.out
      omega
    gi_wp2_with (refine ⟨trivial, ?_⟩; first | (gi_at_call 88; refine (callsIn_wide.2 HSORT.out).mono ?_; rintro e w2 ⟨rfl, hs, qs, e1, e2, hrd, hp, hperm, hsort, hB2, hkeep⟩; (have hc2 : w2.cell? ⟨B, 0, none⟩ = some v := Boxed.cell (t := 34) ((hkeep B hbB hbr).trans hv)); (have hl1 := hll e2); (have HCON := Lib.hid (concat_any v (hs.map sl2) (qs.map fun q => [q.1, q.2]) (by rw [List.length_map, List.length_map]; exact e1) (by rw [List.length_map]; omega) (by rw [flat_pairs, flatP_len]; omega) w2 (hvs hp) (rd_map hrd))); (have hK2 : w2.heap[D]? = some (.deferred (some [])) := (hkeep D hDW hDr).trans hK); (have HE := Lib.hid (inOrd_of (xs := xs) hperm hsort)); clear hrd hp hkeep hc) | (gi_at_call 51; refine (callsIn_wide.2 HCON.out).mono ?_; rintro e w3 ⟨v3, rfl, ho3, hB3⟩))
    have hK3 : w3.heap[D]? = some (.deferred (some [])) := (hB3.block D (Array.getElem?_eq_some_iff.1 hK2).1).trans hK2
    refine ⟨by simp, .inl ⟨_, _, rfl, run_takeDeferred hK3, ?_⟩⟩
    have hBB := hBW.trans (hB2.trans (hB3.mono (Nat.le_trans hbw hB2.size)))
    refine ⟨_, results_tmp rfl _ _ _, v3, rfl, ?_, hBB.trans (belowK_b (w := w) (Nat.le_refl _) w3 D _ _ (by have := HZ6.out; omega) hK3 rfl rfl)⟩
    rw [flat_pairs, HE.out] at ho3
    have ho4 := ho3.base_ (Nat.le_trans hbw hB2.size)
    unfold Own at ho4 ⊢
    exact ownsRow_putObj ho4 _ hK3 rfl
  case stop =>
    rintro D c pre W _ _ h _
    exact h.elim
end Go.Proofs.Ythdnelfggmlalaa
