/-
  Columns: rows of the call's own whose values lie in one block.
-/
import Derived.Test.YtimpabceellihaaShRet
import Derived.Test.YtimpabceellihaaCloneF
import Derived.Test.YtimpabceellihaaFitP
namespace Go.Proofs.Ytimpabceellihaa
open Go.RowKit

/-- Block G holds the values of rows of the call's own, apart from each other and from the block. -/
structure Cols (w : World) (base G : Nat) (vs : List Value) (cs : List (List Nat)) : Prop where
  box : BoxAt w G vs
  len : vs.length = cs.length
  own : ∀ (j : Nat) (v : Value) (c : List Nat), vs[j]? = some v → cs[j]? = some c → Own fV 39 w base v c
  nb : ∀ (j : Nat) (v : Value), vs[j]? = some v → v.ownBlock ≠ some G
  ap : ∀ (i j : Nat) (u v : Value), i ≠ j → vs[i]? = some u → vs[j]? = some v → u.ownBlock = none ∨ u.ownBlock ≠ v.ownBlock
/-- A row apart from all of them, and from their block. -/
def Side (vs : List Value) (G : Nat) (v : Value) : Prop := v.ownBlock ≠ some G ∧ ∀ (j : Nat) (u : Value), vs[j]? = some u → v.ownBlock = none ∨ v.ownBlock ≠ u.ownBlock
section
variable {w w' : World} {base G : Nat} {vs : List Value} {cs : List (List Nat)} {v' : Value} {j : Nat}
theorem Cols.below (h : Cols w base G vs cs) (hb : Below w.heap.size w w') : Cols w' base G vs cs :=
  ⟨h.box.below hb, h.len, fun j v c h1 h2 => (h.own j v c h1 h2).below hb, h.nb, h.ap⟩
theorem Cols.base_ (h : Cols w base G vs cs) {b : Nat} (hb : b ≤ base) : Cols w b G vs cs := ⟨h.box, h.len, fun j v c h1 h2 => (h.own j v c h1 h2).base_ hb, h.nb, h.ap⟩
theorem Cols.at_ (h : Cols w base G vs cs) (hj : j < cs.length) : ∃ v c, vs[j]? = some v ∧ cs[j]? = some c ∧ Own fV 39 w base v c ∧ w.cell? ⟨G, j, none⟩ = some v := by
  obtain ⟨c, hc⟩ := get_of_lt hj
  obtain ⟨v, hv⟩ := get_of_lt (xs := vs) (k := j) (by rw [h.len]; exact hj)
  exact ⟨v, c, hv, hc, h.own j v c hv hc, h.box.cell j v hv⟩
theorem Cols.other (h : Cols w base G vs cs) {p : Addr} (hG : p.block ≠ G) (hp : ∀ (j : Nat) (v : Value), vs[j]? = some v → v.ownBlock ≠ some p.block) (u : Value) : Cols (w.setCell p u) base G vs cs :=
  ⟨h.box.other hG u, h.len, fun j v c h1 h2 => Own.other (h.own j v c h1 h2) (hp j v h1) u, h.nb, h.ap⟩
/-- A row has grown, and its value is stored. -/
theorem Cols.app {v : Value} {c c' : List Nat} (h : Cols w base G vs cs) (hv : vs[j]? = some v) (_hc : cs[j]? = some c) (ho : Own fV 39 w' base v' c') (hg : w.grownBy w' v.ownBlock) (hp : v'.ownBlock = v.ownBlock ∨ v'.ownBlock = some w.heap.size) :
    Cols (w'.setCell ⟨G, j, none⟩ v') base G (vs.set j v') (cs.set j c') := by
  have hGl := h.box.lt
  have hn := h.nb j v hv
  have hjl := lt_of_get hv
  have n' : v'.ownBlock ≠ some G := by
    rcases hp with e | e <;> rw [e]
    · exact hn
    · intro e; injection e; omega
  have hav : ∀ (i : Nat) (u : Value), i ≠ j → vs[i]? = some u → u.ownBlock = none ∨ u.ownBlock ≠ v'.ownBlock := by
    intro i u hi hu
    rcases hp with e | e <;> rw [e]
    · exact h.ap i j u v hi hu hv
    · cases hub : u.ownBlock with
      | none => exact .inl rfl
      | some b =>
        refine .inr fun e2 => ?_
        obtain ⟨c2, hc2⟩ := get_of_lt (xs := cs) (k := i) (by have := lt_of_get hu; rw [← h.len]; exact this)
        have := ((h.own i u c2 hu hc2).lt b hub).2
        injection e2
        omega
  refine ⟨(h.box.kept hg hn).set hv v', by rw [List.length_set, List.length_set]; exact h.len, fun i u d hu hd => ?_, fun i u hu => ?_, fun i k u x hik hu hx => ?_⟩
  · rw [List.getElem?_set] at hu hd
    by_cases e : j = i
    · subst e
      rw [if_pos rfl, if_pos hjl] at hu
      rw [if_pos rfl, if_pos (by rw [← h.len]; exact hjl)] at hd
      cases hu; cases hd
      exact Own.other ho n' _
    · rw [if_neg e] at hu hd
      exact Own.other ((h.own i u d hu hd).kept hg (h.ap i j u v (fun e' => e e'.symm) hu hv)) (h.nb i u hu) _
  · rw [List.getElem?_set] at hu
    by_cases e : j = i
    · subst e
      rw [if_pos rfl, if_pos hjl] at hu
      cases hu
      exact n'
    · rw [if_neg e] at hu
      exact h.nb i u hu
  · rw [List.getElem?_set] at hu hx
    by_cases e : j = i
    · subst e
      rw [if_pos rfl, if_pos hjl] at hu
      rw [if_neg hik] at hx
      cases hu
      exact apart_symm (hav k x (fun e' => hik e'.symm) hx)
    · rw [if_neg e] at hu
      by_cases e2 : j = k
      · subst e2
        rw [if_pos rfl, if_pos hjl] at hx
        cases hx
        exact hav i u hik hu
      · rw [if_neg e2] at hx
        exact h.ap i k u x hik hu hx
theorem Side.app {v u : Value} {b0 : Nat} {c : List Nat} (h : Side vs G u) (hu : Own fV 39 w b0 u c) (hv : vs[j]? = some v) (hp : v'.ownBlock = v.ownBlock ∨ v'.ownBlock = some w.heap.size) : Side (vs.set j v') G u := by
  refine ⟨h.1, fun i x hx => ?_⟩
  rw [List.getElem?_set] at hx
  by_cases e : j = i
  · subst e
    rw [if_pos rfl, if_pos (lt_of_get hv)] at hx
    cases hx
    rcases hp with e | e <;> rw [e]
    · exact h.2 j v hv
    · cases hub : u.ownBlock with
      | none => exact .inl rfl
      | some b =>
        refine .inr fun e2 => ?_
        have := (hu.lt b hub).2
        injection e2
        omega
  · rw [if_neg e] at hx
    exact h.2 i x hx
theorem Side.kept {v u : Value} {b0 : Nat} {c : List Nat} (h : Side vs G u) (hu : Own fV 39 w b0 u c) (hv : vs[j]? = some v) (hg : w.grownBy w' v.ownBlock) : Own fV 39 (w'.setCell ⟨G, j, none⟩ v') b0 u c :=
  Own.other (hu.kept hg (h.2 j v hv)) h.1 _
theorem Cols.side (h : Cols w base G vs cs) {u : Value} {c : List Nat} (hu : Own fV 39 w' w.heap.size u c) : Side vs G u := by
  refine ⟨fun e => ?_, fun i x hx => ?_⟩
  · have := (hu.lt _ e).1
    have := h.box.lt
    omega
  · cases hub : u.ownBlock with
    | none => exact .inl rfl
    | some b =>
      refine .inr fun e2 => ?_
      obtain ⟨c2, hc2⟩ := get_of_lt (xs := cs) (k := i) (by have := lt_of_get hx; rw [← h.len]; exact this)
      have h1 := ((h.own i x c2 hx hc2).lt b e2.symm).2
      have h2 := (hu.lt b hub).1
      omega
theorem Cols.new (w : World) (n : Nat) (T : TypeId) : Cols (w.alloc (.cells (Array.replicate n (.slice none 0 0)) T)) (w.heap.size + 1) w.heap.size (List.replicate n (.slice none 0 0)) (List.replicate n []) := by
  have hs : ∀ (j : Nat) (v : Value), (List.replicate n (Value.slice none 0 0))[j]? = some v → v = .slice none 0 0 := fun j v h => (List.mem_replicate.1 (List.mem_of_getElem? h)).2
  have hc : ∀ (j : Nat) (v : List Nat), (List.replicate n ([] : List Nat))[j]? = some v → v = [] := fun j v h => (List.mem_replicate.1 (List.mem_of_getElem? h)).2
  refine ⟨?_, by simp, fun j v c h1 h2 => ?_, fun j v h1 => ?_, fun i j u v _ h1 _ => ?_⟩
  · have := BoxAt.new w (List.replicate n (.slice none 0 0)) T
    simpa using this
  · rw [hs j v h1, hc j c h2]; exact Own.nil
  · rw [hs j v h1]; intro e; cases e
  · rw [hs i u h1]; exact .inl rfl

/-! ### three rows, made one behind the other -/
theorem own_apart {wA wB : World} {a b : Nat} {u v : Value} {xs ys : List Nat} (oA : Own fV 39 wA a u xs) (h : wA.heap.size ≤ b) (oB : Own fV 39 wB b v ys) : u.ownBlock = none ∨ u.ownBlock ≠ v.ownBlock := by
  cases hv : u.ownBlock with
  | none => exact .inl rfl
  | some k =>
    refine .inr fun e => ?_
    have h1 := (oA.lt k hv).2
    have h2 := (oB.lt k e.symm).1
    omega
theorem ap3 {a b c : Value} (h1 : a.ownBlock = none ∨ a.ownBlock ≠ b.ownBlock) (h2 : a.ownBlock = none ∨ a.ownBlock ≠ c.ownBlock) (h3 : b.ownBlock = none ∨ b.ownBlock ≠ c.ownBlock) :
    ∀ (i j : Nat) (u v : Value), i ≠ j → [a, b, c][i]? = some u → [a, b, c][j]? = some v → u.ownBlock = none ∨ u.ownBlock ≠ v.ownBlock := by
  intro i j u v hij hi hj
  rcases i with _ | _ | _ | i <;> rcases j with _ | _ | _ | j <;> simp at hi hj hij <;> subst hi <;> subst hj
  · exact h1
  · exact h2
  · exact apart_symm h1
  · exact h3
  · exact apart_symm h2
  · exact apart_symm h3
theorem cols3_set {w : World} {base S : Nat} {a b c z0 z1 z2 : Value} {xs ys zs : List Nat} (KC : BoxAt w S [z0, z1, z2]) (oA : Own fV 39 w base a xs) (oB : Own fV 39 w base b ys) (oC : Own fV 39 w base c zs)
    (nA : a.ownBlock ≠ some S) (nB : b.ownBlock ≠ some S) (nC : c.ownBlock ≠ some S) (h1 : a.ownBlock = none ∨ a.ownBlock ≠ b.ownBlock) (h2 : a.ownBlock = none ∨ a.ownBlock ≠ c.ownBlock) (h3 : b.ownBlock = none ∨ b.ownBlock ≠ c.ownBlock) :
    Cols (((w.setCell ⟨S, 0, none⟩ a).setCell ⟨S, 1, none⟩ b).setCell ⟨S, 2, none⟩ c) base S [a, b, c] [xs, ys, zs] := by
  refine ⟨((KC.set (i := 0) rfl a).set (i := 1) rfl b).set (i := 2) rfl c, rfl, fun j v d hv hd => ?_, fun j v hv => ?_, ap3 h1 h2 h3⟩
  · rcases j with _ | _ | _ | j <;> simp at hv hd <;> subst hv <;> subst hd
    · exact Own.other (Own.other (Own.other oA nA _) nA _) nA _
    · exact Own.other (Own.other (Own.other oB nB _) nB _) nB _
    · exact Own.other (Own.other (Own.other oC nC _) nC _) nC _
  · rcases j with _ | _ | _ | j <;> simp at hv <;> subst hv <;> assumption
theorem cols3_new {w : World} {base : Nat} {a b c : Value} {xs ys zs : List Nat} (T : TypeId) (oA : Own fV 39 w base a xs) (oB : Own fV 39 w base b ys) (oC : Own fV 39 w base c zs)
    (h1 : a.ownBlock = none ∨ a.ownBlock ≠ b.ownBlock) (h2 : a.ownBlock = none ∨ a.ownBlock ≠ c.ownBlock) (h3 : b.ownBlock = none ∨ b.ownBlock ≠ c.ownBlock) :
    Cols (w.alloc (.cells #[a, b, c] T)) base w.heap.size [a, b, c] [xs, ys, zs] := by
  refine ⟨BoxAt.new w [a, b, c] T, rfl, fun j v d hv hd => ?_, fun j v hv e => ?_, ap3 h1 h2 h3⟩
  · rcases j with _ | _ | _ | j <;> simp at hv hd <;> subst hv <;> subst hd
    · exact Own.alloc oA _
    · exact Own.alloc oB _
    · exact Own.alloc oC _
  · rcases j with _ | _ | _ | j <;> simp at hv <;> subst hv
    · have := (oA.lt _ e).2; omega
    · have := (oB.lt _ e).2; omega
    · have := (oC.lt _ e).2; omega
/-- What a region has made of three rows and a variable, whatever came first. -/
def Made (xs ys zs : List Nat) (wr wx : World) (s : Value) : Prop :=
  ∃ S a b c, s = .pointer (some ⟨S, 0, none⟩) ∧ Cols wx wr.heap.size S [a, b, c] [xs, ys, zs] ∧ Below wr.heap.size wr wx ∧ wr.heap.size ≤ S
variable {wr wA wB wC : World} {sA sB sC : Nat} {a b c : Value} {xs ys zs : List Nat}
theorem made_last (T : TypeId) (oA : Own fV 39 wA sA a xs) (oB : Own fV 39 wB sB b ys) (oC : Own fV 39 wC sC c zs) (hAB : Below wA.heap.size wA wB) (hBC : Below wB.heap.size wB wC)
    (qA : wr.heap.size ≤ sA) (qB : wA.heap.size ≤ sB) (qC : wB.heap.size ≤ sC) (hA : wr.heap.size ≤ wA.heap.size) (hT : Below wr.heap.size wr wC) :
    Made xs ys zs wr (wC.alloc (.cells #[a, b, c] T)) (.pointer (some ⟨wC.heap.size, 0, none⟩)) := by
  have q1 := hAB.size
  have q2 := hBC.size
  exact ⟨_, a, b, c, rfl, cols3_new T (((oA.below hAB).below hBC).base_ qA) ((oB.below hBC).base_ (by omega)) (oC.base_ (by omega)) (own_apart oA qB oB) (own_apart oA (by omega) oC) (own_apart oB qC oC), hT.alloc hT.size _, hT.size⟩
theorem made_set {S : Nat} {z0 z1 z2 : Value} (KC : BoxAt wC S [z0, z1, z2]) (oA : Own fV 39 wA sA a xs) (oB : Own fV 39 wB sB b ys) (oC : Own fV 39 wC sC c zs) (hAB : Below wA.heap.size wA wB) (hBC : Below wB.heap.size wB wC)
    (qA : wr.heap.size ≤ sA) (qB : wA.heap.size ≤ sB) (qC : wB.heap.size ≤ sC) (hA : wr.heap.size ≤ wA.heap.size) (hT : Below wr.heap.size wr wC) (hS : wr.heap.size ≤ S)
    (hS3 : (S < sA ∧ S < wA.heap.size) ∨ (wA.heap.size ≤ S ∧ S < sB ∧ S < wB.heap.size) ∨ (wB.heap.size ≤ S ∧ S < sC)) :
    Made xs ys zs wr (((wC.setCell ⟨S, 0, none⟩ a).setCell ⟨S, 1, none⟩ b).setCell ⟨S, 2, none⟩ c) (.pointer (some ⟨S, 0, none⟩)) := by
  have q1 := hAB.size
  have q2 := hBC.size
  refine ⟨_, a, b, c, rfl, cols3_set KC (((oA.below hAB).below hBC).base_ qA) ((oB.below hBC).base_ (by omega)) (oC.base_ (by omega)) (fun e => ?_) (fun e => ?_) (fun e => ?_) (own_apart oA qB oB) (own_apart oA (by omega) oC) (own_apart oB qC oC), ((hT.setCell (p := ⟨S, 0, none⟩) hS _).setCell (p := ⟨S, 1, none⟩) hS _).setCell (p := ⟨S, 2, none⟩) hS _, hS⟩
  · have := oA.lt _ e; omega
  · have := oB.lt _ e; omega
  · have := oC.lt _ e; omega
end
end Go.Proofs.Ytimpabceellihaa
