/-
  slices.SortFunc with slices.Compare over pairs of numbers: by its contract off the shelf.
-/
import Derived.Test.YthdnelfggmlalaaLayS
import Derived.Test.YthdnelfggmlalaaCmpI
import Derived.Test.YthdnelfggmlalaaPairP
import Derived.Test.YthdnelfggmlalaaLw
namespace Go.Proofs.Ythdnelfggmlalaa
open Go.RowKit

/-- A slice of two numbers, in a block of its own. -/
def sl2 (g : Nat) : Value := .slice (some ⟨g, 0, none⟩) 2 2
def PairAt (w : World) (g : Nat) (p : Int × Int) : Prop := w.heap[g]? = some (.cells #[iV p.1, iV p.2] 2 (0, 0))
theorem PairAt.lt {w : World} {g : Nat} {p : Int × Int} (h : PairAt w g p) : g < w.heap.size := (Array.getElem?_eq_some_iff.1 h).1
theorem PairAt.rd {w : World} {g : Nat} {p : Int × Int} (h : PairAt w g p) : Rd iV w (sl2 g) [p.1, p.2] := by
  refine ⟨some ⟨g, 0, none⟩, 2, rfl, Nat.le_refl _, fun k x hk => ⟨_, rfl, h.lt, ?_⟩⟩
  rw [Addr.add_lit, Nat.zero_add, cell_of_row _ _ _ _ _ _ h]
  match k, hk with
  | 0, hk => simp at hk; subst hk; rfl
  | 1, hk => simp at hk; subst hk; rfl
theorem PairAt.of_heap {w w' : World} {g : Nat} {p : Int × Int} (h : PairAt w g p) (e : w'.heap[g]? = w.heap[g]?) : PairAt w' g p := e.trans h
theorem cmpL_pair (p q : Int × Int) : decide (cmpL [p.1, p.2] [q.1, q.2] < 0) = ltP p q := by
  obtain ⟨a, b⟩ := p
  obtain ⟨c, d⟩ := q
  unfold ltP
  rw [decide_eq_decide]
  simp only [cmpL, cmpI]
  by_cases h1 : a < c
  · rw [if_pos h1]
    simp [h1]
  · rw [if_neg h1]
    by_cases h2 : a > c
    · rw [if_pos h2]
      simp
      omega
    · rw [if_neg h2, if_pos rfl]
      have e : a = c := by omega
      by_cases h3 : b < d
      · simp [h3, e]
      · rw [if_neg h3]
        by_cases h4 : b > d
        · rw [if_pos h4]
          simp
          omega
        · rw [if_neg h4]
          simp
          omega

theorem heap_sortWorld {α : Type} [Inhabited α] {enc : α → Value} {w : World} {blk off m k : Nat} {dk : Array α} {os : Array Obj} (hk : k < w.heap.size) (hb : k ≠ blk) : (sortWorld enc w blk off m dk os).heap[k]? = w.heap[k]? := by
  unfold sortWorld
  rw [Go.Sort.heap_grow_old _ _ (by rw [size_putRow]; exact hk)]
  show (w.heap.modify blk _)[k]? = _
  rw [Array.getElem?_modify, if_neg (Ne.symm hb)]
theorem touch_sortWorld {α : Type} [Inhabited α] {enc : α → Value} {w : World} {blk off m : Nat} {dk : Array α} {os : Array Obj} : Touch blk (blk + 1) w (sortWorld enc w blk off m dk os) := by
  refine ⟨rfl, rfl, rfl, ?_, fun k hk hh => heap_sortWorld hk (by omega)⟩
  unfold sortWorld
  rw [Go.Sort.size_grow, size_putRow]
  exact Nat.le_add_right _ _

theorem extract_all {β : Type} (a : Array β) {n : Nat} (h : a.size = n) : (a.extract 0 n).toList = a.toList := by subst h; simp
theorem finRange_map_get {α : Type} [Inhabited α] (xs : List α) {n : Nat} (h : xs.length = n) : (List.finRange n).map (fun i => xs[i.1]!) = xs := by
  apply List.ext_getElem
  · simp [h]
  · intro i h1 h2
    simp only [List.getElem_map, List.getElem_finRange]
    exact getElem!_pos xs i h2

theorem sortPairs_any (blk cap n : Nat) (gs : List Nat) (ps : List (Int × Int)) (hg : gs.length = n) (hp : ps.length = n) (h1 : 1 ≤ n) (hn : n ≤ 1000000) (w : World)
    (hrow : ∀ k g, gs[k]? = some g → w.cell? ⟨blk, k, none⟩ = some (sl2 g) ∧ w.frozen? ⟨blk, k, none⟩ = false)
    (hpa : ∀ (k g : Nat) (p : Int × Int), gs[k]? = some g → ps[k]? = some p → PairAt w g p ∧ g ≠ blk) (hb : blk < w.heap.size) :
    Calls Try.prog 88 #[.slice (some ⟨blk, 0, none⟩) n cap, .func (.func 89) #[] #[]] w fun e w' =>
      e = .returned (.tuple #[]) ∧ ∃ (hs : List Nat) (qs : List (Int × Int)), hs.length = n ∧ qs.length = n ∧ (∀ k h, hs[k]? = some h → w'.cell? ⟨blk, k, none⟩ = some (sl2 h)) ∧
        (∀ (k h : Nat) (q : Int × Int), hs[k]? = some h → qs[k]? = some q → PairAt w' h q) ∧ qs.Perm ps ∧ qs.Pairwise (fun x y => ltP y x = false) ∧ Touch blk (blk + 1) w w' := by
  obtain ⟨m, rfl⟩ : ∃ m, n = m + 1 := ⟨n - 1, by omega⟩
  have eg : ∀ args w, (callFunc 89 args).run Try.prog w = .ok (.enter 89 args) w := enters_of Try.func89 (by kernel_rfl) rfl
  obtain ⟨enc, henc⟩ : ∃ enc : Fin (m + 1) → Value, enc = fun i => sl2 (gs[i.1]!) := ⟨_, rfl⟩
  obtain ⟨pf, hpf⟩ : ∃ pf : Fin (m + 1) → Int × Int, pf = fun i => ps[i.1]! := ⟨_, rfl⟩
  obtain ⟨cf, hcf⟩ : ∃ cf : Fin (m + 1) → Fin (m + 1) → Int, cf = fun i j => cmpL [(pf i).1, (pf i).2] [(pf j).1, (pf j).2] := ⟨_, rfl⟩
  have hlt : ∀ i j, Go.Proofs.ltOf cf i j = ltP (pf i) (pf j) := fun i j => by unfold Go.Proofs.ltOf; rw [hcf]; exact cmpL_pair _ _
  have hO : Go.Sort.SWO (Go.Proofs.ltOf cf) := by
    constructor
    · intro x; rw [hlt]; exact ltP_less.irr _
    · intro x y z a b
      rw [hlt] at *
      unfold ltP at *
      have := of_decide_eq_true a
      have := of_decide_eq_true b
      exact decide_eq_true (by omega)
    · intro x y z a b
      rw [hlt] at *
      exact ltP_less.tr _ _ _ a b
  have hgi : ∀ i : Fin (m + 1), gs[i.1]? = some (gs[i.1]!) := fun i => by rw [List.getElem?_eq_getElem (by omega), getElem!_pos gs i.1 (by omega)]
  have hpi : ∀ i : Fin (m + 1), ps[i.1]? = some (pf i) := fun i => by rw [hpf]; simp only; rw [List.getElem?_eq_getElem (by omega), getElem!_pos ps i.1 (by omega)]
  obtain ⟨d, hd⟩ : ∃ d : Array (Fin (m + 1)), d = (List.finRange (m + 1)).toArray := ⟨_, rfl⟩
  have hds : d.size = m + 1 := by rw [hd]; simp
  have hdj : ∀ j (h : j < m + 1), d[j]! = ⟨j, h⟩ := fun j h => by rw [getElem!_pos d j (by rw [hds]; exact h)]; simp [hd]
  have hcmp : Go.Proofs.CmpReads Try.prog 89 #[] enc cf blk 0 d.size w := fun q os dk _ x y => by
    have kp : ∀ i : Fin (m + 1), Rd iV (sortWorld enc w blk 0 q dk os) (enc i) [(pf i).1, (pf i).2] := fun i => by
      have h := hpa i.1 _ _ (hgi i) (hpi i)
      rw [henc]
      exact (h.1.of_heap (heap_sortWorld h.1.lt h.2)).rd
    refine (compareL_any (enc x) (enc y) _ _ (by simp) (by simp) _ (kp x) (kp y)).mono ?_
    rintro e w' ⟨rfl, rfl⟩
    exact ⟨by rw [hcf], 0, rfl⟩
  have hH : Go.Sort.Holds enc w blk 0 d := fun j hj => by
    rw [hds] at hj
    rw [hdj j hj, Nat.zero_add, henc]
    exact hrow j _ (hgi ⟨j, hj⟩)
  have hcon := Any.slices_SortFunc sortL enc (fun i => by rw [henc]; rfl) cf hO 89 #[] blk 0 cap d w eg hcmp.lays hH hb (by rw [hds]; omega)
  rw [hds] at hcon
  change Calls Try.prog 88 _ _ _ at hcon
  refine hcon.mono ?_
  rintro e w' ⟨rfl, d', q, os, hperm, hsort, rfl⟩
  obtain ⟨z1, -, z3⟩ := hperm
  rw [hds] at z1
  have z4 : d'.toList.Perm (List.finRange (m + 1)) := by
    rw [extract_all d' z1, extract_all d hds] at z3
    rw [show d.toList = List.finRange (m + 1) by rw [hd]] at z3
    exact z3
  have hHd := holds_sortWorld enc w blk 0 q d d' os hb hH (z1.trans hds.symm)
  have hdl : ∀ {k i}, d'.toList[k]? = some i → d'[k]! = i ∧ k < d'.size := fun {k i} h => by
    rw [Array.getElem?_toList] at h
    obtain ⟨h1, h2⟩ := Array.getElem?_eq_some_iff.1 h
    exact ⟨by rw [getElem!_pos d' k h1, h2], h1⟩
  refine ⟨rfl, d'.toList.map (fun i => gs[i.1]!), d'.toList.map pf, by simp [z1], by simp [z1], fun k h hk => ?_, fun k h p hk hq => ?_, ?_, ?_, touch_sortWorld⟩
  · rw [List.getElem?_map, Option.map_eq_some_iff] at hk
    obtain ⟨i, hi, rfl⟩ := hk
    have := (hHd k (hdl hi).2).1
    rw [(hdl hi).1, Nat.zero_add] at this
    rw [this, henc]
  · rw [List.getElem?_map, Option.map_eq_some_iff] at hk hq
    obtain ⟨i, hi, rfl⟩ := hk
    obtain ⟨j, hj, rfl⟩ := hq
    rw [hi] at hj
    cases hj
    have h := hpa i.1 _ _ (hgi i) (hpi i)
    exact h.1.of_heap (heap_sortWorld h.1.lt h.2)
  · have := z4.map pf
    rw [hpf] at this ⊢
    rwa [finRange_map_get ps hp] at this
  · rw [List.pairwise_map, List.pairwise_iff_getElem]
    intro i j hi hj hij
    rw [← hlt]
    have := hsort i j (Nat.zero_le _) hij (by have := (hdl (List.getElem?_eq_getElem hj)).2; omega)
    rw [(hdl (List.getElem?_eq_getElem hi)).1, (hdl (List.getElem?_eq_getElem hj)).1] at this
    exact this
end Go.Proofs.Ythdnelfggmlalaa
