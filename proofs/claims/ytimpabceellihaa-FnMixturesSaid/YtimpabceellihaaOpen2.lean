/-
  The row's last step for a call of which only 'Below' is known: old memory is as it was.
  Arguments opened: a slice of elements of one cell each reads as a list.
-/
import Derived.Test.YtimpabceellihaaBase
import Derived.ProofKit
import Derived.OpenShut
import Derived.Test.YtimpabceellihaaSl
import Derived.Deep.Slices
import Derived.Carry
namespace Go.Proofs.Ytimpabceellihaa
section
open Go.RowKit Go.WideShapes Go.ChangeShapes

theorem own_knob : ownKnob Try.prog.godebug = none := by kernel_rfl

/-- 'post' out of 'Below': the results have no places, the arguments read as before. -/
theorem post_below {H : Type} {enc : TypeId × Value → H} {P : Program} {f : Func} {s : ChangeSpec} {apart fresh handsOn again : Bool} {W W' : World} {args : Array Value} {v : Value} {ds gs : List (DataW H)} {before pa pv : List MemPlace}
    (hW : DataW.Whole enc P f.params.toList s.vars apart W args.toList ds gs before)
    (hres : ∀ (b : Nat) (sp : Nat → Bool) (hd : Bool), DataW.TrodAll enc P W' b sp hd f.resultTypes.toList (v.resultList f.resultTypes.size) (s.fn H (ds ++ gs)).results [])
    (hargs : ∀ sp : Nat → Bool, (∀ p ∈ before, sp p.block = true) → DataW.TrodAll enc P W' 0 sp true f.params.toList args.toList (s.fn H (ds ++ gs)).args pa)
    (hvars : ∀ sp : Nat → Bool, (∀ p ∈ before, sp p.block = true) → DataW.TrodVars enc P W' sp s.vars (s.fn H (ds ++ gs)).vars pv)
    (hps : before = pa ++ pv) (hb : Below W.heap.size W W')
    (hok : ∀ (j : Nat) (t : TypeId) (r : Value), f.resultTypes[j]? = some t → (v.resultList f.resultTypes.size)[j]? = some r → Value.okWide P W' .any 0 t r) :
    s.post enc P f apart fresh handsOn again W args v W' := by
  have old : ∀ p ∈ before, p.block < W.heap.size := fun p hp => hW.lt p hp
  have oldB : ∀ p ∈ before, (fun b => decide (b < W.heap.size)) p.block = true := fun p hp => decide_eq_true (old p hp)
  have inB : ∀ p, p ∈ pa ++ pv → p ∈ before := fun p hp => hps ▸ hp
  refine ⟨ds, gs, before, [], pa, pv, hW, hres _ _ _, hargs _ oldB, hvars _ oldB, World.keptBut_mono (fun p hp => ⟨hp, Or.inr (by rw [← List.mem_append, ← hps]; exact hp)⟩) (hb.frame (· ∈ before)), fun _ => ?_⟩
  obtain ⟨_, _, _, _, _, hz, hn⟩ := hW
  refine ⟨hok, _, _, ([] ++ pa) ++ pv, ⟨[] ++ pa, pv, trodAll_append (hargs _ (fun _ _ => rfl)) (hres _ _ _), hvars _ (fun _ _ => rfl), rfl, ?_, ?_⟩, ?_⟩
  · intro b off hp
    have hin : MemPlace.cell b off ∈ before := inB _ (by simpa using hp)
    rw [hb.frozen (old _ hin)]
    exact hz b off hin
  · intro ha
    have := hn ha
    rw [hps] at this
    simpa using this
  · intro p hp _
    rw [hps]
    simpa using hp
end

section
open Go.RowKit Go.WideShapes Go.ChangeShapes Go.Deep

section
variable {H : Type} {enc : TypeId × Value → H} {P : Program} {w : World} {base : Nat} {spare : Nat → Bool} {held : Bool}

theorem rd_of_trod {α : Type} [Inhabited α] (f : α → Value) {t e : TypeId} {A : Option Addr} {len cap : Nat} {d : DataW H} {ps : List MemPlace} (ht : P.underlying t = some (.slice e)) (hc : P.cellsOf e = 1)
    (elem : ∀ (n : Nat) (v : Value) (y : DataW H × List MemPlace), DataW.trod enc P w base spare held n e [v] = some y → ∃ x : α, v = f x)
    (h : DataW.Trod enc P w base spare held t (.slice A len cap) d ps) : ∃ xs : List α, Rd f w (.slice A len cap) xs := by
  obtain ⟨fuel, hf⟩ := h
  rcases open_slice1 ht hc hf with ⟨hcs, _⟩ | ⟨a, len', cap', m, n, V, D, Pl, hcs, _, hl, _, hm, _, hx⟩
  · simp [Value.cells] at hcs
    obtain ⟨rfl, rfl, rfl⟩ := hcs
    exact ⟨[], Rd.nil⟩
  · simp [Value.cells] at hcs
    obtain ⟨rfl, rfl, rfl⟩ := hcs
    have hlm : len ≤ m := by rw [hm]; split <;> omega
    obtain ⟨X, hX⟩ := choose_lt (α := α) (n := len) (p := fun i x => V i = f x) (fun i hi => elem n _ _ (hx i (by omega)).2)
    refine ⟨(List.range len).map X, some a, cap, by simp, by simpa using hl, fun k x hk => ⟨a, rfl, ?_, ?_⟩⟩
    · have hkl : k < len := by simpa using lt_of_get hk
      have := World.block_lt_of_cell? w _ (hx k (by omega)).1
      rwa [add_block] at this
    · have hkl : k < len := by simpa using lt_of_get hk
      rw [List.getElem?_map, List.getElem?_range hkl] at hk
      simp only [Option.map_some, Option.some.injEq] at hk
      subst hk
      rw [(hx k (by omega)).1, hX k hkl]

theorem elem_int {e : TypeId} {k : IntKind} (he : P.underlying e = some (.int k)) (n : Nat) (v : Value) (y : DataW H × List MemPlace) (h : DataW.trod enc P w base spare held n e [v] = some y) : ∃ x : Int, v = .int k x := by
  obtain ⟨x, hx, _⟩ := DataW.trod_int he h
  simp at hx
  exact ⟨x, hx⟩
theorem elem_bool {e : TypeId} (he : P.underlying e = some .bool) (n : Nat) (v : Value) (y : DataW H × List MemPlace) (h : DataW.trod enc P w base spare held n e [v] = some y) : ∃ x : Bool, v = .bool x := by
  obtain ⟨x, hx, _⟩ := DataW.trod_bool he h
  simp at hx
  exact ⟨x, hx⟩
theorem elem_float {e : TypeId} {k : FloatKind} (he : P.underlying e = some (.float k)) (n : Nat) (v : Value) (y : DataW H × List MemPlace) (h : DataW.trod enc P w base spare held n e [v] = some y) : ∃ x : Nat, v = .float k x := by
  cases n with
  | zero => simp [DataW.trod] at h
  | succ n =>
    unfold DataW.trod at h
    rw [he] at h
    cases v <;> simp at h
    case float k' b =>
      obtain ⟨⟨rfl, _⟩, _⟩ := h
      exact ⟨b, rfl⟩
theorem rd_of_cell {α : Type} [Inhabited α] (f : α → Value) {t e : TypeId} {v : Value} {fuel : Nat} {y : DataW H × List MemPlace} (ht : P.underlying t = some (.slice e)) (hc : P.cellsOf e = 1)
    (elem : ∀ (n : Nat) (v : Value) (y : DataW H × List MemPlace), DataW.trod enc P w base spare held n e [v] = some y → ∃ x : α, v = f x)
    (h : DataW.trod enc P w base spare held fuel t [v] = some y) : ∃ xs : List α, Rd f w v xs ∧ xs.length ≤ 9223372036854775807 := by
  rcases open_slice1 ht hc h with ⟨hcs, _⟩ | ⟨a, len', cap', m, n, V, D, Pl, hcs, _, hl, hm1, hm, _, hx⟩
  · simp at hcs
    subst hcs
    exact ⟨[], Rd.nil, by simp⟩
  · simp at hcs
    subst hcs
    have hlm : len' ≤ m := by rw [hm]; split <;> omega
    obtain ⟨X, hX⟩ := choose_lt (α := α) (n := len') (p := fun i x => V i = f x) (fun i hi => elem n _ _ (hx i (by omega)).2)
    refine ⟨(List.range len').map X, ⟨some a, cap', by simp, by simpa using hl, fun k x hk => ⟨a, rfl, ?_, ?_⟩⟩, by unfold maxLen at hm1; simp; omega⟩
    · have hkl : k < len' := by simpa using lt_of_get hk
      have := World.block_lt_of_cell? w _ (hx k (by omega)).1
      rwa [add_block] at this
    · have hkl : k < len' := by simpa using lt_of_get hk
      rw [List.getElem?_map, List.getElem?_range hkl] at hk
      simp only [Option.map_some, Option.some.injEq] at hk
      subst hk
      rw [(hx k (by omega)).1, hX k hkl]

end
end
end Go.Proofs.Ytimpabceellihaa
