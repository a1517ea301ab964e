/-
  Maps whose keys are arrays of four int64s: what a key reads as, 'm[k] += x' in its parts.
-/
import Derived.Test.YtmhmekfbnaafmaaTblS
import Derived.Test.YtmhmekfbnaafmaaSgnM
import Derived.WideKeyArr
import Derived.WideKeyEntry
namespace Go.Proofs.Ytmhmekfbnaafmaa
open Go.RowKit Go.Maps Go.ChangeMaps Go.MapKept
open Go.WideElems (Fit)

theorem akA : WideMaps.ArrKey Try.prog 63 2 4 := ⟨Try.underlying63, by kernel_rfl, by kernel_rfl, by kernel_rfl⟩
theorem lawA' : WideMaps.KeyLaw Try.prog 63 := akA.law
theorem lawA : Keyed Try.prog 63 := Keyed.of_law lawA'
/-- What a key reads as. -/
def K4 (l : List Nat) : Lit := .string (keyBytes (l.map fun n : Nat => Lit.int .i64 n))
def aV (l : List Nat) : Value := .agg (l.map fun n : Nat => iV n).toArray
theorem K4_isKey (l : List Nat) : WideAt.IsKeyLit (K4 l) := trivial
theorem typesA : ∃ m, Try.prog.types.size = m + 1 := by
  have h : decide (0 < Try.prog.types.size) = true := by kernel_rfl
  exact ⟨Try.prog.types.size - 1, by have := of_decide_eq_true h; omega⟩
theorem keyOf4 {l : List Nat} (h4 : l.length = 4) (h : ∀ x ∈ l, x < 25) : keyOf Try.prog 63 (aV l) = some (K4 l) := by
  match l, h4 with
  | [a, b, c, d], _ =>
    have ha := h a (by simp)
    have hb := h b (by simp)
    have hc := h c (by simp)
    have hd := h d (by simp)
    have wf : ∀ n : Nat, n < 25 → (Lit.int .i64 (n : Int)).wf = true := fun n hn => wf_of_inI (by unfold inI; omega)
    have hlit : ∀ (D n : Nat), n < 25 → Try.prog.keyLits (D + 1) 2 [iV (n : Int)] = some [Lit.int .i64 n] := fun D n hn => by
      unfold Program.keyLits
      rw [Try.underlying2]
      simp [wf n hn]
    obtain ⟨m, hm⟩ := typesA
    have hcells : Try.prog.cellsOf 63 = 4 := akA.size
    have hcell1 : Try.prog.cellsOf 2 = 1 := akA.one
    have hk : Try.prog.keyLits (Try.prog.types.size + 1) 63 [iV (a : Int), iV (b : Int), iV (c : Int), iV (d : Int)] = some [Lit.int .i64 a, Lit.int .i64 b, Lit.int .i64 c, Lit.int .i64 d] := by
      rw [hm]
      unfold Program.keyLits
      rw [Try.underlying63]
      simp only [hcells, hcell1, List.length_cons, List.length_nil, if_true]
      simp [List.range, List.range.loop, hlit _ _ ha, hlit _ _ hb, hlit _ _ hc, hlit _ _ hd]
    unfold keyOf
    rw [Try.underlying63]
    simp only [akA.keyType typesA, Bool.true_and]
    have hf : (aV [a, b, c, d]).formed Try.prog 63 = true := by
      simp [Value.formed, Try.underlying63, hcells, aV]
    rw [hf]
    simp only [if_true]
    show (Try.prog.keyLits _ _ [iV (a : Int), iV (b : Int), iV (c : Int), iV (d : Int)]).map _ = _
    rw [hk]
    rfl

section
open Go.WideMaps
variable {P : Program} {w : World} {t k e : TypeId} {R : Value → Option (DataW Unit × List MemPlace)} {b : Nat} {es : Array MapEntry} {clock : Nat}
/-- 'm[k]' for 'm[k] += x' leaves the map as 'm[k] = m[k]' does. -/
theorem entry_as_update (K : KeyLaw P k) (ht : P.underlying t = some (.map k e)) {z : Value} (hz : ∀ u : World, (zeroValue e).run P u = .ok z u) (hb : w.heap[b]? = some (.map es clock)) (F : Fit P k R es clock)
    {key : Value} {kl : Lit} (hkey : keyOf P k key = some kl) {v0 s0 : Value} {w1 : World} (hE : (Instr.mapEntry t (.map (some b)) key).run P w = .ok (.tuple #[v0, s0]) w1) :
    (Instr.mapUpdate t (.map (some b)) key v0).run P w = .ok () w1 := by
  rcases K.find w hkey es.toList F.keys with ⟨h1, h2⟩ | ⟨j, e0, h1, h2, h3⟩
  · simp [Instr.mapEntry, run_underlying ht, MapKept.run_getObj_map hb, K.check w false hkey, h1, hz, MapKept.run_setObj_map _ hb, Result.andThen] at hE
    obtain ⟨⟨rfl, rfl⟩, rfl⟩ := hE
    simp [Instr.mapUpdate, run_underlying ht, MapKept.run_getObj_map hb, K.check w false hkey, h1, MapKept.run_setObj_map _ hb, Result.andThen]
  · have hj : es[j]? = some e0 := by simpa using h2
    simp [Instr.mapEntry, run_underlying ht, MapKept.run_getObj_map hb, K.check w false hkey, h1, hj, h3, K.stays w hkey, MapKept.run_setObj_map _ hb, Result.andThen] at hE
    obtain ⟨⟨rfl, rfl⟩, rfl⟩ := hE
    have hm : es.modify j (fun e' => { e' with key := key, val := e0.val }) = es.modify j (fun e' => { e' with key := key }) := by
      apply Array.ext'
      rw [Array.toList_modify, Array.toList_modify, modify_eq_set _ _ _ _ h2, modify_eq_set _ _ _ _ h2]
    simp [Instr.mapUpdate, run_underlying ht, MapKept.run_getObj_map hb, K.check w false hkey, h1, hj, h3, K.stays w hkey, hm, MapKept.run_setObj_map _ hb, Result.andThen]
end

theorem zeroA (u : World) : (zeroValue 2).run Try.prog u = .ok (.int .i64 0) u := by kernel_rfl
/-- A map of counts by arrays of four. -/
abbrev ownsA (w : World) (b n : Nat) (D : DataW Unit) : Prop := w.ownsMap Try.prog 63 (plainElem Try.prog 2) b n D

theorem heap_of_grown_run {w w' : World} {b : Nat} (h : w.grownBy w' (some b)) {c : Nat} (hc : c < w.heap.size) (hne : c ≠ b) : w'.heap[c]? = w.heap[c]? := h.block c hc (fun e => hne (Option.some.inj e))

/-- 'm[k] += x' in its parts: the entry, the look-up behind it, the store. -/
theorem entry_own {w : World} {b n : Nat} {D : DataW Unit} (h : ownsA w b n D) (hn : n + 1 < maxLen) {l : List Nat} (h4 : l.length = 4) (hl : ∀ x ∈ l, x < 25) :
    ∃ (c : Int) (s0 : Value) (w1 : World), (Instr.mapEntry 64 (.map (some b)) (aV l)).run Try.prog w = .ok (.tuple #[iV c, s0]) w1 ∧ D.atKey (K4 l) (.lit (.int .i64 0)) = .lit (.int .i64 c) ∧
      (Instr.lookup 64 (.map (some b)) (aV l) false).run Try.prog w = .ok (iV c) w ∧
      (Instr.lookup 64 (.map (some b)) (aV l) false).run Try.prog w1 = .ok (iV c) w1 ∧
      w.grownBy w1 (some b) ∧
      ∀ (x : Int), inI x → ∃ w3, (Instr.entryStore 64 (.map (some b)) s0 (iV x)).run Try.prog w1 = .ok () w3 ∧ ownsA w3 b (n + 1) (D.put (K4 l) (.lit (.int .i64 x))) ∧ w.grownBy w3 (some b) := by
  have hkey := keyOf4 h4 hl
  have hown := h
  obtain ⟨es, clock, hb, F, hs, hD⟩ := h
  obtain ⟨v0, st, es1, clock1, hE, hv0, hst⟩ := WideElems.entry_then_store lawA' Try.underlying64 zeroA hb F hkey
  have hU := entry_as_update lawA' Try.underlying64 zeroA hb F hkey hE
  obtain ⟨c, hlk, hat, hwc⟩ := hown.lookup_int lawA Try.underlying64 Try.underlying2 (zeroA w) hkey
  have hvc : v0 = iV c := by
    rcases Maps.fit_look false lawA Try.underlying64 (zeroA w) hb F hkey with ⟨hr, hno, _⟩ | ⟨e0, y, hm0, hk0, hr, _, _, _⟩
    · rw [hlk] at hr
      injection hr with hr _
      rcases hv0 with ⟨e1, hm1, hk1, _⟩ | ⟨_, hz⟩
      · exact absurd hk1 (hno e1 hm1)
      · rw [hz]; exact hr.symm
    · rw [hlk] at hr
      injection hr with hr _
      rcases hv0 with ⟨e1, hm1, hk1, hv1⟩ | ⟨hno, _⟩
      · have : e1 = e0 := entry_eq_of_key ((stamped_iff es clock).1 F.stamped).2.2 hm1 hm0 (hk1.trans hk0.symm)
        rw [hv1, this]; exact hr.symm
      · exact absurd hk0 (hno e0 hm0)
  subst hvc
  obtain ⟨w1, hr1, ho1, hg1⟩ := hown.update lawA Try.underlying64 (by omega) hkey (plainElem_int Try.underlying2 hwc)
  rw [hU] at hr1
  cases hr1
  obtain ⟨c', hlk', hat', _⟩ := ho1.lookup_int lawA Try.underlying64 Try.underlying2 (zeroA _) hkey
  have hcc : c' = c := by
    have hm : IsMap D := hown.isMap
    rw [atKey_put_same hm (K4_isKey l)] at hat'
    injection hat' with h1
    injection h1 with _ h2
    exact h2.symm
  subst hcc
  refine ⟨c', _, _, hE, hat, hlk, hlk', hg1, fun x hx => ?_⟩
  obtain ⟨es', clock', hS, hU2⟩ := hst _ (iV x) (heap_setBlock_same hb _)
  obtain ⟨w4, hr4, ho4, hg4⟩ := hown.update lawA Try.underlying64 (by omega) hkey (plainElem_int Try.underlying2 (wf_of_inI hx))
  rw [hU2] at hr4
  cases hr4
  refine ⟨_, hS, ?_, ?_⟩
  · obtain ⟨es2, clock2, hb2, rest⟩ := ho4
    rw [heap_setBlock_same hb] at hb2
    cases hb2
    exact ⟨es', clock', heap_setBlock_same (heap_setBlock_same hb _) _, rest⟩
  · exact grown_trans1 hg1 ⟨rfl, rfl, rfl, by simp [setBlock], fun i _ hi => heap_setBlock_other (heap_setBlock_same hb _) _ (fun e => hi (by rw [e]))⟩
end Go.Proofs.Ytmhmekfbnaafmaa
