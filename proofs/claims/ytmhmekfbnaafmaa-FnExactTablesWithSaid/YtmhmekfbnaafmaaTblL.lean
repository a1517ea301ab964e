/-
  Tables with sums told: the walk of impl.areSums, and a round over a map of counts.
-/
import Derived.Test.YtmhmekfbnaafmaaTblK
import Derived.Laws.CopyOwn
namespace Go.Proofs.Ytmhmekfbnaafmaa
open Go.RowKit Go.Maps

/-- Whether these are one to four sums. -/
def aS (xs : List Int) : Bool := decide (1 ≤ xs.length ∧ xs.length ≤ 4) && sml xs
theorem sml_any (xs : List Int) : (!xs.any fun x => !inB x 0 24) = sml xs := by unfold sml; simp [List.all_eq_not_any_not]
theorem enter_sums (args : Array Value) (w : World) : (callFunc 67 args).run Try.prog w = .ok (.enter 67 args) w := enter_of Try.func67 (by kernel_rfl) (by kernel_rfl) args w
theorem areSums1_any (x : Int) (w : World) : Calls Try.prog 67 #[iV x] w fun e w' => e = .returned (.bool (!inB x 0 24)) ∧ w = w' := by
  go_enter Try.func67, Try.ntmps67
  go_wp2_with (go_at_call 59; refine (within_any _ _ _ _).mono ?_; rintro e w' ⟨rfl, rfl⟩)
  go_ret
  exact ⟨rfl, rfl⟩

theorem areSums_any (v : Value) (xs : List Int) (hn : xs.length ≤ 1099511627776) (w : World) (hr : Rd iV w v xs) :
    Calls Try.prog 54 #[v] w fun e w' => e = .returned (.bool (aS xs)) ∧ Below w.heap.size w w' := by
  have HR := Lib.hid hr
  obtain ⟨A, cap, rfl, hcap, -⟩ := hr
  by_cases h1 : 1 ≤ xs.length ∧ xs.length ≤ 4
  case neg =>
    have hf : Hid (aS xs = false) := by unfold aS; rw [decide_eq_false h1]; exact Lib.hid rfl
    by_cases h2 : 1 ≤ xs.length
    · have h3 : ¬ xs.length ≤ 4 := fun h => h1 ⟨h2, h⟩
      go_enter Try.func54, Try.ntmps54
      go_wp2_with fail
      go_ret
      exact ⟨ret_bool hf.out.symm, Below.refl _ _⟩
    · go_enter Try.func54, Try.ntmps54
      go_wp2_with fail
      go_ret
      exact ⟨ret_bool hf.out.symm, Below.refl _ _⟩
  obtain ⟨h1, h2⟩ := h1
  have hf : Hid (aS xs = !xs.any fun x => !inB x 0 24) := by unfold aS; rw [decide_eq_true ⟨h1, h2⟩, sml_any]; exact Lib.hid (Bool.true_and _)
  go_enter Try.func54, Try.ntmps54
  go_wp2_with (go_at_call 60; go_loud (refine (containsFunc_any (fun x => !inB x 0 24) 67 #[] _ xs hn enter_sums _ (fun x n _ => quietly_same (areSums1_any x _)) HR.out).mono ?_); rintro e w' ⟨rfl, m, rfl⟩)
  go_ret
  exact ⟨by rw [hf.out]; rfl, below_of_drew ⟨m, rfl⟩⟩
theorem small_as {xs ys : List Int} : smallB xs ys = (aS xs && (aS ys && decide (xs.length * ys.length ≤ 12))) := by
  unfold smallB aS
  rw [Bool.eq_iff_iff]
  simp only [Bool.and_eq_true, decide_eq_true_eq]
  constructor
  · rintro ⟨⟨h1, h2, h3⟩, h4, h5⟩; exact ⟨⟨h1, h4⟩, ⟨h2, h5⟩, h3⟩
  · rintro ⟨⟨h1, h4⟩, ⟨h2, h5⟩, h3⟩; exact ⟨⟨h1, h2, h3⟩, h4, h5⟩

/-! ### a round over a map of counts -/
/-- What is done: the counts of those keys that have come. -/
def dnK (C : Nat) (left : Lit → Bool) (W : Nat → Nat) (k : Nat) : Nat := if left (K4 (padZ C (digs C k))) then 0 else W k
theorem dnK_start {C : Nat} {D : DataW Unit} {W : Nat → Nat} (hD : MapT C D W) {k : Nat} (hk : k < 25 ^ C) (hW : W k ≤ 25 ^ 12) : dnK C (has D) W k = 0 := by
  unfold dnK
  cases h : has D (K4 (padZ C (digs C k)))
  · have e := hD (digs C k) (digs_len C k) digs_lt
    rw [atKey_of_not_has h, code_digs hk] at e
    injection e with e
    injection e with _ e
    rw [IntWalk.wrap64_in _ (by omega)] at e
    simp; omega
  · rfl
theorem dnK_end {C : Nat} {left : Lit → Bool} {W : Nat → Nat} (h : ∀ kl, left kl = false) (k : Nat) : dnK C left W k = W k := by unfold dnK; rw [h]; rfl
theorem dnK_step {C : Nat} (hC : C ≤ 4) {left : Lit → Bool} {W : Nat → Nat} {u : List Nat} (hu : u.length = C) (hx : ∀ x ∈ u, x < 25) {k : Nat} (hk : k < 25 ^ C) :
    dnK C (fun z => left z && !z.sameKey (K4 (padZ C u))) W k = if k = code u then W k else dnK C left W k := by
  unfold dnK
  by_cases e : k = code u
  · subst e
    rw [if_pos rfl, digs_code hu hx]
    show (if (left (K4 (padZ C u)) && !(K4 (padZ C u)).sameKey (K4 (padZ C u))) = true then 0 else W (code u)) = W (code u)
    rw [WideAt.sameKey_self (K4_isKey _)]
    simp
  · rw [if_neg e]
    have hne : K4 (padZ C (digs C k)) ≠ K4 (padZ C u) := fun e2 => e (by
      have := padZ_inj (K4_inj (padZ_len hC (digs_len C k)) (padZ_lt digs_lt) (padZ_len hC hu) (padZ_lt hx) e2)
      rw [← this, code_digs hk])
    show (if (left (K4 (padZ C (digs C k))) && !(K4 (padZ C (digs C k))).sameKey (K4 (padZ C u))) = true then 0 else W k) = _
    rw [sameKey_ne hne]
    simp
theorem dnK_left {C : Nat} {left : Lit → Bool} {W : Nat → Nat} {u : List Nat} (hu : u.length = C) (hx : ∀ x ∈ u, x < 25) (h : left (K4 (padZ C u)) = true) : dnK C left W (code u) = 0 := by
  unfold dnK
  rw [digs_code hu hx, h]
  rfl
/-- The sums that one more key brings. -/
theorem sum_step {C r : Nat} (hC : C ≤ 4) {left : Lit → Bool} {W : Nat → Nat} {u : List Nat} (hu : u.length = C) (hx : ∀ x ∈ u, x < 25) (h : left (K4 (padZ C u)) = true) (j : Nat) :
    sN (fun k => dnK C left W k * wA [] (digs C k) r j) (25 ^ C) + W (code u) * wA [] u r j = sN (fun k => dnK C (fun z => left z && !z.sameKey (K4 (padZ C u))) W k * wA [] (digs C k) r j) (25 ^ C) := by
  have hlt := code_lt hu hx
  refine (sN_at (g := fun k => dnK C left W k * wA [] (digs C k) r j) (x := code u) ?_ hlt (fun k hk hne => ?_)).symm
  · show dnK C _ W (code u) * _ = dnK C left W (code u) * _ + _
    rw [dnK_step hC hu hx hlt, if_pos rfl, dnK_left hu hx h, digs_code hu hx]
    omega
  · show dnK C _ W k * _ = dnK C left W k * _
    rw [dnK_step hC hu hx hk, if_neg hne]
theorem boxAt_of_heap {w : World} {b : Nat} {vs : List Value} {t : TypeId} (h : w.heap[b]? = some (.cells vs.toArray t (0, 0))) : BoxAt w b vs :=
  ⟨(Array.getElem?_eq_some_iff.1 h).1, fun i v hv => by simp [World.cell?, h]; simpa using hv, fun i => by simp [World.frozen?, h]⟩
theorem start_is {C : Nat} {ys : List Int} (hy : sml ys = true) (hl : ys.length = C) (hC : C ≤ 4) : splice [iV 0, iV 0, iV 0, iV 0] 0 (ys.map iV) = nVs (padZ C (nats ys)) := by
  unfold splice nVs padZ
  rw [List.map_append]
  have e1 : (nats ys).map (fun n : Nat => iV n) = ys.map iV := by
    have := congrArg (List.map iV) (iL_nats hy)
    unfold iL at this
    rwa [List.map_map] at this
  rw [e1]
  simp only [List.take_zero, List.nil_append, List.length_map, Nat.zero_add]
  congr 1
  rw [hl]
  have : C = 0 ∨ C = 1 ∨ C = 2 ∨ C = 3 ∨ C = 4 := by omega
  rcases this with h | h | h | h | h <;> subst h <;> rfl
/-- The map at the start. -/
theorem one_isT {C : Nat} (hC : C ≤ 4) {b : List Nat} (hb : b.length = C) (hx : ∀ x ∈ b, x < 25) : MapT C ((DataW.map [] : DataW Unit).put (K4 (padZ C b)) (.lit (.int .i64 1))) (wOne b) := fun u hu hux => by
  by_cases e : u = b
  · subst e
    rw [atKey_put_same isMap_empty (K4_isKey _)]
    unfold wOne
    rw [if_pos rfl, show wrap64 ((1 : Nat) : Int) = 1 from IntWalk.wrap64_in _ (by omega)]
  · rw [atKey_put_other (fun e2 => e (padZ_inj (K4_inj (padZ_len hC hu) (padZ_lt hux) (padZ_len hC hb) (padZ_lt hx) e2))), atKey_of_not_has rfl]
    unfold wOne
    rw [if_neg (fun e2 => e (code_inj (hu.trans hb.symm) hux hx e2)), show wrap64 ((0 : Nat) : Int) = 0 from IntWalk.wrap64_in _ (by omega)]
theorem one_keysT {C : Nat} {b : List Nat} (hb : b.length = C) (hx : ∀ x ∈ b, x < 25) (d : DataW Unit) : KeysT C ((DataW.map [] : DataW Unit).put (K4 (padZ C b)) d) :=
  KeysT.put (fun kl h => by cases h) hb hx d
theorem none_isT (C : Nat) : MapT C (DataW.map [] : DataW Unit) (fun _ => 0) := fun u _ _ => by
  show _ = DataW.lit (Lit.int .i64 (wrap64 ((0 : Nat) : Int)))
  rw [atKey_of_not_has rfl, show wrap64 ((0 : Nat) : Int) = 0 from IntWalk.wrap64_in _ (by omega)]
theorem none_keysT (C : Nat) : KeysT C (DataW.map [] : DataW Unit) := fun kl h => by cases h

end Go.Proofs.Ytmhmekfbnaafmaa
