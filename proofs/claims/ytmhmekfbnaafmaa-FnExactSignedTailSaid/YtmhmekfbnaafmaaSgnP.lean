/-
  Signed tails, plainly: sizes, ranks, and in how many ways a sum comes about.
-/
import Derived.Test.YtmhmekfbnaafmaaSgnM
import Derived.Test.YtmhmekfbnaafmaaRanks
import Derived.Test.YtmhmekfbnaafmaaSample
namespace Go.Proofs.Ytmhmekfbnaafmaa
open Go.RowKit Go.Maps

def nz (xs : List Int) : List Int := xs.filter fun n => !(n == 0)
theorem nz_snoc (l : List Int) (x : Int) : nz (l ++ [x]) = if x = 0 then nz l else nz l ++ [x] := by
  unfold nz
  rw [List.filter_append]
  by_cases h : x = 0
  · subst h; simp
  · simp [h]
theorem nz_len (xs : List Int) : (nz xs).length ≤ xs.length := List.length_filter_le _ _
theorem nz_mem {xs : List Int} {x : Int} (h : x ∈ nz xs) : x ∈ xs := (List.mem_filter.1 h).1
def aI (n : Int) : Int := max n (-n)
def szs (xs : List Int) : List Int := (nz xs).map aI
theorem szs_len (xs : List Int) : (szs xs).length = (nz xs).length := by simp [szs]
def mor (xs : List Int) : List Bool := (nz xs).map fun n => decide (0 < n)
theorem mor_len (xs : List Int) : (mor xs).length = (nz xs).length := by simp [mor]
def rnk (xs : List Int) : List Int := ranks (szs xs)
theorem rnk_len (xs : List Int) : (rnk xs).length = (nz xs).length := by rw [rnk, ranks_len, szs_len]
theorem rnk_bd {xs : List Int} (hn : xs.length ≤ 40) {r : Int} (h : r ∈ rnk xs) : 1 ≤ r ∧ r ≤ 81 := by
  unfold rnk ranks at h
  obtain ⟨o, _, rfl⟩ := List.mem_map.1 h
  have := rk_bd o (szs xs)
  have h2 := szs_len xs
  have h3 := nz_len xs
  omega
/-- The own sum after k ranks. -/
def ownTo (ms : List Bool) (rs : List Int) : Nat → Int
  | 0 => 0
  | k + 1 => if ms[k]? = some true then wrap64 (ownTo ms rs k + (rs[k]?).getD 0) else ownTo ms rs k
theorem ownTo_yes {ms : List Bool} {rs : List Int} {k : Nat} {r : Int} (hm : ms[k]? = some true) (hr : rs[k]? = some r) : ownTo ms rs (k + 1) = wrap64 (ownTo ms rs k + r) := by simp [ownTo, hm, hr]
theorem ownTo_no {ms : List Bool} {rs : List Int} {k : Nat} (hm : ms[k]? = some false) : ownTo ms rs (k + 1) = ownTo ms rs k := by simp [ownTo, hm]
theorem ownTo_bd {ms : List Bool} {rs : List Int} (h : ∀ r ∈ rs, 1 ≤ r ∧ r ≤ 81) : ∀ {k : Nat}, k ≤ 40 → 0 ≤ ownTo ms rs k ∧ ownTo ms rs k ≤ 81 * k
  | 0, _ => by simp [ownTo]
  | k + 1, hk => by
    have ih := ownTo_bd h (ms := ms) (k := k) (by omega)
    have hb : 0 ≤ (rs[k]?).getD 0 ∧ (rs[k]?).getD 0 ≤ 81 := by
      cases e : rs[k]? with
      | none => simp
      | some r => have := h r (List.mem_of_getElem? e); simp; omega
    unfold ownTo
    split
    · unfold wrap64; omega
    · omega

/-! ### in how many ways -/
def stepF (f : Int → Int) (r s : Int) : Int := wrap64 (f s + f (s - r))
def ways0 (s : Int) : Int := if s = 0 then 1 else 0
def wayF (rs : List Int) : Int → Int := rs.foldl stepF ways0
theorem wayF_nil : wayF [] = ways0 := rfl
theorem wayF_snoc (rs : List Int) (r : Int) : wayF (rs ++ [r]) = stepF (wayF rs) r := by simp [wayF]
theorem wayF_in (rs : List Int) (s : Int) : inI (wayF rs s) := by
  rcases List.eq_nil_or_concat rs with rfl | ⟨l, r, rfl⟩
  · rw [wayF_nil]; unfold ways0 inI; split <;> omega
  · rw [List.concat_eq_append, wayF_snoc]; unfold stepF wrap64 inI; omega
theorem wayF_zero : ∀ {n : Nat} {rs : List Int}, rs.length = n → (∀ r ∈ rs, 1 ≤ r ∧ r ≤ 81) → ∀ s, s < 0 ∨ 81 * (n : Int) < s → wayF rs s = 0
  | 0, rs, hn, _, s, hs => by
    have : rs = [] := List.length_eq_zero_iff.1 hn
    subst this
    rw [wayF_nil]; unfold ways0; rw [if_neg (by omega)]
  | n + 1, rs, hn, h, s, hs => by
    rcases List.eq_nil_or_concat rs with rfl | ⟨l, r, rfl⟩
    · simp at hn
    · rw [List.concat_eq_append] at hn h ⊢
      have hr := h r (by simp)
      have hl : l.length = n := by simpa using hn
      have ih := wayF_zero hl (fun x hx => h x (by simp [hx]))
      rw [wayF_snoc]
      unfold stepF
      rw [ih s (by omega), ih (s - r) (by omega)]
      unfold wrap64; omega
/-- The numbers told. -/
def sgnB (xs : List Int) : Bool := smpB xs && !(nz xs).isEmpty
def sgnOwn (xs : List Int) : Int := ownTo (mor xs) (rnk xs) (rnk xs).length
def sgnP (xs : List Int) : Int := if sgnB xs then wrap64 (sumTo (wayF (rnk xs)) ((sgnOwn xs).toNat + 1)) else 0
def sgnA (xs : List Int) : Int := if sgnB xs then 2 ^ (nz xs).length else 0
def RetSgn (xs : List Int) (w : World) (e : Ending) (w' : World) : Prop :=
  e = .returned (.tuple #[.int .i64 (sgnP xs), .int .i64 (sgnA xs), .bool (sgnB xs)]) ∧ Below w.heap.size w w'
theorem sgnOwn_bd {xs : List Int} (hn : xs.length ≤ 40) : 0 ≤ sgnOwn xs ∧ sgnOwn xs ≤ 81 * (rnk xs).length := by
  have h1 := rnk_len xs
  have h2 := nz_len xs
  exact ownTo_bd (fun r h => rnk_bd hn h) (by omega)
/-- A count of all sums up to one's own. -/
theorem where_is {f : Int → Int} {o : Int} {B : Nat} (h0 : 0 ≤ o) (h1 : o ≤ B) : whereN f (fun s => decide (s ≤ o)) B = wrap64 (sumTo f (o.toNat + 1)) := by
  unfold whereN
  rw [sumTo_more (n := o.toNat + 1) (m := B + 1) (by omega) (fun k hk _ => by simp; omega)]
  rw [sumTo_congr (h := f) (fun k hk => by simp; omega)]

/-! ### the round over a map of ways -/
theorem way_start {D : DataW Unit} {f : Int → Int} (h : MapIs D f) (r : Int) : MapIs (.map []) (fun s => wrap64 (dn (has D) f s + dn (has D) f (s - r))) := fun s => by
  show _ = DataW.lit (Lit.int .i64 (wrap64 (dn (has D) f s + dn (has D) f (s - r))))
  rw [dn_start h, dn_start h, atKey_of_not_has rfl]
  congr 2; unfold wrap64; omega
theorem way_end {left : Lit → Bool} {f : Int → Int} (h : ∀ kl, left kl = false) (r : Int) : (fun s => wrap64 (dn left f s + dn left f (s - r))) = stepF f r := by
  funext s
  rw [dn_end h, dn_end h]
  rfl
theorem way_step {D : DataW Unit} (hm : IsMap D) {left : Lit → Bool} {f : Int → Int} {r x y c c1 c2 : Int} (hr : 1 ≤ r) (hy : y = x + r) (hl : left (kI x) = true) (hc : c = f x)
    (h : MapIs D (fun s => wrap64 (dn left f s + dn left f (s - r)))) (h1 : D.atKey (kI x) (.lit (.int .i64 0)) = .lit (.int .i64 c1))
    (h2 : (D.put (kI x) (.lit (.int .i64 (wrap64 (c1 + c))))).atKey (kI y) (.lit (.int .i64 0)) = .lit (.int .i64 c2)) :
    MapIs ((D.put (kI x) (.lit (.int .i64 (wrap64 (c1 + c))))).put (kI y) (.lit (.int .i64 (wrap64 (c2 + c))))) (fun s => wrap64 (dn (fun z => left z && !z.sameKey (kI x)) f s + dn (fun z => left z && !z.sameKey (kI x)) f (s - r))) := by
  have inj : ∀ {a b : Int}, (DataW.lit (Lit.int .i64 a) : DataW Unit) = .lit (.int .i64 b) → a = b := fun {a b} e => by injection e with e; injection e
  have e1 : c1 = wrap64 (dn left f x + dn left f (x - r)) := inj (h1.symm.trans (h x))
  rw [atKey_put_other (kI_ne (by omega))] at h2
  have e2 : c2 = wrap64 (dn left f y + dn left f (y - r)) := inj (h2.symm.trans (h y))
  have hz := dn_left (f := f) hl
  have hyr : y - r = x := by omega
  rw [hz] at e1
  rw [hyr, hz] at e2
  intro s
  show _ = DataW.lit (Lit.int .i64 (wrap64 (_ + _)))
  rw [dn_step, dn_step]
  by_cases a : s = y
  · subst a
    rw [atKey_put_same (hm.put _ _) (kI_isKey s), e2, if_neg (by omega), if_pos (by omega), hyr, hc]
    congr 2; unfold wrap64; omega
  · rw [atKey_put_other (kI_ne a)]
    by_cases b : s = x
    · subst b
      rw [atKey_put_same hm (kI_isKey s), e1, if_pos rfl, if_neg (by omega), hc]
      congr 2; unfold wrap64; omega
    · rw [atKey_put_other (kI_ne b), h s, if_neg b, if_neg (by omega)]
theorem way_first : MapIs ((DataW.map [] : DataW Unit).put (kI 0) (.lit (.int .i64 1))) ways0 := fun s => by
  by_cases e : s = 0
  · subst e; rw [atKey_put_same isMap_empty (kI_isKey 0)]; rfl
  · rw [atKey_put_other (kI_ne e), atKey_of_not_has rfl]; unfold ways0; rw [if_neg e]
theorem keys_first : KeysIn ((DataW.map [] : DataW Unit).put (kI 0) (.lit (.int .i64 1))) 0 := fun s hs => by
  by_cases e : s = 0
  · omega
  · rw [has_put_other (kI_ne e)] at hs; cases hs
end Go.Proofs.Ytmhmekfbnaafmaa
