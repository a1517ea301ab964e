/-
  slices.insertionSortOrdered and reverseRangeOrdered at float32, for finite numbers.
-/
import Derived.Test.YthdnelfggmlalaaPdqP
import Derived.Test.YthdnelfggmlalaaStabW
import Derived.Test.YthdnelfggmlalaaGathS
namespace Go.Proofs.Ythdnelfggmlalaa
open Go.RowKit

attribute [local go_sem] run_store_float

def ltW (x y : Nat) : Bool := decide (val x < val y)
theorem ltW_less : Less ltW where
  asym := fun x y h => by
    unfold ltW at h ⊢
    have := of_decide_eq_true h
    exact decide_eq_false (by grind)
  tr := fun x y z h k => by
    unfold ltW at h k ⊢
    have h1 := of_decide_eq_false h
    have h2 := of_decide_eq_false k
    exact decide_eq_false (by grind)

/-- Block g holds a row of numbers, of the call's own. -/
def RowF (w : World) (g n c : Nat) (xs : List Nat) : Prop := w.ownsRow 0 56 1 (.slice (some ⟨g, 0, none⟩) n c) n (xs.map fV)
section
variable {w w' : World} {g n c i j : Nat} {x y : Nat} {xs : List Nat}
theorem RowF.lt (h : RowF w g n c xs) : g < w.heap.size := (World.ownsRow.lt h g rfl).2
theorem RowF.len (h : RowF w g n c xs) : xs.length = n := by
  have := h.1
  simpa using this
theorem RowF.at (h : RowF w g n c xs) (hx : xs[i]? = some x) : w.cell? ⟨g, i, none⟩ = some (fV x) := by
  have := World.ownsRow.cellAt h i (by rw [Nat.mul_one, ← h.len]; exact lt_of_get hx)
  rw [List.getElem?_map, hx, Option.map_some] at this
  exact this
theorem RowF.free (h : RowF w g n c xs) (i : Nat) : w.frozen? ⟨g, i, none⟩ = false := World.ownsRow.frozenAt h i
theorem RowF.put (h : RowF w g n c xs) (i : Nat) (x : Nat) : RowF (w.setCell ⟨g, i, none⟩ (fV x)) g n c (xs.set i x) := by
  unfold RowF
  rw [List.map_set]
  exact (World.ownsRow.stored (w := w) h i (fV x)).1
theorem RowF.drewN (h : RowF w g n c xs) (k : Nat) : RowF (w.drewN k) g n c xs := h
theorem RowF.drew (h : RowF w g n c xs) : RowF w.drew g n c xs := h
theorem RowF.sw (h : RowF w g n c xs) (i j x y : Nat) : RowF ((w.setCell ⟨g, i, none⟩ (fV y)).setCell ⟨g, j, none⟩ (fV x)) g n c (sw xs i j x y) := (h.put i y).put j x
end
/-- All numbers of a row are finite. -/
def Fins (xs : List Nat) : Prop := ∀ x ∈ xs, finB x = true
theorem Fins.perm {xs ys : List Nat} (h : Fins xs) (p : ys.Perm xs) : Fins ys := fun x hx => h x (p.mem_iff.1 hx)
theorem Fins.at {xs : List Nat} (h : Fins xs) {i x : Nat} (hx : xs[i]? = some x) : finB x = true := h x (List.mem_of_getElem? hx)
theorem eq_self {x : Nat} (hx : finB x = true) : (FloatKind.f32.format.order x x == some .eq) = true := by rw [eq_ord hx hx]; exact decide_eq_true rfl

theorem isNaN_any (x : Nat) (hx : finB x = true) (w : World) : Calls Try.prog 129 #[fV x] w fun e w' => e = .returned (.bool false) ∧ w = w' := by
  have h := eq_self hx
  have h2 : (FloatKind.f32.format.order x x != some .eq) = false := by rw [bne, h]; rfl
  go_enter Try.func129, Try.ntmps129
  go_wp2
  go_ret
  exact ⟨ret_bool rfl, rfl⟩
theorem less_any (x y : Nat) (hx : finB x = true) (hy : finB y = true) (w : World) : Calls Try.prog 111 #[fV x, fV y] w fun e w' => e = .returned (.bool (ltW x y)) ∧ w = w' := by
  have hl : Hid ((FloatKind.f32.format.order x y == some .lt) = ltW x y) := lt_ord hx hy
  have HX := Lib.hid hx
  have HY := Lib.hid hy
  clear hx hy
  go_enter Try.func111, Try.ntmps111
  go_wp2_with (go_at_call 129; first | (refine (isNaN_any x HX.out _).mono ?_; rintro e w' ⟨rfl, rfl⟩) | (refine (isNaN_any y HY.out _).mono ?_; rintro e w' ⟨rfl, rfl⟩))
  go_ret
  exact ⟨ret_bool hl.out, rfl⟩
/-- As a region asks for it. -/
theorem less_q {x y : Nat} (hx : finB x = true) (hy : finB y = true) (w : World) (k : Nat) : Calls Try.prog 111 #[fV x, fV y] (w.drewN k) fun e w'' => e = .returned (.bool (ltW x y)) ∧ ∃ m, w'' = w.drewN m := quiet_mine (less_any x y hx hy _)

/-- What a sort ends in. -/
def SortE (g n c a b : Nat) (xs : List Nat) (w : World) (e : Ending) (w' : World) : Prop :=
  e = .returned (.tuple #[]) ∧ ∃ ys, RowF w' g n c ys ∧ PR a b xs ys ∧ SR ltW a b ys ∧ Touch g (g + 1) w w'

/-! ### insertionSort -/
structure InsI (a i j : Nat) (zs : List Nat) : Prop where
  rest : ∀ p q x y, a ≤ p → p < q → q ≤ i → p ≠ j → q ≠ j → zs[p]? = some x → zs[q]? = some y → ltW y x = false
  up : ∀ q x y, j < q → q ≤ i → zs[j]? = some x → zs[q]? = some y → ltW y x = false
theorem InsI.start {a i : Nat} {zs : List Nat} (h : SR ltW a i zs) : InsI a i i zs :=
  ⟨fun p q x y h1 h2 h3 _ h5 => h p q x y h1 h2 (by omega), fun q x y h1 h2 => by omega⟩
theorem InsI.step {a i j : Nat} {zs : List Nat} {x y : Nat} (h : InsI a i (j + 1) zs) (hj : a ≤ j) (hi : j + 1 ≤ i) (hx : zs[j + 1]? = some x) (hy : zs[j]? = some y) (hl : ltW x y = true) : InsI a i j (sw zs (j + 1) j x y) := by
  constructor
  · intro p q u v h1 h2 h3 h4 h5 hu hv
    rw [sw_get hx hy, if_neg h4] at hu
    rw [sw_get hx hy, if_neg h5] at hv
    by_cases e1 : p = j + 1
    · subst e1
      rw [if_pos rfl] at hu
      cases hu
      rw [if_neg (by omega)] at hv
      exact h.rest j q _ v hj (by omega) h3 (by omega) (by omega) hy hv
    · rw [if_neg e1] at hu
      by_cases e2 : q = j + 1
      · subst e2
        rw [if_pos rfl] at hv
        cases hv
        exact h.rest p j u _ h1 (by omega) (by omega) e1 (by omega) hu hy
      · rw [if_neg e2] at hv
        exact h.rest p q u v h1 h2 h3 e1 e2 hu hv
  · intro q u v h1 h2 hu hv
    rw [sw_get hx hy, if_pos rfl] at hu
    cases hu
    rw [sw_get hx hy, if_neg (by omega)] at hv
    by_cases e2 : q = j + 1
    · subst e2
      rw [if_pos rfl] at hv
      cases hv
      exact ltW_less.asym _ _ hl
    · rw [if_neg e2] at hv
      exact h.up q x v (by omega) h2 hx hv
theorem InsI.done {a i j : Nat} {zs : List Nat} (h : InsI a i j zs) (hd : j = a ∨ ∀ x y, zs[j]? = some x → zs[j - 1]? = some y → ltW x y = false) (haj : a ≤ j) (hil : i < zs.length) : SR ltW a (i + 1) zs := by
  intro p q u v h1 h2 h3 hu hv
  by_cases e1 : q = j
  · subst e1
    rcases hd with e | hd
    · omega
    · obtain ⟨y, hy⟩ := get_ex (xs := zs) (i := q - 1) (by omega)
      have hvy := hd v y hv hy
      by_cases e2 : p = q - 1
      · subst e2
        rw [hu] at hy
        cases hy
        exact hvy
      · exact ltW_less.tr _ _ _ hvy (h.rest p (q - 1) u y h1 (by omega) (by omega) (by omega) (by omega) hu hy)
  · by_cases e2 : p = j
    · subst e2
      exact h.up q u v h2 (by omega) hu hv
    · exact h.rest p q u v h1 h2 (by omega) e2 e1 hu hv

/-- The facts that the exchange of two neighbours asks for. -/
theorem swap_cell {w : World} {g n c i j : Nat} {xs : List Nat} {y : Nat} {u : Value} (h : RowF w g n c xs) (hij : j ≠ i) (hy : xs[j]? = some y) : (w.setCell ⟨g, i, none⟩ u).cell? ⟨g, j, none⟩ = some (fV y) := by
  rw [World.cell?_setCell_other _ _ _ _ (by intro e; simp only [Addr.mk.injEq] at e; omega)]
  exact h.at hy

set_option maxHeartbeats 1600000 in
set_option maxRecDepth 100000 in
theorem insertionF_any (g n c a b : Nat) (xs : List Nat) (hab : a ≤ b) (hb : b ≤ n) (hn : n ≤ 1000000) (hF : Fins xs) (w : World) (hr : RowF w g n c xs) :
    Calls Try.prog 105 #[.slice (some ⟨g, 0, none⟩) n c, .int .i64 a, .int .i64 b] w (SortE g n c a b xs w) := by
  have HL := Lib.hid hr.len
  have HF := Lib.hid hF
  have HR := Lib.hid hr
  clear hF hr
  go_enter Try.func105, Try.ntmps105
  go_wp2
  go_loopw [6] (fun si wr => ∃ (i : Nat) (ys : List Nat), si = .int .i64 i ∧ a + 1 ≤ i ∧ (i ≤ b ∨ i = a + 1) ∧ Hid (PR a b xs ys) ∧ Hid (SR ltW a i ys) ∧ RowF wr g n c ys ∧ Touch g (g + 1) w wr) (fun si _ => b + 1 - (intOf si).toNat)
  case atStart => exact ⟨a + 1, xs, by go_num, Nat.le_refl _, .inr rfl, PR.refl _ _ _, SR.small (Nat.le_refl _), HR.out, touch_refl _ _ _⟩
  case round =>
    obtain ⟨i, ys, rfl, hi1, hi2, hp, hs, hR, hTo⟩ := hrel
    by_cases hlt : i < b
    · have HRY := Lib.hid hR
      clear hR
      go_wp2
      go_loopw [7] (fun sj wr => ∃ (j : Nat) (zs : List Nat), sj = .int .i64 j ∧ a ≤ j ∧ j ≤ i ∧ Hid (PR a b xs zs) ∧ Hid (InsI a i j zs) ∧ RowF wr g n c zs ∧ Touch g (g + 1) w wr) (fun sj _ => (intOf sj).toNat)
      case atStart => exact ⟨i, ys, rfl, by omega, Nat.le_refl _, hp, InsI.start hs.out, HRY.out, hTo⟩
      case round =>
        obtain ⟨j, zs, rfl, hja, hji, hpz, hI, hR, hTo2⟩ := hrel
        have hzl := Lib.hid (hpz.out.len.trans HL.out)
        by_cases hj0 : j = a
        · have HR2 := Lib.hid hR
          clear hR
          have hjaz : decide ((j : Int) > (a : Int)) = false := decide_eq_false (by omega)
          go_wp2_with fail
          go_quiet (fail)
          go_wp2
          go_roundw
          case rel => exact ⟨i + 1, zs, by go_num, by omega, .inl (by omega), hpz, hI.out.done (.inl hj0) hja (by rw [hzl.out]; omega), HR2.out.drewN _, touch_drewN hTo2 _⟩
          case measure => simp [intOf]; omega
        · obtain ⟨j', rfl⟩ : ∃ j', j = j' + 1 := ⟨j - 1, by omega⟩
          obtain ⟨x, hx⟩ := get_ex (xs := zs) (i := j' + 1) (by rw [hzl.out]; omega)
          obtain ⟨y, hy⟩ := get_ex (xs := zs) (i := j') (by rw [hzl.out]; omega)
          have c1 : wr.cell? ⟨g, j' + 1, none⟩ = some (fV x) := hR.at hx
          have c2 : wr.cell? ⟨g, j', none⟩ = some (fV y) := hR.at hy
          have fz := HF.out.perm hpz.out.perm
          have HCL := Lib.hid (less_q (fz.at hx) (fz.at hy) wr)
          have HR2 := Lib.hid hR
          have HX := Lib.hid hx
          have HY := Lib.hid hy
          have hjaz : decide ((j' : Int) + 1 > (a : Int)) = true := decide_eq_true (by omega)
          have hz0 : (0 : Int) ≤ (j' : Int) + 1 := by omega
          have hz1 : (j' : Int) + 1 < (n : Int) := by omega
          have hz2 : (j' : Int) < (n : Int) := by omega
          have hz3 : ((j' : Int) + 1).toNat = j' + 1 := by omega
          have hz4 : (j' : Int) + 1 - 1 = (j' : Int) := by omega
          have hz5 : (0 : Int) ≤ (j' : Int) := by omega
          have hz6 : IntKind.i64.wrap ((j' : Int)) = (j' : Int) := IntWalk.i64_in _ (by omega)
          clear hR hx hy fz
          cases hlc : ltW x y
          · have HLC := Lib.hid hlc
            go_wp2_with fail
            go_quiet (exact HCL.out _)
            go_wp2
            go_roundw
            case rel => exact ⟨i + 1, zs, by go_num, by omega, .inl (by omega), hpz, hI.out.done (.inr fun u v hu hv => by
                rw [HX.out] at hu
                rw [Nat.add_sub_cancel, HY.out] at hv
                cases hu
                cases hv
                exact HLC.out) hja (by rw [hzl.out]; omega), HR2.out.drewN _, touch_drewN hTo2 _⟩
            case measure => simp [intOf]; omega
          · have HLC := Lib.hid hlc
            go_wp2_with fail
            go_quiet (exact HCL.out _)
            go_wp2_with fail
            have hR3 := HR2.out.drewN nq
            have c1' := hR3.at HX.out
            have c2' := hR3.at HY.out
            have f1 := hR3.free j'
            have f2 := hR3.free (j' + 1)
            have hTT := touch_drewN hTo2 nq
            clear c1 c2
            generalize wr.drewN nq = w5 at hR3 c1' c2' f1 f2 hTT ⊢
            have c3 : (w5.setCell ⟨g, j' + 1, none⟩ (fV y)).cell? ⟨g, j', none⟩ = some (fV y) := swap_cell hR3 (by omega) HY.out
            have HS := Lib.hid (hR3.sw (j' + 1) j' x y)
            clear hR3
            go_region
            go_wp2
            go_roundw
            case rel => exact ⟨j', Go.Proofs.Ythdnelfggmlalaa.sw zs (j' + 1) j' x y, by go_num, by omega, by omega, hpz.out.trans (PR.sw HX.out HY.out (by omega) (by omega) (by omega) (by omega)), hI.out.step (by omega) (by omega) HX.out HY.out HLC.out, HS.out.drew, hTT.trans ((touch_swap _ _ _ _ _ _).trans (touch_drewN (touch_refl _ _ _) 1))⟩
            case measure => simp [intOf]
    · have HP := Lib.hid hp.out
      have hsb : SR ltW a b ys := by
        rcases hi2 with h | h
        · have e : i = b := by omega
          rw [← e]; exact hs.out
        · exact SR.small (by omega)
      have HS := Lib.hid hsb
      have HRY := Lib.hid hR
      clear hR hp hs hsb
      go_wp2
      refine bodyPost_ret (results_none rfl _ _ _) rfl ?_
      exact ⟨rfl, ys, HRY.out, HP.out, HS.out, hTo⟩
end Go.Proofs.Ythdnelfggmlalaa
