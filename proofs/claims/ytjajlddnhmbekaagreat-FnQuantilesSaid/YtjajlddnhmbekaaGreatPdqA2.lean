/-
  slices.insertionSortOrdered and reverseRangeOrdered at float32, for finite numbers.
  slices.reverseRangeOrdered, order2, median, choosePivot at float32, for finite numbers.
  slices.choosePivotOrdered at float32, for finite numbers.
  slices.siftDownOrdered and heapSortOrdered at float32, for finite numbers.
  slices.partitionEqualOrdered at float32, for finite numbers.
  slices.partitionOrdered at float32, for finite numbers.
-/
import Derived.Test.YtjajlddnhmbekaaGreatPdqP
import Derived.Test.YtjajlddnhmbekaaGreatStabW
import Derived.Test.YtjajlddnhmbekaaGreatGathS
import Derived.Deep.DeepCutAuto
import Derived.Deep.CutBlock
namespace Go.Proofs.YtjajlddnhmbekaaGreat
section
open Go.RowKit

attribute [local go_sem] run_store_float

def ltW (x y : Nat) : Bool := decide (val x < val y)
theorem ltW_less : Less ltW where
  asym := fun x y h => by
    unfold ltW at h ⊢
    have := of_decide_eq_true h
    exact decide_eq_false (by grind)
  tr := fun x y z h k => by
    unfold ltW at h k ⊢
    have h1 := of_decide_eq_false h
    have h2 := of_decide_eq_false k
    exact decide_eq_false (by grind)

/-- Block g holds a row of numbers, of the call's own. -/
def RowF (w : World) (g n c : Nat) (xs : List Nat) : Prop := w.ownsRow 0 28 1 (.slice (some ⟨g, 0, none⟩) n c) n (xs.map fV)
section
variable {w w' : World} {g n c i j : Nat} {x y : Nat} {xs : List Nat}
theorem RowF.lt (h : RowF w g n c xs) : g < w.heap.size := (World.ownsRow.lt h g rfl).2
theorem RowF.len (h : RowF w g n c xs) : xs.length = n := by
  have := h.1
  simpa using this
theorem RowF.at (h : RowF w g n c xs) (hx : xs[i]? = some x) : w.cell? ⟨g, i, none⟩ = some (fV x) := by
  have := World.ownsRow.cellAt h i (by rw [Nat.mul_one, ← h.len]; exact lt_of_get hx)
  rw [List.getElem?_map, hx, Option.map_some] at this
  exact this
theorem RowF.free (h : RowF w g n c xs) (i : Nat) : w.frozen? ⟨g, i, none⟩ = false := World.ownsRow.frozenAt h i
theorem RowF.put (h : RowF w g n c xs) (i : Nat) (x : Nat) : RowF (w.setCell ⟨g, i, none⟩ (fV x)) g n c (xs.set i x) := by
  unfold RowF
  rw [List.map_set]
  exact (World.ownsRow.stored (w := w) h i (fV x)).1
theorem RowF.drewN (h : RowF w g n c xs) (k : Nat) : RowF (w.drewN k) g n c xs := h
theorem RowF.drew (h : RowF w g n c xs) : RowF w.drew g n c xs := h
theorem RowF.sw (h : RowF w g n c xs) (i j x y : Nat) : RowF ((w.setCell ⟨g, i, none⟩ (fV y)).setCell ⟨g, j, none⟩ (fV x)) g n c (sw xs i j x y) := (h.put i y).put j x
end
/-- All numbers of a row are finite. -/
def Fins (xs : List Nat) : Prop := ∀ x ∈ xs, finB x = true
theorem Fins.perm {xs ys : List Nat} (h : Fins xs) (p : ys.Perm xs) : Fins ys := fun x hx => h x (p.mem_iff.1 hx)
theorem Fins.at {xs : List Nat} (h : Fins xs) {i x : Nat} (hx : xs[i]? = some x) : finB x = true := h x (List.mem_of_getElem? hx)
theorem eq_self {x : Nat} (hx : finB x = true) : (FloatKind.f32.format.order x x == some .eq) = true := by rw [eq_ord hx hx]; exact decide_eq_true rfl

theorem isNaN_any (x : Nat) (hx : finB x = true) (w : World) : Calls Tryz.prog 79 #[fV x] w fun e w' => e = .returned (.bool false) ∧ w = w' := by
  have h := eq_self hx
  have h2 : (FloatKind.f32.format.order x x != some .eq) = false := by rw [bne, h]; rfl
  go_enter Tryz.func79, Tryz.ntmps79
  go_wp2
  go_ret
  exact ⟨ret_bool rfl, rfl⟩
theorem less_any (x y : Nat) (hx : finB x = true) (hy : finB y = true) (w : World) : Calls Tryz.prog 95 #[fV x, fV y] w fun e w' => e = .returned (.bool (ltW x y)) ∧ w = w' := by
  have hl : Hid ((FloatKind.f32.format.order x y == some .lt) = ltW x y) := lt_ord hx hy
  have HX := Lib.hid hx
  have HY := Lib.hid hy
  clear hx hy
  go_enter Tryz.func95, Tryz.ntmps95
  go_wp2_with (go_at_call 79; first | (refine (isNaN_any x HX.out _).mono ?_; rintro e w' ⟨rfl, rfl⟩) | (refine (isNaN_any y HY.out _).mono ?_; rintro e w' ⟨rfl, rfl⟩))
  go_ret
  exact ⟨ret_bool hl.out, rfl⟩
/-- As a region asks for it. -/
theorem less_q {x y : Nat} (hx : finB x = true) (hy : finB y = true) (w : World) (k : Nat) : Calls Tryz.prog 95 #[fV x, fV y] (w.drewN k) fun e w'' => e = .returned (.bool (ltW x y)) ∧ ∃ m, w'' = w.drewN m := quiet_mine (less_any x y hx hy _)

/-- What a sort ends in. -/
def SortE (g n c a b : Nat) (xs : List Nat) (w : World) (e : Ending) (w' : World) : Prop :=
  e = .returned (.tuple #[]) ∧ ∃ ys, RowF w' g n c ys ∧ PR a b xs ys ∧ SR ltW a b ys ∧ Touch g (g + 1) w w'

/-! ### insertionSort -/
structure InsI (a i j : Nat) (zs : List Nat) : Prop where
  rest : ∀ p q x y, a ≤ p → p < q → q ≤ i → p ≠ j → q ≠ j → zs[p]? = some x → zs[q]? = some y → ltW y x = false
  up : ∀ q x y, j < q → q ≤ i → zs[j]? = some x → zs[q]? = some y → ltW y x = false
theorem InsI.start {a i : Nat} {zs : List Nat} (h : SR ltW a i zs) : InsI a i i zs :=
  ⟨fun p q x y h1 h2 h3 _ h5 => h p q x y h1 h2 (by omega), fun q x y h1 h2 => by omega⟩
theorem InsI.step {a i j : Nat} {zs : List Nat} {x y : Nat} (h : InsI a i (j + 1) zs) (hj : a ≤ j) (hi : j + 1 ≤ i) (hx : zs[j + 1]? = some x) (hy : zs[j]? = some y) (hl : ltW x y = true) : InsI a i j (sw zs (j + 1) j x y) := by
  constructor
  · intro p q u v h1 h2 h3 h4 h5 hu hv
    rw [sw_get hx hy, if_neg h4] at hu
    rw [sw_get hx hy, if_neg h5] at hv
    by_cases e1 : p = j + 1
    · subst e1
      rw [if_pos rfl] at hu
      cases hu
      rw [if_neg (by omega)] at hv
      exact h.rest j q _ v hj (by omega) h3 (by omega) (by omega) hy hv
    · rw [if_neg e1] at hu
      by_cases e2 : q = j + 1
      · subst e2
        rw [if_pos rfl] at hv
        cases hv
        exact h.rest p j u _ h1 (by omega) (by omega) e1 (by omega) hu hy
      · rw [if_neg e2] at hv
        exact h.rest p q u v h1 h2 h3 e1 e2 hu hv
  · intro q u v h1 h2 hu hv
    rw [sw_get hx hy, if_pos rfl] at hu
    cases hu
    rw [sw_get hx hy, if_neg (by omega)] at hv
    by_cases e2 : q = j + 1
    · subst e2
      rw [if_pos rfl] at hv
      cases hv
      exact ltW_less.asym _ _ hl
    · rw [if_neg e2] at hv
      exact h.up q x v (by omega) h2 hx hv
theorem InsI.done {a i j : Nat} {zs : List Nat} (h : InsI a i j zs) (hd : j = a ∨ ∀ x y, zs[j]? = some x → zs[j - 1]? = some y → ltW x y = false) (haj : a ≤ j) (hil : i < zs.length) : SR ltW a (i + 1) zs := by
  intro p q u v h1 h2 h3 hu hv
  by_cases e1 : q = j
  · subst e1
    rcases hd with e | hd
    · omega
    · obtain ⟨y, hy⟩ := get_ex (xs := zs) (i := q - 1) (by omega)
      have hvy := hd v y hv hy
      by_cases e2 : p = q - 1
      · subst e2
        rw [hu] at hy
        cases hy
        exact hvy
      · exact ltW_less.tr _ _ _ hvy (h.rest p (q - 1) u y h1 (by omega) (by omega) (by omega) (by omega) hu hy)
  · by_cases e2 : p = j
    · subst e2
      exact h.up q u v h2 (by omega) hu hv
    · exact h.rest p q u v h1 h2 (by omega) e2 e1 hu hv

/-- The facts that the exchange of two neighbours asks for. -/
theorem swap_cell {w : World} {g n c i j : Nat} {xs : List Nat} {y : Nat} {u : Value} (h : RowF w g n c xs) (hij : j ≠ i) (hy : xs[j]? = some y) : (w.setCell ⟨g, i, none⟩ u).cell? ⟨g, j, none⟩ = some (fV y) := by
  rw [World.cell?_setCell_other _ _ _ _ (by intro e; simp only [Addr.mk.injEq] at e; omega)]
  exact h.at hy

set_option maxHeartbeats 1600000 in
set_option maxRecDepth 100000 in
theorem insertionF_any (g n c a b : Nat) (xs : List Nat) (hab : a ≤ b) (hb : b ≤ n) (hn : n ≤ 1000000) (hF : Fins xs) (w : World) (hr : RowF w g n c xs) :
    Calls Tryz.prog 89 #[.slice (some ⟨g, 0, none⟩) n c, .int .i64 a, .int .i64 b] w (SortE g n c a b xs w) := by
  have HL := Lib.hid hr.len
  have HF := Lib.hid hF
  have HR := Lib.hid hr
  clear hF hr
  go_enter Tryz.func89, Tryz.ntmps89
  go_wp2
  go_loopw [6] (fun si wr => ∃ (i : Nat) (ys : List Nat), si = .int .i64 i ∧ a + 1 ≤ i ∧ (i ≤ b ∨ i = a + 1) ∧ Hid (PR a b xs ys) ∧ Hid (SR ltW a i ys) ∧ RowF wr g n c ys ∧ Touch g (g + 1) w wr) (fun si _ => b + 1 - (intOf si).toNat)
  case atStart => exact ⟨a + 1, xs, by go_num, Nat.le_refl _, .inr rfl, PR.refl _ _ _, SR.small (Nat.le_refl _), HR.out, touch_refl _ _ _⟩
  case round =>
    obtain ⟨i, ys, rfl, hi1, hi2, hp, hs, hR, hTo⟩ := hrel
    by_cases hlt : i < b
    · have HRY := Lib.hid hR
      clear hR
      go_wp2
      go_loopw [7] (fun sj wr => ∃ (j : Nat) (zs : List Nat), sj = .int .i64 j ∧ a ≤ j ∧ j ≤ i ∧ Hid (PR a b xs zs) ∧ Hid (InsI a i j zs) ∧ RowF wr g n c zs ∧ Touch g (g + 1) w wr) (fun sj _ => (intOf sj).toNat)
      case atStart => exact ⟨i, ys, rfl, by omega, Nat.le_refl _, hp, InsI.start hs.out, HRY.out, hTo⟩
      case round =>
        obtain ⟨j, zs, rfl, hja, hji, hpz, hI, hR, hTo2⟩ := hrel
        have hzl := Lib.hid (hpz.out.len.trans HL.out)
        by_cases hj0 : j = a
        · have HR2 := Lib.hid hR
          clear hR
          have hjaz : decide ((j : Int) > (a : Int)) = false := decide_eq_false (by omega)
          go_wp2_with fail
          go_quiet (fail)
          go_wp2
          go_roundw
          case rel => exact ⟨i + 1, zs, by go_num, by omega, .inl (by omega), hpz, hI.out.done (.inl hj0) hja (by rw [hzl.out]; omega), HR2.out.drewN _, touch_drewN hTo2 _⟩
          case measure => simp [intOf]; omega
        · obtain ⟨j', rfl⟩ : ∃ j', j = j' + 1 := ⟨j - 1, by omega⟩
          obtain ⟨x, hx⟩ := get_ex (xs := zs) (i := j' + 1) (by rw [hzl.out]; omega)
          obtain ⟨y, hy⟩ := get_ex (xs := zs) (i := j') (by rw [hzl.out]; omega)
          have c1 : wr.cell? ⟨g, j' + 1, none⟩ = some (fV x) := hR.at hx
          have c2 : wr.cell? ⟨g, j', none⟩ = some (fV y) := hR.at hy
          have fz := HF.out.perm hpz.out.perm
          have HCL := Lib.hid (less_q (fz.at hx) (fz.at hy) wr)
          have HR2 := Lib.hid hR
          have HX := Lib.hid hx
          have HY := Lib.hid hy
          have hjaz : decide ((j' : Int) + 1 > (a : Int)) = true := decide_eq_true (by omega)
          have hz0 : (0 : Int) ≤ (j' : Int) + 1 := by omega
          have hz1 : (j' : Int) + 1 < (n : Int) := by omega
          have hz2 : (j' : Int) < (n : Int) := by omega
          have hz3 : ((j' : Int) + 1).toNat = j' + 1 := by omega
          have hz4 : (j' : Int) + 1 - 1 = (j' : Int) := by omega
          have hz5 : (0 : Int) ≤ (j' : Int) := by omega
          have hz6 : IntKind.i64.wrap ((j' : Int)) = (j' : Int) := IntWalk.i64_in _ (by omega)
          clear hR hx hy fz
          cases hlc : ltW x y
          · have HLC := Lib.hid hlc
            go_wp2_with fail
            go_quiet (exact HCL.out _)
            go_wp2
            go_roundw
            case rel => exact ⟨i + 1, zs, by go_num, by omega, .inl (by omega), hpz, hI.out.done (.inr fun u v hu hv => by
                rw [HX.out] at hu
                rw [Nat.add_sub_cancel, HY.out] at hv
                cases hu
                cases hv
                exact HLC.out) hja (by rw [hzl.out]; omega), HR2.out.drewN _, touch_drewN hTo2 _⟩
            case measure => simp [intOf]; omega
          · have HLC := Lib.hid hlc
            go_wp2_with fail
            go_quiet (exact HCL.out _)
            go_wp2_with fail
            have hR3 := HR2.out.drewN nq
            have c1' := hR3.at HX.out
            have c2' := hR3.at HY.out
            have f1 := hR3.free j'
            have f2 := hR3.free (j' + 1)
            have hTT := touch_drewN hTo2 nq
            clear c1 c2
            generalize wr.drewN nq = w5 at hR3 c1' c2' f1 f2 hTT ⊢
            have c3 : (w5.setCell ⟨g, j' + 1, none⟩ (fV y)).cell? ⟨g, j', none⟩ = some (fV y) := swap_cell hR3 (by omega) HY.out
            have HS := Lib.hid (hR3.sw (j' + 1) j' x y)
            clear hR3
            go_region
            go_wp2
            go_roundw
            case rel => exact ⟨j', Go.Proofs.YtjajlddnhmbekaaGreat.sw zs (j' + 1) j' x y, by go_num, by omega, by omega, hpz.out.trans (PR.sw HX.out HY.out (by omega) (by omega) (by omega) (by omega)), hI.out.step (by omega) (by omega) HX.out HY.out HLC.out, HS.out.drew, hTT.trans ((touch_swap _ _ _ _ _ _).trans (touch_drewN (touch_refl _ _ _) 1))⟩
            case measure => simp [intOf]
    · have HP := Lib.hid hp.out
      have hsb : SR ltW a b ys := by
        rcases hi2 with h | h
        · have e : i = b := by omega
          rw [← e]; exact hs.out
        · exact SR.small (by omega)
      have HS := Lib.hid hsb
      have HRY := Lib.hid hR
      clear hR hp hs hsb
      go_wp2
      refine bodyPost_ret (results_none rfl _ _ _) rfl ?_
      exact ⟨rfl, ys, HRY.out, HP.out, HS.out, hTo⟩
end

section
section
open Go.RowKit
attribute [local go_sem] run_store_float

/-- What a call that moves a range about ends in. -/
def MoveE (g n c a b : Nat) (xs : List Nat) (w : World) (e : Ending) (w' : World) : Prop :=
  e = .returned (.tuple #[]) ∧ ∃ ys, RowF w' g n c ys ∧ PR a b xs ys ∧ Touch g (g + 1) w w'

set_option maxHeartbeats 1600000 in
set_option maxRecDepth 100000 in
theorem reverseF_any (g n c a b : Nat) (xs : List Nat) (hab : a ≤ b) (hb : b ≤ n) (hn : n ≤ 1000000) (w : World) (hr : RowF w g n c xs) :
    Calls Tryz.prog 93 #[.slice (some ⟨g, 0, none⟩) n c, .int .i64 a, .int .i64 b] w (MoveE g n c a b xs w) := by
  have HL := Lib.hid hr.len
  have HR := Lib.hid hr
  clear hr
  go_enter Tryz.func93, Tryz.ntmps93
  go_wp2
  go_loopw [6, 7] (fun si sj wr => ∃ (i : Nat) (J : Int) (ys : List Nat), si = .int .i64 i ∧ sj = .int .i64 J ∧ a ≤ i ∧ i ≤ b ∧ -1 ≤ J ∧ J < b ∧ Hid (PR a b xs ys) ∧ RowF wr g n c ys ∧ Touch g (g + 1) w wr) (fun si _ _ => b + 1 - (intOf si).toNat)
  case atStart => exact ⟨a, (b : Int) - 1, xs, rfl, by go_num, Nat.le_refl _, hab, by omega, by omega, PR.refl _ _ _, HR.out, touch_refl _ _ _⟩
  case round =>
    obtain ⟨i, J, ys, rfl, rfl, hi1, hi2, hJ1, hJ2, hp, hR, hTo⟩ := hrel
    by_cases hlt : (i : Int) < J
    · obtain ⟨j, rfl⟩ : ∃ j : Nat, J = j := ⟨J.toNat, by omega⟩
      have hzl := hp.out.len.trans HL.out
      obtain ⟨x, hx⟩ := get_ex (xs := ys) (i := i) (by omega)
      obtain ⟨y, hy⟩ := get_ex (xs := ys) (i := j) (by omega)
      have c1 : wr.cell? ⟨g, i, none⟩ = some (fV x) := hR.at hx
      have c2 : wr.cell? ⟨g, j, none⟩ = some (fV y) := hR.at hy
      have f1 := hR.free i
      have f2 := hR.free j
      have c3 : (wr.setCell ⟨g, i, none⟩ (fV y)).cell? ⟨g, j, none⟩ = some (fV y) := swap_cell hR (by omega) hy
      have hz1 : (i : Int) < (n : Int) := by omega
      have hz2 : (j : Int) < (n : Int) := by omega
      have hz3 : (0 : Int) ≤ (i : Int) := by omega
      have hz4 : (0 : Int) ≤ (j : Int) := by omega
      have HS := Lib.hid (hR.sw i j x y)
      have HX := Lib.hid hx
      have HY := Lib.hid hy
      clear hR hzl hx hy
      go_wp2
      go_region
      go_wp2
      go_roundw
      case rel => exact ⟨i + 1, (j : Int) - 1, Go.Proofs.YtjajlddnhmbekaaGreat.sw ys i j x y, by go_num, by go_num, by omega, by omega, by omega, by omega, hp.out.trans (PR.sw HX.out HY.out (by omega) (by omega) (by omega) (by omega)), HS.out.drew, hTo.trans ((touch_swap _ _ _ _ _ _).trans (touch_drewN (touch_refl _ _ _) 1))⟩
      case measure => simp [intOf]; omega
    · have HRY := Lib.hid hR
      clear hR
      go_wp2
      refine bodyPost_ret (results_none rfl _ _ _) rfl ?_
      exact ⟨rfl, ys, HRY.out, hp.out, hTo⟩

theorem RowF.touch {w w' : World} {g n c lo hi : Nat} {xs : List Nat} (h : RowF w g n c xs) (t : Touch lo hi w w') (hd : g < lo ∨ hi ≤ g) : RowF w' g n c xs := by
  have hb : w'.heap[g]? = w.heap[g]? := t.block g h.lt (by omega)
  refine ⟨h.1, ?_⟩
  rcases h.2 with ⟨e, _⟩ | ⟨g', cap, cur, e, h1, h2, rest⟩
  · cases e
  · cases e
    exact .inr ⟨g, c, cur, rfl, h1, hb.trans h2, rest⟩
theorem RowF.below {w w' : World} {g n c B : Nat} {xs : List Nat} (h : RowF w g n c xs) (t : Below B w w') (hd : g < B) : RowF w' g n c xs := by
  have hb : w'.heap[g]? = w.heap[g]? := t.block g hd
  refine ⟨h.1, ?_⟩
  rcases h.2 with ⟨e, _⟩ | ⟨g', cap, cur, e, h1, h2, rest⟩
  · cases e
  · cases e
    exact .inr ⟨g, c, cur, rfl, h1, hb.trans h2, rest⟩

/-! ### the choice of the pivot -/
def Ord2 (a b q k : Nat) (w : World) (e : Ending) (w' : World) : Prop :=
  ∃ p r k' : Nat, e = .returned (.tuple #[.int .i64 p, .int .i64 r]) ∧ (p = a ∧ r = b ∨ p = b ∧ r = a) ∧ BoxAt w' q [.int .i64 k'] ∧ k' ≤ k + 1 ∧ Touch q (q + 1) w w'
set_option maxRecDepth 100000 in
theorem order2_any (g n c a b q k : Nat) (xs : List Nat) (ha : a < n) (hb : b < n) (_hn : n ≤ 1000000) (hk : k ≤ 1000) (hF : Fins xs) (w : World) (hr : RowF w g n c xs) (hB : BoxAt w q [.int .i64 k]) :
    Calls Tryz.prog 107 #[.slice (some ⟨g, 0, none⟩) n c, .int .i64 a, .int .i64 b, .pointer (some ⟨q, 0, none⟩)] w (Ord2 a b q k w) := by
  have hl := hr.len
  obtain ⟨x, hx⟩ := get_ex (xs := xs) (i := a) (by omega)
  obtain ⟨y, hy⟩ := get_ex (xs := xs) (i := b) (by omega)
  have c1 : w.cell? ⟨g, a, none⟩ = some (fV x) := hr.at hx
  have c2 : w.cell? ⟨g, b, none⟩ = some (fV y) := hr.at hy
  have HCL := Lib.hid (less_q (hF.at hy) (hF.at hx) w)
  have hz1 : (a : Int) < (n : Int) := by omega
  have hz2 : (b : Int) < (n : Int) := by omega
  have hz3 : (0 : Int) ≤ (a : Int) := by omega
  have hz4 : (0 : Int) ≤ (b : Int) := by omega
  have HB := Lib.hid hB
  clear hr hF hx hy hl hB
  go_enter Tryz.func107, Tryz.ntmps107
  go_wp2
  go_quiet (exact HCL.out _)
  have hB2 : BoxAt (w.drewN nq) q [.int .i64 k] := HB.out.below (below_drewN_ (Below.refl _ _))
  have HT : Hid (Touch q (q + 1) w (w.drewN nq)) := touch_drewN (touch_refl _ _ _) _
  generalize w.drewN nq = w2 at *
  clear c1 c2 HCL HB
  cases hlc : ltW y x
  · go_wp2
    go_ret2
    exact ⟨a, b, k, rfl, .inl ⟨rfl, rfl⟩, hB2, by omega, HT.out⟩
  · have d0 := hB2.cell 0 _ rfl
    have d1 := hB2.free 0
    have HS := Lib.hid (hB2.set (i := 0) rfl (.int .i64 (k + 1 : Nat)))
    clear hB2
    go_wp2
    go_ret2
    exact ⟨b, a, k + 1, rfl, .inr ⟨rfl, rfl⟩, HS.out, by omega, HT.out.trans (Touch.setCell _ ⟨q, 0, none⟩ _)⟩

def Med (a b d q k m : Nat) (w : World) (e : Ending) (w' : World) : Prop :=
  ∃ p k' : Nat, e = .returned (.int .i64 p) ∧ (p = a ∨ p = b ∨ p = d) ∧ BoxAt w' q [.int .i64 k'] ∧ k' ≤ k + m ∧ Touch q (q + 1) w w'
set_option maxRecDepth 100000 in
theorem median_any (g n c a b d q k : Nat) (xs : List Nat) (ha : a < n) (hb : b < n) (hd : d < n) (hn : n ≤ 1000000) (hk : k ≤ 900) (hF : Fins xs) (w : World) (hr : RowF w g n c xs) (hB : BoxAt w q [.int .i64 k]) (hgq : g ≠ q) :
    Calls Tryz.prog 105 #[.slice (some ⟨g, 0, none⟩) n c, .int .i64 a, .int .i64 b, .int .i64 d, .pointer (some ⟨q, 0, none⟩)] w (Med a b d q k 3 w) := by
  have HF := Lib.hid hF
  have HR := Lib.hid hr
  have HB := Lib.hid hB
  clear hF hr hB
  go_enter Tryz.func105, Tryz.ntmps105
  go_wp2_with fail
  refine (order2_any g n c a b q k xs ha hb hn (by omega) HF.out _ HR.out HB.out).mono ?_
  rintro e w1 ⟨p1, r1, k1, rfl, h1, b1, e1, t1⟩
  have R1 := HR.out.touch t1 (by omega)
  go_wp2_with fail
  refine (order2_any g n c r1 d q k1 xs (by omega) hd hn (by omega) HF.out _ R1 b1).mono ?_
  rintro e w2 ⟨p2, r2, k2, rfl, h2, b2, e2, t2⟩
  have R2 := R1.touch t2 (by omega)
  go_wp2_with fail
  refine (order2_any g n c p1 p2 q k2 xs (by omega) (by omega) hn (by omega) HF.out _ R2 b2).mono ?_
  rintro e w3 ⟨p3, r3, k3, rfl, h3, b3, e3, t3⟩
  go_wp2
  go_ret
  exact ⟨r3, k3, rfl, by omega, b3, by omega, (t1.trans t2).trans t3⟩
set_option maxRecDepth 100000 in
theorem medianAdj_any (g n c a q k : Nat) (xs : List Nat) (ha0 : 1 ≤ a) (ha : a + 1 < n) (hn : n ≤ 1000000) (hk : k ≤ 900) (hF : Fins xs) (w : World) (hr : RowF w g n c xs) (hB : BoxAt w q [.int .i64 k]) (hgq : g ≠ q) :
    Calls Tryz.prog 104 #[.slice (some ⟨g, 0, none⟩) n c, .int .i64 a, .pointer (some ⟨q, 0, none⟩)] w (Med (a - 1) a (a + 1) q k 3 w) := by
  obtain ⟨a', rfl⟩ : ∃ a', a = a' + 1 := ⟨a - 1, by omega⟩
  have HF := Lib.hid hF
  have HR := Lib.hid hr
  have HB := Lib.hid hB
  clear hF hr hB
  have h1 : ((a' + 1 : Nat) : Int) - 1 = (a' : Int) := by omega
  have h2 : ((a' + 1 : Nat) : Int) + 1 = ((a' + 2 : Nat) : Int) := by omega
  go_enter Tryz.func104, Tryz.ntmps104
  go_wp2_with (go_at_call 105; go_loud (refine (median_any g n c a' (a' + 1) (a' + 2) q k xs (by omega) (by omega) (by omega) hn hk HF.out _ HR.out HB.out hgq).mono ?_); rintro e w' ⟨p, k', rfl, h, b, e, t⟩)
  go_ret
  exact ⟨p, k', rfl, h, b, e, t⟩
end

section
open Go.RowKit
attribute [local go_sem] run_store_float

def PivE (a b : Nat) (w : World) (e : Ending) (w' : World) : Prop :=
  ∃ p h : Nat, e = .returned (.tuple #[.int .i64 p, .int .i64 h]) ∧ a ≤ p ∧ p < b ∧ h ≤ 2 ∧ Below w.heap.size w w'
set_option maxHeartbeats 1600000 in
set_option maxRecDepth 100000 in
theorem choosePivot_any (g n c a b : Nat) (xs : List Nat) (hab : a + 12 < b) (hb : b ≤ n) (hn : n ≤ 1000000) (hF : Fins xs) (w : World) (hr : RowF w g n c xs) :
    Calls Tryz.prog 92 #[.slice (some ⟨g, 0, none⟩) n c, .int .i64 a, .int .i64 b] w (PivE a b w) := by
  have HF := Lib.hid hF
  have HR := Lib.hid hr
  have hgl := hr.lt
  clear hF hr
  obtain ⟨L, hL⟩ : ∃ L, L = b - a := ⟨_, rfl⟩
  obtain ⟨Q, hQ⟩ : ∃ Q, Q = L / 4 := ⟨_, rfl⟩
  obtain ⟨i, hi⟩ : ∃ i, i = a + Q := ⟨_, rfl⟩
  obtain ⟨j, hj⟩ : ∃ j, j = a + Q * 2 := ⟨_, rfl⟩
  obtain ⟨k, hk⟩ : ∃ k, k = a + Q * 3 := ⟨_, rfl⟩
  have hL1 : (b : Int) - (a : Int) = (L : Int) := by omega
  have hL8 : 8 ≤ L := by omega
  have hQ4 : (L : Int) / 4 = (Q : Int) := by omega
  have ei : (a : Int) + (Q : Int) = (i : Int) := by omega
  have ej : (a : Int) + (Q : Int) * 2 = (j : Int) := by omega
  have ek : (a : Int) + (Q : Int) * 3 = (k : Int) := by omega
  have hQ3 : 3 ≤ Q := by omega
  have bi : a + 3 ≤ i ∧ i + 3 ≤ b := by omega
  have bj : a + 3 ≤ j ∧ j + 3 ≤ b := by omega
  have bk : a + 3 ≤ k ∧ k + 3 ≤ b := by omega
  clear hL hQ hi hj hk
  have hB0 : BoxAt (w.alloc (.cells #[.int .i64 0] 3)) w.heap.size [.int .i64 ((0 : Nat) : Int)] := BoxAt.new w _ _
  have HR0 : Hid (RowF (w.alloc (.cells #[.int .i64 0] 3)) g n c xs) := HR.out.below (below_alloc w _) hgl
  by_cases h50 : 50 ≤ L
  · go_enter Tryz.func92, Tryz.ntmps92
    go_wp2_with fail
    refine (medianAdj_any g n c i w.heap.size 0 xs (by omega) (by omega) hn (by omega) HF.out _ HR0.out hB0 (by omega)).mono ?_
    rintro e w1 ⟨p1, k1, rfl, h1, b1, e1, t1⟩
    have R1 := HR0.out.touch t1 (by omega)
    go_wp2_with fail
    refine (medianAdj_any g n c j w.heap.size k1 xs (by omega) (by omega) hn (by omega) HF.out _ R1 b1 (by omega)).mono ?_
    rintro e w2 ⟨p2, k2, rfl, h2, b2, e2, t2⟩
    have R2 := R1.touch t2 (by omega)
    go_wp2_with fail
    refine (medianAdj_any g n c k w.heap.size k2 xs (by omega) (by omega) hn (by omega) HF.out _ R2 b2 (by omega)).mono ?_
    rintro e w3 ⟨p3, k3, rfl, h3, b3, e3, t3⟩
    have R3 := R2.touch t3 (by omega)
    go_wp2_with fail
    refine (median_any g n c p1 p2 p3 w.heap.size k3 xs (by omega) (by omega) (by omega) hn (by omega) HF.out _ R3 b3 (by omega)).mono ?_
    rintro e w9 ⟨p9, k9, rfl, h9, b9, e9, t4⟩
    have t9 := ((t1.trans t2).trans t3).trans t4
    clear R1 R2 R3 b1 b2 b3 hB0 t1 t2 t3 t4
    have d0 := b9.cell 0 _ rfl
    have hlt9 := b9.lt
    have HP : Hid (a ≤ p9 ∧ p9 < b) := ⟨by omega, by omega⟩
    have HBE : Hid (Below w.heap.size w w9) := (below_alloc w _).trans (t9.below (Nat.le_refl _) (by simp))
    clear b9 t9 h9
    by_cases e0 : k9 = 0
    · subst e0
      go_wp2
      go_ret2
      exact ⟨p9, 1, rfl, HP.out.1, HP.out.2, by omega, HBE.out⟩
    by_cases e12 : k9 = 12
    · subst e12
      go_wp2
      go_ret2
      exact ⟨p9, 2, rfl, HP.out.1, HP.out.2, by omega, HBE.out⟩
    have g0 : ((k9 : Int) == 0) = false := beq_eq_false_iff_ne.2 (by omega)
    have g1 : ((k9 : Int) == 12) = false := beq_eq_false_iff_ne.2 (by omega)
    go_wp2
    go_ret2
    exact ⟨p9, 0, rfl, HP.out.1, HP.out.2, by omega, HBE.out⟩
  · go_enter Tryz.func92, Tryz.ntmps92
    go_wp2_with fail
    refine (median_any g n c i j k w.heap.size 0 xs (by omega) (by omega) (by omega) hn (by omega) HF.out _ HR0.out hB0 (by omega)).mono ?_
    rintro e w9 ⟨p9, k9, rfl, h9, b9, e9, t9⟩
    clear hB0
    have d0 := b9.cell 0 _ rfl
    have hlt9 := b9.lt
    have HP : Hid (a ≤ p9 ∧ p9 < b) := ⟨by omega, by omega⟩
    have HBE : Hid (Below w.heap.size w w9) := (below_alloc w _).trans (t9.below (Nat.le_refl _) (by simp))
    clear b9 t9 h9
    by_cases e0 : k9 = 0
    · subst e0
      go_wp2
      go_ret2
      exact ⟨p9, 1, rfl, HP.out.1, HP.out.2, by omega, HBE.out⟩
    by_cases e12 : k9 = 12
    · subst e12
      go_wp2
      go_ret2
      exact ⟨p9, 2, rfl, HP.out.1, HP.out.2, by omega, HBE.out⟩
    have g0 : ((k9 : Int) == 0) = false := beq_eq_false_iff_ne.2 (by omega)
    have g1 : ((k9 : Int) == 12) = false := beq_eq_false_iff_ne.2 (by omega)
    go_wp2
    go_ret2
    exact ⟨p9, 0, rfl, HP.out.1, HP.out.2, by omega, HBE.out⟩
end
end

section
open Go.RowKit
attribute [local go_sem] run_store_float

def SiftE (g n c f lo hi : Nat) (xs : List Nat) (w : World) (e : Ending) (w' : World) : Prop :=
  e = .returned (.tuple #[]) ∧ ∃ ys, RowF w' g n c ys ∧ PR f (f + hi) xs ys ∧ HeapR ltW f lo hi ys ∧ Touch g (g + 1) w w'
set_option maxHeartbeats 3200000 in
set_option maxRecDepth 100000 in
theorem sift_any (g n c f lo hi : Nat) (xs : List Nat) (hlo : lo ≤ 1000000) (hfh : f + hi ≤ n) (hn : n ≤ 1000000) (hF : Fins xs) (hH : HeapR ltW f (lo + 1) hi xs) (w : World) (hr : RowF w g n c xs) :
    Calls Tryz.prog 101 #[.slice (some ⟨g, 0, none⟩) n c, .int .i64 lo, .int .i64 hi, .int .i64 f] w (SiftE g n c f lo hi xs w) := by
  have HL := Lib.hid hr.len
  have HF := Lib.hid hF
  have HR := Lib.hid hr
  have HH := Lib.hid hH
  clear hF hr hH
  go_enter Tryz.func101, Tryz.ntmps101
  go_wp2
  go_loopw [8] (fun si wr => ∃ (r : Nat) (ys : List Nat), si = .int .i64 r ∧ lo ≤ r ∧ r ≤ 1000000 ∧ Hid (PR f (f + hi) xs ys) ∧ Hid (SiftI ltW f lo hi r ys) ∧ RowF wr g n c ys ∧ Touch g (g + 1) w wr) (fun si _ => hi + 1 - (intOf si).toNat)
  case atStart => exact ⟨lo, xs, rfl, Nat.le_refl _, hlo, PR.refl _ _ _, SiftI.start HH.out, HR.out, touch_refl _ _ _⟩
  case round =>
    obtain ⟨r, ys, rfl, hr1, hr2, hp, hI, hR, hTo⟩ := hrel
    have HRY := Lib.hid hR
    have HYL := Lib.hid (hp.out.len.trans HL.out)
    have HFY := Lib.hid (HF.out.perm hp.out.perm)
    by_cases hc : hi ≤ 2 * r + 1
    · clear hR
      go_wp2
      refine bodyPost_ret (results_none rfl _ _ _) rfl ?_
      exact ⟨rfl, ys, HRY.out, hp.out, hI.out.leaf hc, hTo⟩
    · obtain ⟨d, hd⟩ : ∃ d, d = 2 * r + 1 := ⟨_, rfl⟩
      have hd1 : (2 : Int) * (r : Int) + 1 = (d : Int) := by omega
      have hdh : d < hi := by omega
      have hdh' : ¬ (d : Int) ≥ (hi : Int) := by omega
      obtain ⟨x, hx⟩ := get_ex (xs := ys) (i := f + r) (by rw [HYL.out]; omega)
      obtain ⟨y, hy⟩ := get_ex (xs := ys) (i := f + d) (by rw [HYL.out]; omega)
      have HX := Lib.hid hx
      have HY := Lib.hid hy
      have c0 : wr.cell? ⟨g, f + r, none⟩ = some (fV x) := hR.at hx
      have c1 : wr.cell? ⟨g, f + d, none⟩ = some (fV y) := hR.at hy
      have z0 : (0 : Int) ≤ (f : Int) + (r : Int) := by omega
      have z1 : (f : Int) + (r : Int) < (n : Int) := by omega
      have z2 : ((f : Int) + (r : Int)).toNat = f + r := by omega
      have z3 : (0 : Int) ≤ (f : Int) + (d : Int) := by omega
      have z4 : (f : Int) + (d : Int) < (n : Int) := by omega
      have z5 : ((f : Int) + (d : Int)).toNat = f + d := by omega
      have HD := Lib.hid hd
      clear hR hx hy hd hc
      by_cases h2 : d + 1 < hi
      · obtain ⟨y2, hy2⟩ := get_ex (xs := ys) (i := f + (d + 1)) (by rw [HYL.out]; omega)
        have HY2 := Lib.hid hy2
        have c2 : wr.cell? ⟨g, f + (d + 1), none⟩ = some (fV y2) := HRY.out.at hy2
        have HCL := Lib.hid (less_q (HFY.out.at HY.out) (HFY.out.at hy2) wr)
        have hg2 : decide ((d : Int) + 1 < (hi : Int)) = true := decide_eq_true (by omega)
        have z6 : (0 : Int) ≤ (f : Int) + (d : Int) + 1 := by omega
        have z7 : (f : Int) + (d : Int) + 1 < (n : Int) := by omega
        have z8 : ((f : Int) + (d : Int) + 1).toNat = f + (d + 1) := by omega
        have z9 : (0 : Int) ≤ (f : Int) + ((d : Int) + 1) := by omega
        have z10 : (f : Int) + ((d : Int) + 1) < (n : Int) := by omega
        have z11 : ((f : Int) + ((d : Int) + 1)).toNat = f + (d + 1) := by omega
        clear hy2
        cases hlt2 : ltW y y2
        · have HL2 := Lib.hid hlt2
          go_wp2_with fail
          go_quiet (exact HCL.out _)
          go_wp2_with fail
          have HRQ : Hid (RowF (wr.drewN nq) g n c ys) := HRY.out.drewN nq
          have HTQ := Lib.hid (touch_drewN hTo nq)
          have q0 := HRQ.out.at HX.out
          have q1 := HRQ.out.at HY.out
          clear c2
          clear c0 c1
          generalize wr.drewN nq = wq at *
          have HG : Hid (Great ltW f hi r (d) ys) := ⟨.inl HD.out, hdh, fun e u v he _ hu hv => by
            rw [HY.out] at hu
            cases hu
            rcases he with he | he
            · rw [he, ← HD.out, HY.out] at hv
              cases hv
              exact ltW_less.irr _
            · rw [he, show 2 * r + 2 = d + 1 by rw [HD.out], HY2.out] at hv
              cases hv
              exact HL2.out⟩
          have hcc : (d) < hi ∧ r < (d) := by have h1 := HG.out.1; exact ⟨HG.out.2.1, by omega⟩
          have HCL2 := Lib.hid (less_q (HFY.out.at HX.out) (HFY.out.at HY.out) wq)
          cases hlc : ltW x y
          · have HLC := Lib.hid hlc
            go_wp2_with fail
            go_quiet (exact HCL2.out _)
            go_wp2
            refine bodyPost_ret (results_none rfl _ _ _) rfl ?_
            exact ⟨rfl, ys, HRQ.out.drewN _, hp.out, hI.out.done ltW_less HG.out HX.out HY.out HLC.out, touch_drewN HTQ.out _⟩
          · have HLC := Lib.hid hlc
            go_wp2_with fail
            go_quiet (exact HCL2.out _)
            go_wp2_with fail
            have hR3 := HRQ.out.drewN nq
            have c0' := hR3.at HX.out
            have c1' := hR3.at HY.out
            have f1 := hR3.free (f + r)
            have f2 := hR3.free (f + (d))
            have hTT := touch_drewN HTQ.out nq
            clear q0 q1
            try clear q2
            generalize wq.drewN nq = w5 at hR3 c0' c1' f1 f2 hTT ⊢
            have c3 : (w5.setCell ⟨g, f + r, none⟩ (fV y)).cell? ⟨g, f + (d), none⟩ = some (fV y) := swap_cell hR3 (by omega) HY.out
            have HS := Lib.hid (hR3.sw (f + r) (f + (d)) x y)
            clear hR3
            go_region
            go_wp2
            go_roundw
            case rel => exact ⟨d, Go.Proofs.YtjajlddnhmbekaaGreat.sw ys (f + r) (f + (d)) x y, by first | rfl | go_num, by omega, by omega, hp.out.trans (PR.sw HX.out HY.out (by omega) (by omega) (by omega) (by omega)), hI.out.step ltW_less hr1 HG.out HX.out HY.out HLC.out, HS.out.drew, hTT.trans ((touch_swap _ _ _ _ _ _).trans (touch_drewN (touch_refl _ _ _) 1))⟩
            case measure => simp [intOf]; omega
        · have HL2 := Lib.hid hlt2
          go_wp2_with fail
          go_quiet (exact HCL.out _)
          go_wp2_with fail
          have HRQ : Hid (RowF (wr.drewN nq) g n c ys) := HRY.out.drewN nq
          have HTQ := Lib.hid (touch_drewN hTo nq)
          have q0 := HRQ.out.at HX.out
          have q1 := HRQ.out.at HY.out
          have q2 := HRQ.out.at HY2.out
          clear c2
          clear c0 c1
          generalize wr.drewN nq = wq at *
          have HG : Hid (Great ltW f hi r (d + 1) ys) := ⟨.inr (by rw [HD.out]), h2, fun e u v he _ hu hv => by
            rw [HY2.out] at hu
            cases hu
            rcases he with he | he
            · rw [he, ← HD.out, HY.out] at hv
              cases hv
              exact ltW_less.asym _ _ HL2.out
            · rw [he, show 2 * r + 2 = d + 1 by rw [HD.out], HY2.out] at hv
              cases hv
              exact ltW_less.irr _⟩
          have hcc : (d + 1) < hi ∧ r < (d + 1) := by have h1 := HG.out.1; exact ⟨HG.out.2.1, by omega⟩
          have HCL2 := Lib.hid (less_q (HFY.out.at HX.out) (HFY.out.at HY2.out) wq)
          cases hlc : ltW x y2
          · have HLC := Lib.hid hlc
            go_wp2_with fail
            go_quiet (exact HCL2.out _)
            go_wp2
            refine bodyPost_ret (results_none rfl _ _ _) rfl ?_
            exact ⟨rfl, ys, HRQ.out.drewN _, hp.out, hI.out.done ltW_less HG.out HX.out HY2.out HLC.out, touch_drewN HTQ.out _⟩
          · have HLC := Lib.hid hlc
            go_wp2_with fail
            go_quiet (exact HCL2.out _)
            go_wp2_with fail
            have hR3 := HRQ.out.drewN nq
            have c0' := hR3.at HX.out
            have c1' := hR3.at HY2.out
            have f1 := hR3.free (f + r)
            have f2 := hR3.free (f + (d + 1))
            have hTT := touch_drewN HTQ.out nq
            clear q0 q1
            try clear q2
            generalize wq.drewN nq = w5 at hR3 c0' c1' f1 f2 hTT ⊢
            have c3 : (w5.setCell ⟨g, f + r, none⟩ (fV y2)).cell? ⟨g, f + (d + 1), none⟩ = some (fV y2) := swap_cell hR3 (by omega) HY2.out
            have HS := Lib.hid (hR3.sw (f + r) (f + (d + 1)) x y2)
            clear hR3
            go_region
            go_wp2
            go_roundw
            case rel => exact ⟨d + 1, Go.Proofs.YtjajlddnhmbekaaGreat.sw ys (f + r) (f + (d + 1)) x y2, by first | rfl | go_num, by omega, by omega, hp.out.trans (PR.sw HX.out HY2.out (by omega) (by omega) (by omega) (by omega)), hI.out.step ltW_less hr1 HG.out HX.out HY2.out HLC.out, HS.out.drew, hTT.trans ((touch_swap _ _ _ _ _ _).trans (touch_drewN (touch_refl _ _ _) 1))⟩
            case measure => simp [intOf]; omega
      · have hg2 : decide ((d : Int) + 1 < (hi : Int)) = false := decide_eq_false (by omega)
        go_wp2_with fail
        go_quiet (fail)
        go_wp2_with fail
        have HRQ : Hid (RowF (wr.drewN nq) g n c ys) := HRY.out.drewN nq
        have HTQ := Lib.hid (touch_drewN hTo nq)
        have q0 := HRQ.out.at HX.out
        have q1 := HRQ.out.at HY.out
        clear c0 c1
        generalize wr.drewN nq = wq at *
        have HG : Hid (Great ltW f hi r (d) ys) := ⟨.inl HD.out, hdh, fun e u v he hle hu hv => by
          rw [HY.out] at hu
          cases hu
          rcases he with he | he
          · rw [he, ← HD.out, HY.out] at hv
            cases hv
            exact ltW_less.irr _
          · have := HD.out
            omega⟩
        have hcc : (d) < hi ∧ r < (d) := by have h1 := HG.out.1; exact ⟨HG.out.2.1, by omega⟩
        have HCL2 := Lib.hid (less_q (HFY.out.at HX.out) (HFY.out.at HY.out) wq)
        cases hlc : ltW x y
        · have HLC := Lib.hid hlc
          go_wp2_with fail
          go_quiet (exact HCL2.out _)
          go_wp2
          refine bodyPost_ret (results_none rfl _ _ _) rfl ?_
          exact ⟨rfl, ys, HRQ.out.drewN _, hp.out, hI.out.done ltW_less HG.out HX.out HY.out HLC.out, touch_drewN HTQ.out _⟩
        · have HLC := Lib.hid hlc
          go_wp2_with fail
          go_quiet (exact HCL2.out _)
          go_wp2_with fail
          have hR3 := HRQ.out.drewN nq
          have c0' := hR3.at HX.out
          have c1' := hR3.at HY.out
          have f1 := hR3.free (f + r)
          have f2 := hR3.free (f + (d))
          have hTT := touch_drewN HTQ.out nq
          clear q0 q1
          try clear q2
          generalize wq.drewN nq = w5 at hR3 c0' c1' f1 f2 hTT ⊢
          have c3 : (w5.setCell ⟨g, f + r, none⟩ (fV y)).cell? ⟨g, f + (d), none⟩ = some (fV y) := swap_cell hR3 (by omega) HY.out
          have HS := Lib.hid (hR3.sw (f + r) (f + (d)) x y)
          clear hR3
          go_region
          go_wp2
          go_roundw
          case rel => exact ⟨d, Go.Proofs.YtjajlddnhmbekaaGreat.sw ys (f + r) (f + (d)) x y, by first | rfl | go_num, by omega, by omega, hp.out.trans (PR.sw HX.out HY.out (by omega) (by omega) (by omega) (by omega)), hI.out.step ltW_less hr1 HG.out HX.out HY.out HLC.out, HS.out.drew, hTT.trans ((touch_swap _ _ _ _ _ _).trans (touch_drewN (touch_refl _ _ _) 1))⟩
          case measure => simp [intOf]; omega

theorem swap_cell_any {w : World} {g n c i j : Nat} {xs : List Nat} {x y : Nat} (h : RowF w g n c xs) (hx : xs[i]? = some x) (hy : xs[j]? = some y) : (w.setCell ⟨g, i, none⟩ (fV y)).cell? ⟨g, j, none⟩ = some (fV y) := by
  by_cases e : j = i
  · subst e
    exact World.cell?_setCell_same' _ _ _ (by rw [h.at hx]; rfl)
  · exact swap_cell h e hy
set_option maxHeartbeats 3200000 in
set_option maxRecDepth 100000 in
theorem heapF_any (g n c a b : Nat) (xs : List Nat) (hab : a < b) (hb : b ≤ n) (hn : n ≤ 1000000) (hF : Fins xs) (w : World) (hr : RowF w g n c xs) :
    Calls Tryz.prog 90 #[.slice (some ⟨g, 0, none⟩) n c, .int .i64 a, .int .i64 b] w (SortE g n c a b xs w) := by
  have HL := Lib.hid hr.len
  have HF := Lib.hid hF
  have HR := Lib.hid hr
  obtain ⟨N, hN⟩ : ∃ N, N = b - a := ⟨_, rfl⟩
  obtain ⟨M, hM⟩ : ∃ M, M = (N - 1) / 2 := ⟨_, rfl⟩
  have hN1 : (b : Int) - (a : Int) = (N : Int) := by omega
  have hNpos : 1 ≤ N := by omega
  have hM1 : ((N : Int) - 1) / 2 = (M : Int) := by omega
  have hM2 : N ≤ 2 * (M + 1) + 1 := by omega
  have hMN : M < N := by omega
  have haN : a + N = b := by omega
  have HN := Lib.hid hN
  have HM1 := Lib.hid hM1
  clear hF hr hM hN hM1
  go_enter Tryz.func90, Tryz.ntmps90
  go_wp2
  go_loopw [9] (fun si wr => ∃ (k : Nat) (ys : List Nat), si = .int .i64 ((k : Int) - 1) ∧ k ≤ M + 1 ∧ Hid (PR a b xs ys) ∧ Hid (HeapR ltW a k N ys) ∧ RowF wr g n c ys ∧ Touch g (g + 1) w wr) (fun si _ => (intOf si + 1).toNat)
  case atStart => exact ⟨M + 1, xs, by have h := HM1.out; congr 1; omega, Nat.le_refl _, PR.refl _ _ _, HeapR.vac hM2, HR.out, touch_refl _ _ _⟩
  case round =>
    obtain ⟨k, ys, rfl, hk, hp, hH, hR, hTo⟩ := hrel
    by_cases hk0 : k = 0
    · subst hk0
      have hneg : ¬ ((0 : Nat) : Int) - 1 ≥ 0 := by omega
      have HRY := Lib.hid hR
      clear hR
      obtain ⟨w2, rfl⟩ : ∃ w2, w2 = wr := ⟨_, rfl⟩
      go_wp2
      go_loopw [10] (fun si wr => ∃ (k : Nat) (ys : List Nat), si = .int .i64 ((k : Int) - 1) ∧ k ≤ N ∧ Hid (PR a b xs ys) ∧ Hid (HeapR ltW a 0 k ys) ∧ Hid (Tail ltW a k N ys) ∧ RowF wr g n c ys ∧ Touch g (g + 1) w wr) (fun si _ => (intOf si + 1).toNat)
      case atStart => exact ⟨N, ys, by first | rfl | go_num, Nat.le_refl _, hp, hH, Tail.start, HRY.out, hTo⟩
      case round =>
        clear hp hH HRY hTo
        obtain ⟨k, ys, rfl, hk, hp, hH, hTl, hR, hTo⟩ := hrel
        have hyl := hp.out.len.trans HL.out
        by_cases hk0 : k = 0
        · subst hk0
          have hneg2 : ¬ ((0 : Nat) : Int) - 1 ≥ 0 := by omega
          have HRY := Lib.hid hR
          have HSR : Hid (SR ltW a b ys) := by
            have h := hTl.out
            rw [HN.out] at h
            exact h.sorted
          clear hR hyl
          go_wp2
          refine bodyPost_ret (results_none rfl _ _ _) rfl ?_
          exact ⟨rfl, ys, HRY.out, hp.out, HSR.out, hTo⟩
        · obtain ⟨i, rfl⟩ : ∃ i, k = i + 1 := ⟨k - 1, by omega⟩
          have ei : ((i + 1 : Nat) : Int) - 1 = (i : Int) := by omega
          rw [ei]
          obtain ⟨x, hx⟩ := get_ex (xs := ys) (i := a) (by omega)
          obtain ⟨y, hy⟩ := get_ex (xs := ys) (i := a + i) (by omega)
          have c0 : wr.cell? ⟨g, a, none⟩ = some (fV x) := hR.at hx
          have c1 : wr.cell? ⟨g, a + i, none⟩ = some (fV y) := hR.at hy
          have f1 := hR.free a
          have f2 := hR.free (a + i)
          have c3 : (wr.setCell ⟨g, a, none⟩ (fV y)).cell? ⟨g, a + i, none⟩ = some (fV y) := swap_cell_any hR hx hy
          have z0 : (0 : Int) ≤ (a : Int) + (i : Int) := by omega
          have z1 : (a : Int) + (i : Int) < (n : Int) := by omega
          have z2 : ((a : Int) + (i : Int)).toNat = a + i := by omega
          have z3 : (0 : Int) ≤ (a : Int) := by omega
          have z4 : (a : Int) < (n : Int) := by omega
          have HS := Lib.hid (hR.sw a (a + i) x y).drew
          have HP2 := Lib.hid (hp.out.trans (PR.sw hx hy (Nat.le_refl _) hab (by omega) (by omega)))
          have HT2 := Lib.hid (hTl.out.step ltW_less hH.out (by omega) (by omega) hx hy)
          have HH2 := Lib.hid (hH.out.sw_top hx hy)
          have HTo := Lib.hid (hTo.trans ((touch_swap wr g a (a + i) (fV y) (fV x)).trans (touch_drewN (touch_refl _ _ _) 1)))
          clear hR hx hy hyl
          go_wp2
          go_region
          go_wp2_with fail
          refine (sift_any g n c a 0 i _ (by omega) (by omega) hn (HF.out.perm HP2.out.perm) HH2.out _ HS.out).mono ?_
          rintro e w5 ⟨rfl, zs, R5, P5, H5, T5⟩
          have HR5 := Lib.hid R5
          clear R5
          go_wp2
          go_roundw
          case rel => exact ⟨i, zs, by go_num, by omega, HP2.out.trans (P5.mono (Nat.le_refl _) (by omega)), H5, HT2.out.moved P5, HR5.out, HTo.out.trans T5⟩
          case measure => first | (simp [intOf]; done) | (simp [intOf]; omega)
    · obtain ⟨i, rfl⟩ : ∃ i, k = i + 1 := ⟨k - 1, by omega⟩
      have ei : ((i + 1 : Nat) : Int) - 1 = (i : Int) := by omega
      rw [ei]
      have HRY := Lib.hid hR
      clear hR
      go_wp2_with fail
      refine (sift_any g n c a i N ys (by omega) (by omega) hn (HF.out.perm hp.out.perm) hH.out _ HRY.out).mono ?_
      rintro e w5 ⟨rfl, zs, R5, P5, H5, T5⟩
      have HR5 := Lib.hid R5
      clear R5
      go_wp2
      go_roundw
      case rel => exact ⟨i, zs, by go_num, by omega, hp.out.trans (P5.mono (Nat.le_refl _) (by omega)), H5, HR5.out, hTo.trans T5⟩
      case measure => first | (simp [intOf]; done) | (simp [intOf]; omega)
end

section
section
open Go.RowKit
attribute [local go_sem] run_store_float

/-- From a + 1 to i nothing is greater than p, from J on all is. -/
structure EqI (a b i J : Nat) (p : Nat) (ys : List Nat) : Prop where
  at_ : ys[a]? = some p
  lo : ∀ k x, a ≤ k → k < i → ys[k]? = some x → ltW p x = false
  hi : ∀ k x, J ≤ k → k < b → ys[k]? = some x → ltW p x = true
theorem EqI.more {a b i J p x : Nat} {ys : List Nat} (h : EqI a b i J p ys) (hx : ys[i]? = some x) (hl : ltW p x = false) : EqI a b (i + 1) J p ys :=
  ⟨h.at_, fun k u h1 h2 hu => by
    by_cases e : k = i
    · subst e
      rw [hx] at hu
      cases hu
      exact hl
    · exact h.lo k u h1 (by omega) hu, h.hi⟩
theorem EqI.less {a b i J p x : Nat} {ys : List Nat} (h : EqI a b i (J + 1) p ys) (hx : ys[J]? = some x) (hl : ltW p x = true) : EqI a b i J p ys :=
  ⟨h.at_, h.lo, fun k u h1 h2 hu => by
    by_cases e : k = J
    · subst e
      rw [hx] at hu
      cases hu
      exact hl
    · exact h.hi k u (by omega) h2 hu⟩
theorem EqI.swap {a b i J p x y : Nat} {ys : List Nat} (h : EqI a b i (J + 1) p ys) (hai : a < i) (hij : i < J) (hx : ys[i]? = some x) (hy : ys[J]? = some y) (hlx : ltW p x = true) (hly : ltW p y = false) : EqI a b (i + 1) J p (sw ys i J x y) := by
  refine ⟨by rw [sw_get hx hy, if_neg (by omega), if_neg (by omega)]; exact h.at_, fun k u h1 h2 hu => ?_, fun k u h1 h2 hu => ?_⟩
  · rw [sw_get hx hy, if_neg (by omega)] at hu
    by_cases e : k = i
    · rw [if_pos e] at hu
      cases hu
      exact hly
    · rw [if_neg e] at hu
      exact h.lo k u h1 (by omega) hu
  · rw [sw_get hx hy] at hu
    by_cases e : k = J
    · rw [if_pos e] at hu
      cases hu
      exact hlx
    · rw [if_neg e, if_neg (by omega)] at hu
      exact h.hi k u (by omega) h2 hu

def PartEqE (g n c a b pv : Nat) (xs : List Nat) (w : World) (e : Ending) (w' : World) : Prop :=
  ∃ (m p : Nat) (ys : List Nat), e = .returned (.int .i64 m) ∧ xs[pv]? = some p ∧ a < m ∧ m ≤ b ∧ RowF w' g n c ys ∧ PR a b xs ys ∧ (∀ k x, a ≤ k → k < m → ys[k]? = some x → ltW p x = false) ∧ (∀ k x, m ≤ k → k < b → ys[k]? = some x → ltW p x = true) ∧ Touch g (g + 1) w w'
set_option maxHeartbeats 3200000 in
set_option maxRecDepth 100000 in
theorem partEq_any (g n c a b pv : Nat) (xs : List Nat) (hap : a ≤ pv) (hpb : pv < b) (hb : b ≤ n) (hn : n ≤ 1000000) (hF : Fins xs) (w : World) (hr : RowF w g n c xs) :
    Calls Tryz.prog 96 #[.slice (some ⟨g, 0, none⟩) n c, .int .i64 a, .int .i64 b, .int .i64 pv] w (PartEqE g n c a b pv xs w) := by
  have HL := Lib.hid hr.len
  have HF := Lib.hid hF
  have HR := Lib.hid hr
  have hl := hr.len
  obtain ⟨x0, hx0⟩ := get_ex (xs := xs) (i := a) (by omega)
  obtain ⟨p, hp⟩ := get_ex (xs := xs) (i := pv) (by omega)
  have c0 : w.cell? ⟨g, a, none⟩ = some (fV x0) := hr.at hx0
  have c1 : w.cell? ⟨g, pv, none⟩ = some (fV p) := hr.at hp
  have f1 := hr.free a
  have f2 := hr.free pv
  have c3 : (w.setCell ⟨g, a, none⟩ (fV p)).cell? ⟨g, pv, none⟩ = some (fV p) := swap_cell_any hr hx0 hp
  have z0 : (0 : Int) ≤ (a : Int) := by omega
  have z1 : (a : Int) < (n : Int) := by omega
  have z2 : (0 : Int) ≤ (pv : Int) := by omega
  have z3 : (pv : Int) < (n : Int) := by omega
  have HS := Lib.hid (hr.sw a pv x0 p).drew
  have HP0 := Lib.hid (PR.sw (a := a) (b := b) hx0 hp (Nat.le_refl _) (by omega) hap hpb)
  have HPV := Lib.hid hp
  have HE0 : Hid (EqI a b (a + 1) b p (sw xs a pv x0 p)) := by
    have h0 : (sw xs a pv x0 p)[a]? = some p := by
      rw [sw_get hx0 hp]
      by_cases e : a = pv
      · subst e
        rw [hx0] at hp
        cases hp
        rw [if_pos rfl]
      · rw [if_neg e, if_pos rfl]
    refine ⟨h0, fun k u h1 h2 hu => ?_, fun k u h1 h2 => by omega⟩
    obtain rfl : k = a := by omega
    rw [h0] at hu
    cases hu
    exact ltW_less.irr _
  clear hF hr hl hx0 hp
  go_enter Tryz.func96, Tryz.ntmps96
  go_wp2
  go_region
  go_wp2_with fail
  have hT0 : Touch g (g + 1) w ((w.setCell ⟨g, a, none⟩ (fV p)).setCell ⟨g, pv, none⟩ (fV x0)).drew := (touch_swap w g a pv (fV p) (fV x0)).trans (touch_drewN (touch_refl _ _ _) 1)
  obtain ⟨w0, hw0⟩ : ∃ W, W = ((w.setCell ⟨g, a, none⟩ (fV p)).setCell ⟨g, pv, none⟩ (fV x0)).drew := ⟨_, rfl⟩
  have HS0 : Hid (RowF w0 g n c (sw xs a pv x0 p)) := by rw [hw0]; exact HS.out
  rw [← hw0] at hT0 ⊢
  clear hw0 c0 c1 c3 f1 f2 HS
  go_loopw [9, 10] (fun si sj wr => ∃ (i J : Nat) (jz : Int) (ys : List Nat), si = .int .i64 i ∧ sj = .int .i64 jz ∧ Hid (jz = (J : Int) - 1) ∧ a + 1 ≤ i ∧ i ≤ J ∧ J ≤ b ∧ Hid (PR a b xs ys) ∧ Hid (EqI a b i J p ys) ∧ RowF wr g n c ys ∧ Touch g (g + 1) w wr) (fun si _ _ => b + 1 - (intOf si).toNat)
  case atStart => exact ⟨a + 1, b, (b : Int) - 1, _, by go_num, by go_num, rfl, by omega, by omega, Nat.le_refl _, HP0.out, HE0.out, HS0.out, hT0⟩
  case round =>
    obtain ⟨i, J, jz, ys, rfl, rfl, HJ, hi0, hiJ, hJb, hp, hE, hR, hTo⟩ := hrel
    have HYL := Lib.hid (hp.out.len.trans HL.out)
    have HFY := Lib.hid (HF.out.perm hp.out.perm)
    go_upto_block 2 with fail
    go_cut [9] from 29 to 45 (fun si wx => ∃ i' : Nat, si = .int .i64 i' ∧ i ≤ i' ∧ i' ≤ J ∧ Hid (EqI a b i' J p ys) ∧ Hid (i' = J ∨ ∃ x, ys[i']? = some x ∧ ltW p x = true) ∧ RowF wx g n c ys ∧ Touch g (g + 1) w wx)
    case first =>
      go_wp2_with fail
      go_loopw [9] (fun si wr => ∃ i' : Nat, si = .int .i64 i' ∧ i ≤ i' ∧ i' ≤ J ∧ Hid (EqI a b i' J p ys) ∧ RowF wr g n c ys ∧ Touch g (g + 1) w wr) (fun si _ => J + 1 - (intOf si).toNat)
      case atStart => exact ⟨i, rfl, Nat.le_refl _, hiJ, hE, hR, hTo⟩
      case round =>
        clear hE hR hTo
        obtain ⟨i', rfl, hi1, hi2, hE, hR, hTo⟩ := hrel
        have HPA := Lib.hid hE.out.at_
        have HRY := Lib.hid hR
        by_cases hlt : i' < J
        · obtain ⟨x, hx⟩ := get_ex (xs := ys) (i := i') (by rw [HYL.out]; omega)
          have cA : wr.cell? ⟨g, a, none⟩ = some (fV p) := hR.at HPA.out
          have cX : wr.cell? ⟨g, i', none⟩ = some (fV x) := hR.at hx
          have HCL := Lib.hid (less_q (HFY.out.at HPA.out) (HFY.out.at hx) wr)
          have HX := Lib.hid hx
          have hg : decide ((i' : Int) ≤ jz) = true := decide_eq_true (by have := HJ.out; omega)
          have y0 : (0 : Int) ≤ (i' : Int) := by omega
          have y1 : (i' : Int) < (n : Int) := by omega
          clear hR hx
          cases hlc : ltW p x
          · have HLC := Lib.hid hlc
            go_wp2_with fail
            go_quiet (exact HCL.out _)
            go_wp2_with fail
            go_roundw
            case rel => exact ⟨i' + 1, by go_num, by omega, by omega, hE.out.more HX.out HLC.out, HRY.out.drewN _, touch_drewN hTo _⟩
            case measure => simp [intOf]; omega
          · have HLC := Lib.hid hlc
            go_wp2_with fail
            go_quiet (exact HCL.out _)
            go_wp2_with fail
            go_meet
            case rel => exact ⟨i', rfl, hi1, hi2, hE, .inr ⟨x, HX.out, HLC.out⟩, HRY.out.drewN _, touch_drewN hTo _⟩
        · have hg : decide ((i' : Int) ≤ jz) = false := decide_eq_false (by have := HJ.out; omega)
          clear hR
          go_wp2_with fail
          go_quiet (fail)
          go_wp2_with fail
          go_meet
          case rel => exact ⟨i', rfl, hi1, hi2, hE, .inl (by omega), HRY.out.drewN _, touch_drewN hTo _⟩
    obtain ⟨wI, hwc⟩ : ∃ W, W = wc := ⟨_, rfl⟩
    subst hwc
    clear hE hR hTo
    obtain ⟨i2, rfl, hi1', hiJ2, hE, hXi, hR, hTo⟩ := hcut
    go_upto_block 4 with fail
    go_cut [10] from 46 to 61 (fun sj wx => ∃ (J' : Nat) (jz' : Int), sj = .int .i64 jz' ∧ Hid (jz' = (J' : Int) - 1) ∧ i2 ≤ J' ∧ J' ≤ J ∧ Hid (EqI a b i2 J' p ys) ∧ Hid (i2 = J' ∨ ∃ x, ys[J' - 1]? = some x ∧ ltW p x = false) ∧ RowF wx g n c ys ∧ Touch g (g + 1) w wx)
    case first =>
      go_wp2_with fail
      go_loopw [10] (fun sj wr => ∃ (J' : Nat) (jz' : Int), sj = .int .i64 jz' ∧ Hid (jz' = (J' : Int) - 1) ∧ i2 ≤ J' ∧ J' ≤ J ∧ Hid (EqI a b i2 J' p ys) ∧ RowF wr g n c ys ∧ Touch g (g + 1) w wr) (fun sj _ => (intOf sj + 1).toNat)
      case atStart => exact ⟨J, jz, rfl, HJ, hiJ2, Nat.le_refl _, hE, hR, hTo⟩
      case round =>
        clear hE hR hTo
        obtain ⟨J', jz', rfl, hJz, hj1, hj2, hE, hR, hTo⟩ := hrel
        have HPA := Lib.hid hE.out.at_
        have HRY := Lib.hid hR
        by_cases hlt : i2 < J'
        · obtain ⟨j, rfl⟩ : ∃ j, J' = j + 1 := ⟨J' - 1, by omega⟩
          have hjz : jz' = (j : Int) := by have := hJz.out; omega
          clear hJz
          subst hjz
          obtain ⟨x, hx⟩ := get_ex (xs := ys) (i := j) (by rw [HYL.out]; omega)
          have cA : wr.cell? ⟨g, a, none⟩ = some (fV p) := hR.at HPA.out
          have cX : wr.cell? ⟨g, j, none⟩ = some (fV x) := hR.at hx
          have HCL := Lib.hid (less_q (HFY.out.at HPA.out) (HFY.out.at hx) wr)
          have HX := Lib.hid hx
          have hg : decide ((i2 : Int) ≤ (j : Int)) = true := decide_eq_true (by omega)
          have hg' : decide (i2 ≤ j) = true := decide_eq_true (by omega)
          have y0 : (0 : Int) ≤ (j : Int) := by omega
          have y1 : (j : Int) < (n : Int) := by omega
          clear hR hx
          cases hlc : ltW p x
          · have HLC := Lib.hid hlc
            go_wp2_with fail
            go_quiet (exact HCL.out _)
            go_wp2_with fail
            go_meet
            case rel => exact ⟨j + 1, (j : Int), rfl, by unfold Hid; omega, by omega, by omega, hE, .inr ⟨x, by rw [Nat.add_sub_cancel]; exact HX.out, HLC.out⟩, HRY.out.drewN _, touch_drewN hTo _⟩
          · have HLC := Lib.hid hlc
            go_wp2_with fail
            go_quiet (exact HCL.out _)
            go_wp2_with fail
            go_roundw
            case rel => exact ⟨j, (j : Int) - 1, by go_num, rfl, by omega, by omega, hE.out.less HX.out HLC.out, HRY.out.drewN _, touch_drewN hTo _⟩
            case measure => first | (simp [intOf]; done) | (simp [intOf]; omega)
        · have hg : decide ((i2 : Int) ≤ jz') = false := decide_eq_false (by have := hJz.out; omega)
          clear hR
          go_wp2_with fail
          go_quiet (fail)
          go_wp2_with fail
          go_meet
          case rel => exact ⟨J', jz', rfl, hJz, hj1, hj2, hE, .inl (by omega), HRY.out.drewN _, touch_drewN hTo _⟩
    obtain ⟨wJ, hwc⟩ : ∃ W, W = wc := ⟨_, rfl⟩
    subst hwc
    clear hE hR hTo
    obtain ⟨J2, jz2, rfl, HJ2, hj1', hJ2J, hE, hXj, hR, hTo⟩ := hcut
    by_cases hend : i2 = J2
    · have hgt : (i2 : Int) > jz2 := by have := HJ2.out; omega
      have HRY := Lib.hid hR
      subst hend
      clear hR
      go_wp2
      go_ret
      exact ⟨i2, p, ys, rfl, HPV.out, by omega, by omega, HRY.out, hp.out, hE.out.lo, hE.out.hi, hTo⟩
    · have hlt2 : i2 < J2 := by omega
      have HYL2 := HYL.out
      obtain ⟨j, rfl⟩ : ∃ j, J2 = j + 1 := ⟨J2 - 1, by omega⟩
      have hjz2 : jz2 = (j : Int) := by have := HJ2.out; omega
      clear HJ2
      subst hjz2
      obtain ⟨x, hx, hlx⟩ : ∃ x, ys[i2]? = some x ∧ ltW p x = true := by
        rcases hXi.out with h | h
        · omega
        · exact h
      obtain ⟨y, hy, hly⟩ : ∃ y, ys[j]? = some y ∧ ltW p y = false := by
        rcases hXj.out with h | h
        · omega
        · rw [Nat.add_sub_cancel] at h; exact h
      have hij : i2 ≠ j := fun e => by
        subst e
        rw [hx] at hy
        cases hy
        rw [hlx] at hly
        cases hly
      have cX : wJ.cell? ⟨g, i2, none⟩ = some (fV x) := hR.at hx
      have cY : wJ.cell? ⟨g, j, none⟩ = some (fV y) := hR.at hy
      have f1 := hR.free i2
      have f2 := hR.free j
      have c3 : (wJ.setCell ⟨g, i2, none⟩ (fV y)).cell? ⟨g, j, none⟩ = some (fV y) := swap_cell hR (fun e => hij e.symm) hy
      have y0 : (0 : Int) ≤ (i2 : Int) := by omega
      have y1 : (i2 : Int) < (n : Int) := by omega
      have y2 : (0 : Int) ≤ (j : Int) := by omega
      have y3 : (j : Int) < (n : Int) := by omega
      have HS := Lib.hid (hR.sw i2 j x y).drew
      have HPS := Lib.hid (hp.out.trans (PR.sw (a := a) (b := b) hx hy (by omega) (by omega) (by omega) (by omega)))
      have HES := Lib.hid (hE.out.swap (by omega) (by omega) hx hy hlx hly)
      have HTS : Hid (Touch g (g + 1) w ((wJ.setCell ⟨g, i2, none⟩ (fV y)).setCell ⟨g, j, none⟩ (fV x)).drew) := hTo.trans ((touch_swap wJ g i2 j (fV y) (fV x)).trans (touch_drewN (touch_refl _ _ _) 1))
      have hgt : ¬ (i2 : Int) > (j : Int) := by omega
      clear hR hx hy hlx hly hXi hXj HYL2
      go_wp2_with fail
      go_region
      go_wp2_with fail
      go_roundw
      case rel => exact ⟨i2 + 1, j, (j : Int) - 1, _, by go_num, by go_num, rfl, by omega, by omega, by omega, HPS.out, HES.out, HS.out, HTS.out⟩
      case measure => simp [intOf]; omega
end

section
open Go.RowKit
attribute [local go_sem] run_store_float

/-- From a + 1 to i all is less than p, from J on nothing is. -/
structure PtI (a b i J : Nat) (p : Nat) (ys : List Nat) : Prop where
  at_ : ys[a]? = some p
  lo : ∀ k x, a < k → k < i → ys[k]? = some x → ltW x p = true
  hi : ∀ k x, J ≤ k → k < b → ys[k]? = some x → ltW x p = false
theorem PtI.more {a b i J p x : Nat} {ys : List Nat} (h : PtI a b i J p ys) (hx : ys[i]? = some x) (hl : ltW x p = true) : PtI a b (i + 1) J p ys :=
  ⟨h.at_, fun k u h1 h2 hu => by
    by_cases e : k = i
    · subst e
      rw [hx] at hu
      cases hu
      exact hl
    · exact h.lo k u h1 (by omega) hu, h.hi⟩
theorem PtI.less {a b i J p x : Nat} {ys : List Nat} (h : PtI a b i (J + 1) p ys) (hx : ys[J]? = some x) (hl : ltW x p = false) : PtI a b i J p ys :=
  ⟨h.at_, h.lo, fun k u h1 h2 hu => by
    by_cases e : k = J
    · subst e
      rw [hx] at hu
      cases hu
      exact hl
    · exact h.hi k u (by omega) h2 hu⟩
theorem PtI.swap {a b i J p x y : Nat} {ys : List Nat} (h : PtI a b i (J + 1) p ys) (hai : a < i) (hij : i < J) (hx : ys[i]? = some x) (hy : ys[J]? = some y) (hlx : ltW x p = false) (hly : ltW y p = true) : PtI a b (i + 1) J p (sw ys i J x y) := by
  refine ⟨by rw [sw_get hx hy, if_neg (by omega), if_neg (by omega)]; exact h.at_, fun k u h1 h2 hu => ?_, fun k u h1 h2 hu => ?_⟩
  · rw [sw_get hx hy, if_neg (by omega)] at hu
    by_cases e : k = i
    · rw [if_pos e] at hu
      cases hu
      exact hly
    · rw [if_neg e] at hu
      exact h.lo k u h1 (by omega) hu
  · rw [sw_get hx hy] at hu
    by_cases e : k = J
    · rw [if_pos e] at hu
      cases hu
      exact hlx
    · rw [if_neg e, if_neg (by omega)] at hu
      exact h.hi k u (by omega) h2 hu
theorem PtI.fin {a b m p x : Nat} {ys : List Nat} (h : PtI a b (m + 1) (m + 1) p ys) (ham : a ≤ m) (hx : ys[m]? = some x) : Part ltW a b m (sw ys m a x p) p := by
  refine ⟨?_, fun k u h1 h2 hu => ?_, fun k u h1 h2 hu => ?_⟩
  · rw [sw_get hx h.at_]
    by_cases e : m = a
    · subst e
      rw [if_pos rfl, ← hx]
      exact h.at_
    · rw [if_neg e, if_pos rfl]
  · rw [sw_get hx h.at_] at hu
    by_cases e : k = a
    · rw [if_pos e] at hu
      cases hu
      exact ltW_less.asym _ _ (h.lo m x (by omega) (by omega) hx)
    · rw [if_neg e, if_neg (by omega)] at hu
      exact ltW_less.asym _ _ (h.lo k u (by omega) (by omega) hu)
  · rw [sw_get hx h.at_, if_neg (by omega), if_neg (by omega)] at hu
    exact h.hi k u (by omega) h2 hu

def PartE (g n c a b _pv : Nat) (xs : List Nat) (w : World) (e : Ending) (w' : World) : Prop :=
  ∃ (m p : Nat) (t : Bool) (ys : List Nat), e = .returned (.tuple #[.int .i64 m, .bool t]) ∧ a ≤ m ∧ m < b ∧ RowF w' g n c ys ∧ PR a b xs ys ∧ Part ltW a b m ys p ∧ Touch g (g + 1) w w'
set_option maxHeartbeats 6400000 in
set_option maxRecDepth 100000 in
theorem part_any (g n c a b pv : Nat) (xs : List Nat) (hap : a ≤ pv) (hpb : pv < b) (hb : b ≤ n) (hn : n ≤ 1000000) (hF : Fins xs) (w : World) (hr : RowF w g n c xs) :
    Calls Tryz.prog 97 #[.slice (some ⟨g, 0, none⟩) n c, .int .i64 a, .int .i64 b, .int .i64 pv] w (PartE g n c a b pv xs w) := by
  have HL := Lib.hid hr.len
  have HF := Lib.hid hF
  have HR := Lib.hid hr
  have hl := hr.len
  obtain ⟨x0, hx0⟩ := get_ex (xs := xs) (i := a) (by omega)
  obtain ⟨p, hp⟩ := get_ex (xs := xs) (i := pv) (by omega)
  have c0 : w.cell? ⟨g, a, none⟩ = some (fV x0) := hr.at hx0
  have c1 : w.cell? ⟨g, pv, none⟩ = some (fV p) := hr.at hp
  have f1 := hr.free a
  have f2 := hr.free pv
  have c3 : (w.setCell ⟨g, a, none⟩ (fV p)).cell? ⟨g, pv, none⟩ = some (fV p) := swap_cell_any hr hx0 hp
  have z0 : (0 : Int) ≤ (a : Int) := by omega
  have z1 : (a : Int) < (n : Int) := by omega
  have z2 : (0 : Int) ≤ (pv : Int) := by omega
  have z3 : (pv : Int) < (n : Int) := by omega
  have HS := Lib.hid (hr.sw a pv x0 p).drew
  have HP0 := Lib.hid (PR.sw (a := a) (b := b) hx0 hp (Nat.le_refl _) (by omega) hap hpb)
  have h0 : (sw xs a pv x0 p)[a]? = some p := by
    rw [sw_get hx0 hp]
    by_cases e : a = pv
    · subst e
      rw [hx0] at hp
      cases hp
      rw [if_pos rfl]
    · rw [if_neg e, if_pos rfl]
  have HE0 : Hid (PtI a b (a + 1) b p (sw xs a pv x0 p)) := ⟨h0, fun k u h1 h2 hu => by omega, fun k u h1 h2 => by omega⟩
  obtain ⟨i, hi⟩ : ∃ i, i = a + 1 := ⟨_, rfl⟩
  obtain ⟨J, hJ⟩ : ∃ J, J = b := ⟨_, rfl⟩
  obtain ⟨jz, hjz⟩ : ∃ jz : Int, jz = (b : Int) - 1 := ⟨_, rfl⟩
  have e1 : (a : Int) + 1 = (i : Int) := by omega
  have e2 : (b : Int) - 1 = jz := hjz.symm
  have e3 : IntKind.i64.wrap jz = jz := IntWalk.i64_in _ (by omega)
  have HJ : Hid (jz = (J : Int) - 1) := by unfold Hid; omega
  have hi0 : a + 1 ≤ i := by omega
  have hiJ : i ≤ J := by omega
  have hJb : J ≤ b := by omega
  have hE : Hid (PtI a b i J p (sw xs a pv x0 p)) := by rw [hi, hJ]; exact HE0
  clear hF hr hl hx0 hp h0 HE0 hi hJ hjz
  go_enter Tryz.func97, Tryz.ntmps97
  go_wp2
  go_region
  have hTo : Touch g (g + 1) w ((w.setCell ⟨g, a, none⟩ (fV p)).setCell ⟨g, pv, none⟩ (fV x0)).drew := (touch_swap w g a pv (fV p) (fV x0)).trans (touch_drewN (touch_refl _ _ _) 1)
  obtain ⟨w0, hw0⟩ : ∃ W, W = ((w.setCell ⟨g, a, none⟩ (fV p)).setCell ⟨g, pv, none⟩ (fV x0)).drew := ⟨_, rfl⟩
  have hR : RowF w0 g n c (sw xs a pv x0 p) := by rw [hw0]; exact HS.out
  rw [← hw0] at hTo ⊢
  clear hw0 c0 c1 c3 f1 f2 HS
  obtain ⟨ys, hys⟩ : ∃ ys, ys = sw xs a pv x0 p := ⟨_, rfl⟩
  rw [← hys] at hE hR HP0
  clear hys
  have hp := HP0
  have HYL := Lib.hid (hp.out.len.trans HL.out)
  have HFY := Lib.hid (HF.out.perm hp.out.perm)
  go_upto_block 0 with fail
  go_cut [10] from 30 to 45 (fun si wx => ∃ i' : Nat, si = .int .i64 i' ∧ i ≤ i' ∧ i' ≤ J ∧ Hid (PtI a b i' J p ys) ∧ Hid (i' = J ∨ ∃ x, ys[i']? = some x ∧ ltW x p = false) ∧ RowF wx g n c ys ∧ Touch g (g + 1) w wx)
  case first =>
    go_wp2_with fail
    go_loopw [10] (fun si wr => ∃ i' : Nat, si = .int .i64 i' ∧ i ≤ i' ∧ i' ≤ J ∧ Hid (PtI a b i' J p ys) ∧ RowF wr g n c ys ∧ Touch g (g + 1) w wr) (fun si _ => J + 1 - (intOf si).toNat)
    case atStart => exact ⟨i, rfl, Nat.le_refl _, hiJ, hE, hR, hTo⟩
    case round =>
      clear hE hR hTo
      obtain ⟨i', rfl, hi1, hi2, hE, hR, hTo⟩ := hrel
      have HPA := Lib.hid hE.out.at_
      have HRY := Lib.hid hR
      by_cases hlt : i' < J
      · obtain ⟨x, hx⟩ := get_ex (xs := ys) (i := i') (by rw [HYL.out]; omega)
        have cA : wr.cell? ⟨g, a, none⟩ = some (fV p) := hR.at HPA.out
        have cX : wr.cell? ⟨g, i', none⟩ = some (fV x) := hR.at hx
        have HCL := Lib.hid (less_q (HFY.out.at hx) (HFY.out.at HPA.out) wr)
        have HX := Lib.hid hx
        have hg : decide ((i' : Int) ≤ jz) = true := decide_eq_true (by have := HJ.out; omega)
        have y0 : (0 : Int) ≤ (i' : Int) := by omega
        have y1 : (i' : Int) < (n : Int) := by omega
        clear hR hx
        cases hlc : ltW x p
        · have HLC := Lib.hid hlc
          go_wp2_with fail
          go_quiet (exact HCL.out _)
          go_wp2_with fail
          go_meet
          case rel => exact ⟨i', rfl, hi1, hi2, hE, .inr ⟨x, HX.out, HLC.out⟩, HRY.out.drewN _, touch_drewN hTo _⟩
        · have HLC := Lib.hid hlc
          go_wp2_with fail
          go_quiet (exact HCL.out _)
          go_wp2_with fail
          go_roundw
          case rel => exact ⟨i' + 1, by go_num, by omega, by omega, hE.out.more HX.out HLC.out, HRY.out.drewN _, touch_drewN hTo _⟩
          case measure => simp [intOf]; omega
      · have hg : decide ((i' : Int) ≤ jz) = false := decide_eq_false (by have := HJ.out; omega)
        clear hR
        go_wp2_with fail
        go_quiet (fail)
        go_wp2_with fail
        go_meet
        case rel => exact ⟨i', rfl, hi1, hi2, hE, .inl (by omega), HRY.out.drewN _, touch_drewN hTo _⟩
  obtain ⟨wI, hwc⟩ : ∃ W, W = wc := ⟨_, rfl⟩
  subst hwc
  clear hE hR hTo
  obtain ⟨i2, rfl, hi1', hiJ2, hE, hXi, hR, hTo⟩ := hcut

  go_upto_block 2 with fail
  go_cut [11] from 46 to 62 (fun sj wx => ∃ (J' : Nat) (jz' : Int), sj = .int .i64 jz' ∧ Hid (jz' = (J' : Int) - 1) ∧ i2 ≤ J' ∧ J' ≤ J ∧ Hid (PtI a b i2 J' p ys) ∧ Hid (i2 = J' ∨ ∃ x, ys[J' - 1]? = some x ∧ ltW x p = true) ∧ RowF wx g n c ys ∧ Touch g (g + 1) w wx)
  case first =>
    go_wp2_with fail
    go_loopw [11] (fun sj wr => ∃ (J' : Nat) (jz' : Int), sj = .int .i64 jz' ∧ Hid (jz' = (J' : Int) - 1) ∧ i2 ≤ J' ∧ J' ≤ J ∧ Hid (PtI a b i2 J' p ys) ∧ RowF wr g n c ys ∧ Touch g (g + 1) w wr) (fun sj _ => (intOf sj + 1).toNat)
    case atStart => exact ⟨J, jz, rfl, HJ, hiJ2, Nat.le_refl _, hE, hR, hTo⟩
    case round =>
      clear hE hR hTo
      obtain ⟨J', jz', rfl, hJz, hj1, hj2, hE, hR, hTo⟩ := hrel
      have HPA := Lib.hid hE.out.at_
      have HRY := Lib.hid hR
      by_cases hlt : i2 < J'
      · obtain ⟨j, rfl⟩ : ∃ j, J' = j + 1 := ⟨J' - 1, by omega⟩
        have hjz : jz' = (j : Int) := by have := hJz.out; omega
        clear hJz
        subst hjz
        obtain ⟨x, hx⟩ := get_ex (xs := ys) (i := j) (by rw [HYL.out]; omega)
        have cA : wr.cell? ⟨g, a, none⟩ = some (fV p) := hR.at HPA.out
        have cX : wr.cell? ⟨g, j, none⟩ = some (fV x) := hR.at hx
        have HCL := Lib.hid (less_q (HFY.out.at hx) (HFY.out.at HPA.out) wr)
        have HX := Lib.hid hx
        have hg : decide ((i2 : Int) ≤ (j : Int)) = true := decide_eq_true (by omega)
        have hg' : decide (i2 ≤ j) = true := decide_eq_true (by omega)
        have y0 : (0 : Int) ≤ (j : Int) := by omega
        have y1 : (j : Int) < (n : Int) := by omega
        clear hR hx
        cases hlc : ltW x p
        · have HLC := Lib.hid hlc
          go_wp2_with fail
          go_quiet (exact HCL.out _)
          go_wp2_with fail
          go_roundw
          case rel => exact ⟨j, (j : Int) - 1, by go_num, rfl, by omega, by omega, hE.out.less HX.out HLC.out, HRY.out.drewN _, touch_drewN hTo _⟩
          case measure => first | (simp [intOf]; done) | (simp [intOf]; omega)
        · have HLC := Lib.hid hlc
          go_wp2_with fail
          go_quiet (exact HCL.out _)
          go_wp2_with fail
          go_meet
          case rel => exact ⟨j + 1, (j : Int), rfl, by unfold Hid; omega, by omega, by omega, hE, .inr ⟨x, by rw [Nat.add_sub_cancel]; exact HX.out, HLC.out⟩, HRY.out.drewN _, touch_drewN hTo _⟩
      · have hg : decide ((i2 : Int) ≤ jz') = false := decide_eq_false (by have := hJz.out; omega)
        clear hR
        go_wp2_with fail
        go_quiet (fail)
        go_wp2_with fail
        go_meet
        case rel => exact ⟨J', jz', rfl, hJz, hj1, hj2, hE, .inl (by omega), HRY.out.drewN _, touch_drewN hTo _⟩
  obtain ⟨wJ, hwc⟩ : ∃ W, W = wc := ⟨_, rfl⟩
  subst hwc
  clear hE hR hTo
  obtain ⟨J2, jz2, rfl, HJ2, hj1', hJ2J, hE, hXj, hR, hTo⟩ := hcut

  by_cases hend : i2 = J2
  · obtain ⟨m, rfl⟩ : ∃ m, J2 = m + 1 := ⟨J2 - 1, by omega⟩
    have hjz2 : jz2 = (m : Int) := by have := HJ2.out; omega
    clear HJ2
    subst hjz2
    subst hend
    have ham : a ≤ m := by omega
    obtain ⟨x, hx⟩ := get_ex (xs := ys) (i := m) (by rw [HYL.out]; omega)
    have hpa := hE.out.at_
    have cX : wJ.cell? ⟨g, m, none⟩ = some (fV x) := hR.at hx
    have cA : wJ.cell? ⟨g, a, none⟩ = some (fV p) := hR.at hpa
    have f1 := hR.free m
    have f2 := hR.free a
    have c3 : (wJ.setCell ⟨g, m, none⟩ (fV p)).cell? ⟨g, a, none⟩ = some (fV p) := swap_cell_any hR hx hpa
    have y0 : (0 : Int) ≤ (m : Int) := by omega
    have y1 : (m : Int) < (n : Int) := by omega
    have hgt : ((m + 1 : Nat) : Int) > (m : Int) := by omega
    have HSF := Lib.hid (hR.sw m a x p).drew
    have HPF := Lib.hid (hp.out.trans (PR.sw (a := a) (b := b) hx hpa ham (by omega) (Nat.le_refl _) (by omega)))
    have HEF := Lib.hid (hE.out.fin ham hx)
    have HTF := Lib.hid (hTo.trans ((touch_swap wJ g m a (fV p) (fV x)).trans (touch_drewN (touch_refl _ _ _) 1)))
    clear hR hx hpa hXi hXj
    go_wp2_with fail
    go_region
    go_wp2
    go_ret2
    exact ⟨m, p, true, _, rfl, ham, by omega, HSF.out, HPF.out, HEF.out, HTF.out⟩
  have hlt2 : i2 < J2 := by omega

  have HYL2 := HYL.out
  obtain ⟨j, rfl⟩ : ∃ j, J2 = j + 1 := ⟨J2 - 1, by omega⟩
  have hjz2 : jz2 = (j : Int) := by have := HJ2.out; omega
  clear HJ2
  subst hjz2
  obtain ⟨x, hx, hlx⟩ : ∃ x, ys[i2]? = some x ∧ ltW x p = false := by
    rcases hXi.out with h | h
    · omega
    · exact h
  obtain ⟨y, hy, hly⟩ : ∃ y, ys[j]? = some y ∧ ltW y p = true := by
    rcases hXj.out with h | h
    · omega
    · rw [Nat.add_sub_cancel] at h; exact h
  have hij : i2 ≠ j := fun e => by
    subst e
    rw [hx] at hy
    cases hy
    rw [hlx] at hly
    cases hly
  have cX : wJ.cell? ⟨g, i2, none⟩ = some (fV x) := hR.at hx
  have cY : wJ.cell? ⟨g, j, none⟩ = some (fV y) := hR.at hy
  have f1 := hR.free i2
  have f2 := hR.free j
  have c3 : (wJ.setCell ⟨g, i2, none⟩ (fV y)).cell? ⟨g, j, none⟩ = some (fV y) := swap_cell hR (fun e => hij e.symm) hy
  have y0 : (0 : Int) ≤ (i2 : Int) := by omega
  have y1 : (i2 : Int) < (n : Int) := by omega
  have y2 : (0 : Int) ≤ (j : Int) := by omega
  have y3 : (j : Int) < (n : Int) := by omega
  have HS := Lib.hid (hR.sw i2 j x y).drew
  have HPS := Lib.hid (hp.out.trans (PR.sw (a := a) (b := b) hx hy (by omega) (by omega) (by omega) (by omega)))
  have HES := Lib.hid (hE.out.swap (by omega) (by omega) hx hy hlx hly)
  have HTS : Hid (Touch g (g + 1) w ((wJ.setCell ⟨g, i2, none⟩ (fV y)).setCell ⟨g, j, none⟩ (fV x)).drew) := hTo.trans ((touch_swap wJ g i2 j (fV y) (fV x)).trans (touch_drewN (touch_refl _ _ _) 1))
  have hgt : ¬ (i2 : Int) > (j : Int) := by omega
  clear hR hx hy hlx hly hXi hXj HYL2
  go_wp2_with fail
  go_region
  go_wp2_with fail
  obtain ⟨w6, hw6⟩ : ∃ W, W = ((wJ.setCell ⟨g, i2, none⟩ (fV y)).setCell ⟨g, j, none⟩ (fV x)).drew := ⟨_, rfl⟩
  rw [← hw6] at HS HTS ⊢
  clear hw6 cX cY c3 f1 f2
  go_loopw [10, 11] (fun si sj wr => ∃ (i J : Nat) (jz : Int) (ys : List Nat), si = .int .i64 i ∧ sj = .int .i64 jz ∧ Hid (jz = (J : Int) - 1) ∧ a + 1 ≤ i ∧ i ≤ J ∧ J ≤ b ∧ Hid (PR a b xs ys) ∧ Hid (PtI a b i J p ys) ∧ RowF wr g n c ys ∧ Touch g (g + 1) w wr) (fun si _ _ => b + 1 - (intOf si).toNat)
  case atStart => exact ⟨i2 + 1, j, (j : Int) - 1, _, by go_num, by go_num, rfl, by omega, by omega, by omega, HPS.out, HES.out, HS.out, HTS.out⟩
  case round =>
    clear hp hE HYL HFY HS HPS HES HTS HJ hi0 hiJ hJb e1 e2 e3
    obtain ⟨i, J, jz, ys, rfl, rfl, HJ, hi0, hiJ, hJb, hp, hE, hR, hTo⟩ := hrel
    have HYL := Lib.hid (hp.out.len.trans HL.out)
    have HFY := Lib.hid (HF.out.perm hp.out.perm)
    go_upto_block 6 with fail
    go_cut [10] from 99 to 114 (fun si wx => ∃ i' : Nat, si = .int .i64 i' ∧ i ≤ i' ∧ i' ≤ J ∧ Hid (PtI a b i' J p ys) ∧ Hid (i' = J ∨ ∃ x, ys[i']? = some x ∧ ltW x p = false) ∧ RowF wx g n c ys ∧ Touch g (g + 1) w wx)
    case first =>
      go_wp2_with fail
      go_loopw [10] (fun si wr => ∃ i' : Nat, si = .int .i64 i' ∧ i ≤ i' ∧ i' ≤ J ∧ Hid (PtI a b i' J p ys) ∧ RowF wr g n c ys ∧ Touch g (g + 1) w wr) (fun si _ => J + 1 - (intOf si).toNat)
      case atStart => exact ⟨i, rfl, Nat.le_refl _, hiJ, hE, hR, hTo⟩
      case round =>
        clear hE hR hTo
        obtain ⟨i', rfl, hi1, hi2, hE, hR, hTo⟩ := hrel
        have HPA := Lib.hid hE.out.at_
        have HRY := Lib.hid hR
        by_cases hlt : i' < J
        · obtain ⟨x, hx⟩ := get_ex (xs := ys) (i := i') (by rw [HYL.out]; omega)
          have cA : wr.cell? ⟨g, a, none⟩ = some (fV p) := hR.at HPA.out
          have cX : wr.cell? ⟨g, i', none⟩ = some (fV x) := hR.at hx
          have HCL := Lib.hid (less_q (HFY.out.at hx) (HFY.out.at HPA.out) wr)
          have HX := Lib.hid hx
          have hg : decide ((i' : Int) ≤ jz) = true := decide_eq_true (by have := HJ.out; omega)
          have y0 : (0 : Int) ≤ (i' : Int) := by omega
          have y1 : (i' : Int) < (n : Int) := by omega
          clear hR hx
          cases hlc : ltW x p
          · have HLC := Lib.hid hlc
            go_wp2_with fail
            go_quiet (exact HCL.out _)
            go_wp2_with fail
            go_meet
            case rel => exact ⟨i', rfl, hi1, hi2, hE, .inr ⟨x, HX.out, HLC.out⟩, HRY.out.drewN _, touch_drewN hTo _⟩
          · have HLC := Lib.hid hlc
            go_wp2_with fail
            go_quiet (exact HCL.out _)
            go_wp2_with fail
            go_roundw
            case rel => exact ⟨i' + 1, by go_num, by omega, by omega, hE.out.more HX.out HLC.out, HRY.out.drewN _, touch_drewN hTo _⟩
            case measure => simp [intOf]; omega
        · have hg : decide ((i' : Int) ≤ jz) = false := decide_eq_false (by have := HJ.out; omega)
          clear hR
          go_wp2_with fail
          go_quiet (fail)
          go_wp2_with fail
          go_meet
          case rel => exact ⟨i', rfl, hi1, hi2, hE, .inl (by omega), HRY.out.drewN _, touch_drewN hTo _⟩
    obtain ⟨wI, hwc⟩ : ∃ W, W = wc := ⟨_, rfl⟩
    subst hwc
    clear hE hR hTo
    obtain ⟨i2, rfl, hi1', hiJ2, hE, hXi, hR, hTo⟩ := hcut
    go_upto_block 8 with fail
    go_cut [11] from 115 to 131 (fun sj wx => ∃ (J' : Nat) (jz' : Int), sj = .int .i64 jz' ∧ Hid (jz' = (J' : Int) - 1) ∧ i2 ≤ J' ∧ J' ≤ J ∧ Hid (PtI a b i2 J' p ys) ∧ Hid (i2 = J' ∨ ∃ x, ys[J' - 1]? = some x ∧ ltW x p = true) ∧ RowF wx g n c ys ∧ Touch g (g + 1) w wx)
    case first =>
      go_wp2_with fail
      go_loopw [11] (fun sj wr => ∃ (J' : Nat) (jz' : Int), sj = .int .i64 jz' ∧ Hid (jz' = (J' : Int) - 1) ∧ i2 ≤ J' ∧ J' ≤ J ∧ Hid (PtI a b i2 J' p ys) ∧ RowF wr g n c ys ∧ Touch g (g + 1) w wr) (fun sj _ => (intOf sj + 1).toNat)
      case atStart => exact ⟨J, jz, rfl, HJ, hiJ2, Nat.le_refl _, hE, hR, hTo⟩
      case round =>
        clear hE hR hTo
        obtain ⟨J', jz', rfl, hJz, hj1, hj2, hE, hR, hTo⟩ := hrel
        have HPA := Lib.hid hE.out.at_
        have HRY := Lib.hid hR
        by_cases hlt : i2 < J'
        · obtain ⟨j, rfl⟩ : ∃ j, J' = j + 1 := ⟨J' - 1, by omega⟩
          have hjz : jz' = (j : Int) := by have := hJz.out; omega
          clear hJz
          subst hjz
          obtain ⟨x, hx⟩ := get_ex (xs := ys) (i := j) (by rw [HYL.out]; omega)
          have cA : wr.cell? ⟨g, a, none⟩ = some (fV p) := hR.at HPA.out
          have cX : wr.cell? ⟨g, j, none⟩ = some (fV x) := hR.at hx
          have HCL := Lib.hid (less_q (HFY.out.at hx) (HFY.out.at HPA.out) wr)
          have HX := Lib.hid hx
          have hg : decide ((i2 : Int) ≤ (j : Int)) = true := decide_eq_true (by omega)
          have hg' : decide (i2 ≤ j) = true := decide_eq_true (by omega)
          have y0 : (0 : Int) ≤ (j : Int) := by omega
          have y1 : (j : Int) < (n : Int) := by omega
          clear hR hx
          cases hlc : ltW x p
          · have HLC := Lib.hid hlc
            go_wp2_with fail
            go_quiet (exact HCL.out _)
            go_wp2_with fail
            go_roundw
            case rel => exact ⟨j, (j : Int) - 1, by go_num, rfl, by omega, by omega, hE.out.less HX.out HLC.out, HRY.out.drewN _, touch_drewN hTo _⟩
            case measure => first | (simp [intOf]; done) | (simp [intOf]; omega)
          · have HLC := Lib.hid hlc
            go_wp2_with fail
            go_quiet (exact HCL.out _)
            go_wp2_with fail
            go_meet
            case rel => exact ⟨j + 1, (j : Int), rfl, by unfold Hid; omega, by omega, by omega, hE, .inr ⟨x, by rw [Nat.add_sub_cancel]; exact HX.out, HLC.out⟩, HRY.out.drewN _, touch_drewN hTo _⟩
        · have hg : decide ((i2 : Int) ≤ jz') = false := decide_eq_false (by have := hJz.out; omega)
          clear hR
          go_wp2_with fail
          go_quiet (fail)
          go_wp2_with fail
          go_meet
          case rel => exact ⟨J', jz', rfl, hJz, hj1, hj2, hE, .inl (by omega), HRY.out.drewN _, touch_drewN hTo _⟩
    obtain ⟨wJ, hwc⟩ : ∃ W, W = wc := ⟨_, rfl⟩
    subst hwc
    clear hE hR hTo
    obtain ⟨J2, jz2, rfl, HJ2, hj1', hJ2J, hE, hXj, hR, hTo⟩ := hcut
    by_cases hend : i2 = J2
    · obtain ⟨m, rfl⟩ : ∃ m, J2 = m + 1 := ⟨J2 - 1, by omega⟩
      have hjz2 : jz2 = (m : Int) := by have := HJ2.out; omega
      clear HJ2
      subst hjz2
      subst hend
      have ham : a ≤ m := by omega
      obtain ⟨x, hx⟩ := get_ex (xs := ys) (i := m) (by rw [HYL.out]; omega)
      have hpa := hE.out.at_
      have cX : wJ.cell? ⟨g, m, none⟩ = some (fV x) := hR.at hx
      have cA : wJ.cell? ⟨g, a, none⟩ = some (fV p) := hR.at hpa
      have f1 := hR.free m
      have f2 := hR.free a
      have c3 : (wJ.setCell ⟨g, m, none⟩ (fV p)).cell? ⟨g, a, none⟩ = some (fV p) := swap_cell_any hR hx hpa
      have y0 : (0 : Int) ≤ (m : Int) := by omega
      have y1 : (m : Int) < (n : Int) := by omega
      have hgt : ((m + 1 : Nat) : Int) > (m : Int) := by omega
      have HSF := Lib.hid (hR.sw m a x p).drew
      have HPF := Lib.hid (hp.out.trans (PR.sw (a := a) (b := b) hx hpa ham (by omega) (Nat.le_refl _) (by omega)))
      have HEF := Lib.hid (hE.out.fin ham hx)
      have HTF := Lib.hid (hTo.trans ((touch_swap wJ g m a (fV p) (fV x)).trans (touch_drewN (touch_refl _ _ _) 1)))
      clear hR hx hpa hXi hXj
      go_wp2_with fail
      go_region
      go_wp2
      go_ret2
      exact ⟨m, p, false, _, rfl, ham, by omega, HSF.out, HPF.out, HEF.out, HTF.out⟩
    have hlt2 : i2 < J2 := by omega
    have HYL2 := HYL.out
    obtain ⟨j, rfl⟩ : ∃ j, J2 = j + 1 := ⟨J2 - 1, by omega⟩
    have hjz2 : jz2 = (j : Int) := by have := HJ2.out; omega
    clear HJ2
    subst hjz2
    obtain ⟨x, hx, hlx⟩ : ∃ x, ys[i2]? = some x ∧ ltW x p = false := by
      rcases hXi.out with h | h
      · omega
      · exact h
    obtain ⟨y, hy, hly⟩ : ∃ y, ys[j]? = some y ∧ ltW y p = true := by
      rcases hXj.out with h | h
      · omega
      · rw [Nat.add_sub_cancel] at h; exact h
    have hij : i2 ≠ j := fun e => by
      subst e
      rw [hx] at hy
      cases hy
      rw [hlx] at hly
      cases hly
    have cX : wJ.cell? ⟨g, i2, none⟩ = some (fV x) := hR.at hx
    have cY : wJ.cell? ⟨g, j, none⟩ = some (fV y) := hR.at hy
    have f1 := hR.free i2
    have f2 := hR.free j
    have c3 : (wJ.setCell ⟨g, i2, none⟩ (fV y)).cell? ⟨g, j, none⟩ = some (fV y) := swap_cell hR (fun e => hij e.symm) hy
    have y0 : (0 : Int) ≤ (i2 : Int) := by omega
    have y1 : (i2 : Int) < (n : Int) := by omega
    have y2 : (0 : Int) ≤ (j : Int) := by omega
    have y3 : (j : Int) < (n : Int) := by omega
    have HS := Lib.hid (hR.sw i2 j x y).drew
    have HPS := Lib.hid (hp.out.trans (PR.sw (a := a) (b := b) hx hy (by omega) (by omega) (by omega) (by omega)))
    have HES := Lib.hid (hE.out.swap (by omega) (by omega) hx hy hlx hly)
    have HTS : Hid (Touch g (g + 1) w ((wJ.setCell ⟨g, i2, none⟩ (fV y)).setCell ⟨g, j, none⟩ (fV x)).drew) := hTo.trans ((touch_swap wJ g i2 j (fV y) (fV x)).trans (touch_drewN (touch_refl _ _ _) 1))
    have hgt : ¬ (i2 : Int) > (j : Int) := by omega
    clear hR hx hy hlx hly hXi hXj HYL2
    go_wp2_with fail
    go_region
    go_wp2_with fail
    go_roundw
    case rel => exact ⟨i2 + 1, j, (j : Int) - 1, _, by go_num, by go_num, rfl, by omega, by omega, by omega, HPS.out, HES.out, HS.out, HTS.out⟩
    case measure => simp [intOf]; omega
end
end
end Go.Proofs.YtjajlddnhmbekaaGreat
