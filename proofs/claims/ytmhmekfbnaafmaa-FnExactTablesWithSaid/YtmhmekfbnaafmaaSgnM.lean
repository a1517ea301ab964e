/-
  Counts of ways by sums: what a map of them holds, key by key; impl.countWhere.
-/
import Derived.Test.YtmhmekfbnaafmaaIdxFunc
import Derived.Test.YtmhmekfbnaafmaaJoin
import Derived.Maps.RangeWalk
import Derived.Maps.Ext
import Derived.Maps.OwnOps
namespace Go.Proofs.Ytmhmekfbnaafmaa
open Go.RowKit Go.Maps

/-! ### plain -/
def kI (s : Int) : Lit := .int .i64 s
def inI (s : Int) : Prop := -9223372036854775808 ≤ s ∧ s ≤ 9223372036854775807
theorem wf_of_inI {s : Int} (h : inI s) : (kI s).wf = true := WalkArith.wf_i64 (by unfold inI at h; omega)
theorem kI_isKey (s : Int) : WideAt.IsKeyLit (kI s) := trivial
theorem kI_ne {s x : Int} (h : s ≠ x) : kI s ≠ kI x := fun e => h (by unfold kI at e; injection e)
/-- What a map of counts holds. -/
def MapIs (D : DataW Unit) (f : Int → Int) : Prop := ∀ s, D.atKey (kI s) (.lit (.int .i64 0)) = .lit (.int .i64 (f s))
/-- .. and where its keys lie. -/
def KeysIn (D : DataW Unit) (B : Int) : Prop := ∀ s, has D (kI s) = true → 0 ≤ s ∧ s ≤ B
/-- What is done: the counts of those keys that have come. -/
def dn (left : Lit → Bool) (f : Int → Int) (s : Int) : Int := if left (kI s) then 0 else f s
theorem mapIs_none {D : DataW Unit} {f : Int → Int} (h : MapIs D f) {s : Int} (hs : has D (kI s) = false) : f s = 0 := by
  have := h s
  rw [atKey_of_not_has hs] at this
  injection this with this
  injection this with _ this
  exact this.symm
theorem dn_start {D : DataW Unit} {f : Int → Int} (h : MapIs D f) (s : Int) : dn (has D) f s = 0 := by
  unfold dn
  cases hs : has D (kI s)
  · simp [mapIs_none h hs]
  · simp
theorem dn_end {left : Lit → Bool} {f : Int → Int} (h : ∀ kl, left kl = false) (s : Int) : dn left f s = f s := by unfold dn; rw [h]; simp
theorem dn_step (left : Lit → Bool) (f : Int → Int) (x s : Int) : dn (fun z => left z && !z.sameKey (kI x)) f s = if s = x then f s else dn left f s := by
  unfold dn
  by_cases e : s = x
  · subst e
    simp [WideAt.sameKey_self (kI_isKey s)]
  · rw [if_neg e]
    show (if (left (kI s) && !(kI s).sameKey (kI x)) = true then 0 else f s) = _
    rw [sameKey_ne (kI_ne e)]
    simp
theorem dn_left {left : Lit → Bool} {f : Int → Int} {x : Int} (h : left (kI x) = true) : dn left f x = 0 := by unfold dn; rw [h]; simp
theorem atKey_val {D : DataW Unit} {f : Int → Int} (h : MapIs D f) {x c : Int} (hat : ∀ zd, D.atKey (kI x) zd = .lit (.int .i64 c)) : c = f x := by
  have := (hat (.lit (.int .i64 0))).symm.trans (h x)
  injection this with this
  injection this with _ this
theorem keys_of {D : DataW Unit} {B x c : Int} (h : KeysIn D B) (hat : ∀ zd, D.atKey (kI x) zd = .lit (.int .i64 c)) : 0 ≤ x ∧ x ≤ B := h x (has_true_of_atKey hat)
theorem keysIn_mono {D : DataW Unit} {B B' : Int} (h : KeysIn D B) (hb : B ≤ B') : KeysIn D B' := fun s hs => ⟨(h s hs).1, Int.le_trans (h s hs).2 hb⟩
theorem keysIn_put {D : DataW Unit} {B x : Int} {d : DataW Unit} (h : KeysIn D B) (hx : 0 ≤ x ∧ x ≤ B) : KeysIn (D.put (kI x) d) B := fun s hs => by
  by_cases e : s = x
  · rw [e]; exact hx
  · rw [has_put_other (kI_ne e)] at hs
    exact h s hs
theorem mapIs_put {D : DataW Unit} (hm : IsMap D) {f g : Int → Int} {x c : Int} (h : MapIs D f) (hc : c = g x) (ho : ∀ s, s ≠ x → g s = f s) : MapIs (D.put (kI x) (.lit (.int .i64 c))) g := fun s => by
  by_cases e : s = x
  · rw [e, atKey_put_same hm (kI_isKey x), hc]
  · rw [atKey_put_other (kI_ne e), h s, ho s e]
/-- The numbers below n, added up. -/
def sumTo (g : Int → Int) : Nat → Int
  | 0 => 0
  | n + 1 => sumTo g n + g n
theorem sumTo_congr {g h : Int → Int} : ∀ {n : Nat}, (∀ k : Nat, k < n → g k = h k) → sumTo g n = sumTo h n
  | 0, _ => rfl
  | n + 1, hh => by simp only [sumTo]; rw [sumTo_congr (fun k hk => hh k (by omega)), hh n (by omega)]
theorem sumTo_zero {g : Int → Int} {n : Nat} (h : ∀ k : Nat, k < n → g k = 0) : sumTo g n = 0 := by
  induction n with
  | zero => rfl
  | succ n ih => simp only [sumTo]; rw [ih (fun k hk => h k (by omega)), h n (by omega)]; rfl
theorem sumTo_at {g h : Int → Int} {x : Int} (ho : ∀ s, s ≠ x → h s = g s) : ∀ {n : Nat}, 0 ≤ x → x < n → sumTo h n = sumTo g n + (h x - g x)
  | 0, h0, h1 => absurd h1 (by omega)
  | n + 1, h0, h1 => by
    simp only [sumTo]
    by_cases e : x = n
    · rw [sumTo_congr (g := h) (h := g) (fun k hk => ho k (by omega)), e]; omega
    · rw [sumTo_at ho h0 (by omega), ho n (by omega)]; omega
theorem sumTo_more {g : Int → Int} {n m : Nat} (hnm : n ≤ m) (h : ∀ k : Nat, n ≤ k → k < m → g k = 0) : sumTo g m = sumTo g n := by
  induction m with
  | zero => have : n = 0 := by omega
            subst this; rfl
  | succ m ih =>
    by_cases e : n = m + 1
    · rw [e]
    · simp only [sumTo]; rw [ih (by omega) (fun k h1 h2 => h k h1 (by omega)), h m (by omega) (by omega)]; omega
/-- In how many ways a sum is as told. -/
def whereN (f : Int → Int) (p : Int → Bool) (B : Nat) : Int := wrap64 (sumTo (fun s => if p s then f s else 0) (B + 1))
def pick (p : Int → Bool) (g : Int → Int) (s : Int) : Int := if p s then g s else 0
theorem whereN_step {left : Lit → Bool} {f : Int → Int} {p : Int → Bool} {B : Nat} {x : Int} (hx : 0 ≤ x ∧ x ≤ B) (hl : left (kI x) = true) :
    wrap64 (sumTo (pick p (dn (fun z => left z && !z.sameKey (kI x)) f)) (B + 1)) = if p x then wrap64 (wrap64 (sumTo (pick p (dn left f)) (B + 1)) + f x) else wrap64 (sumTo (pick p (dn left f)) (B + 1)) := by
  have h := sumTo_at (g := pick p (dn left f)) (h := pick p (dn (fun z => left z && !z.sameKey (kI x)) f)) (x := x) (fun s hs => by unfold pick; rw [dn_step, if_neg hs]) (n := B + 1) hx.1 (by omega)
  have e1 : pick p (dn left f) x = 0 := by unfold pick; rw [dn_left hl]; simp
  have e2 : pick p (dn (fun z => left z && !z.sameKey (kI x)) f) x = if p x then f x else 0 := by unfold pick; rw [dn_step, if_pos rfl]
  rw [h, e1, e2]
  cases p x
  · simp
  · simp only [if_true]; unfold wrap64; omega

/-! ### impl.countWhere -/
theorem lawK : Keyed Try.prog 2 := int_keyed Try.underlying2
theorem zeroK (w : World) : (zeroValue 2).run Try.prog w = .ok (.int .i64 0) w := by kernel_rfl

theorem ranges_drewN {w : World} {b r n m : Nat} {D : DataW Unit} {left : Lit → Bool} {cnt : Nat} (h : w.ranges Try.prog 2 (plainElem Try.prog 2) b r n D left cnt) : (w.drewN m).ranges Try.prog 2 (plainElem Try.prog 2) b r n D left cnt := h

set_option maxRecDepth 100000 in
set_option maxHeartbeats 1000000 in
theorem countWhere_any (p : Int → Bool) (K : Nat) (cp : Array Value) (b n B : Nat) (f : Int → Int) (D : DataW Unit)
    (hK : ∀ (args : Array Value) (w : World), (callFunc K args).run Try.prog w = .ok (.enter K args) w) (w : World) (hown : w.ownsMap Try.prog 2 (plainElem Try.prog 2) b n D) (hD : MapIs D f) (hB : KeysIn D B)
    (hC : ∀ (x : Int) (W : World), Below w.heap.size w W → Calls Try.prog K (#[iV x] ++ cp) W fun e w' => e = .returned (.bool (p x)) ∧ ∃ n, W.drewN n = w') :
    Calls Try.prog 37 #[.map (some b), .func (.func K) #[] cp] w fun e w' => e = .returned (.int .i64 (whereN f p B)) ∧ Below w.heap.size w w' := by
  have hbl := hown.lt
  have HC := Lib.hid hC
  have HD := Lib.hid hD
  have HB := Lib.hid hB
  clear hC hD hB
  go_enter Try.func37, Try.ntmps37
  go_wp2_with (first
    | (at_range; refine wpList_range_own _ rfl _ 54 rfl 2 2 lawK Try.underlying54 _ b n _ rfl hown ?_; intro w0 hrg0 hg0 hs0)
    | go_in)
  go_frame
  go_loopw [5] (fun sa wr => ∃ (left : Lit → Bool) (cnt : Nat), wr.ranges Try.prog 2 (plainElem Try.prog 2) b w.heap.size n D left cnt ∧ sa = .int .i64 (wrap64 (sumTo (pick p (dn left f)) (B + 1))) ∧ Below w.heap.size w wr)
    (fun _ wr => wr.rangeLeft b w.heap.size)
  case atStart =>
    refine ⟨_, _, hrg0, ?_, (Below.refl _ _).grown hg0 (by simp) (fun j hj => by cases hj)⟩
    rw [sumTo_zero (fun k _ => by unfold pick; rw [dn_start HD.out]; simp)]
    exact congrArg (Value.int .i64) (by unfold wrap64; omega)
  case round =>
    obtain ⟨left, cnt, hrg, rfl, hnx⟩ := hrel
    obtain ⟨sa, hsa⟩ : ∃ sa, sa = wrap64 (sumTo (pick p (dn left f)) (B + 1)) := ⟨_, rfl⟩
    have HS := Lib.hid hsa
    rw [← hsa]
    clear hsa
    go_wp2_with (first
      | (at_next; refine wpList_next_ranges_ii _ rfl _ rfl 2 2 .i64 .i64 lawK Try.underlying2 Try.underlying2 b w.heap.size n _ _ _ rfl hrg ?_ ?_)
      | go_in)
    · intro hc0 hl0
      go_wp2
      go_ret
      refine ⟨?_, hnx⟩
      rw [HS.out]
      unfold whereN
      rw [sumTo_congr (g := pick p (dn left f)) (h := fun s => if p s then f s else 0) (fun k _ => by unfold pick; rw [dn_end hl0])]
      rfl
    · intro x c w1 cnt1 hwx hwc hlx hat hrg1 hlt hg1 hs1 hen
      have hnx1 : Below w.heap.size w w1 := hnx.grown hg1 hnx.size (fun j hj => by cases hj; exact Nat.le_refl _)
      have hcx : c = f x := atKey_val HD.out hat
      have hxb := keys_of HB.out hat
      have hst := whereN_step (left := left) (f := f) (p := p) (B := B) hxb hlx
      rw [← HS.out, ← hcx] at hst
      have HST := Lib.hid hst
      have HRG := Lib.hid hrg1
      have HCX := Lib.hid hcx
      clear hst hcx hrg1 hxb
      go_wp2_with fail
      refine (HC.out x _ hnx1).mono ?_
      rintro e w' ⟨rfl, m, rfl⟩
      have hnx2 : Below w.heap.size w (w1.drewN m) := below_to hnx1 (below_of_drew ⟨m, rfl⟩) hnx1.size
      cases hp : p x
      · have HP := Lib.hid hp
        go_wp2
        go_roundw
        case rel => exact ⟨_, cnt1, ranges_drewN HRG.out, (congrArg (Value.int .i64) (HST.out.trans (by rw [HP.out]; simp))).symm, hnx2⟩
        case measure => rw [World.ranges.left_eq (ranges_drewN (m := m) HRG.out), hrg.left_eq]; exact hlt
      · have HP := Lib.hid hp
        go_wp2
        go_roundw
        case rel => exact ⟨_, cnt1, ranges_drewN HRG.out, (congrArg (Value.int .i64) (HST.out.trans (by rw [HP.out]; simp))).symm, hnx2⟩
        case measure => rw [World.ranges.left_eq (ranges_drewN (m := m) HRG.out), hrg.left_eq]; exact hlt
end Go.Proofs.Ytmhmekfbnaafmaa
