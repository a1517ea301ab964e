/-
  Ways of choosing so many numbers, by their sums: masks, counts, and what a map of counts holds whose keys may be less than 0; impl.countWhere there.
-/
import Derived.Test.YtmhmekfbnaafmaaSgnM
import Derived.Test.YtmhmekfbnaafmaaChoose
namespace Go.Proofs.Ytmhmekfbnaafmaa
open Go.RowKit Go.Maps

/-! ### masks -/
def sumR (g : Nat → Nat) : Nat → Nat
  | 0 => 0
  | n + 1 => sumR g n + g n
theorem sumR_congr {g h : Nat → Nat} : ∀ {n : Nat}, (∀ k, k < n → g k = h k) → sumR g n = sumR h n
  | 0, _ => rfl
  | n + 1, hh => by simp only [sumR]; rw [sumR_congr (fun k hk => hh k (by omega)), hh n (by omega)]
theorem sumR_add (g : Nat → Nat) (a : Nat) : ∀ b, sumR g (a + b) = sumR g a + sumR (fun m => g (a + m)) b
  | 0 => rfl
  | b + 1 => by show sumR g (a + b) + g (a + b) = _; rw [sumR_add g a b]; simp only [sumR]; omega
theorem sumR_le {g : Nat → Nat} (h : ∀ k, g k ≤ 1) : ∀ n, sumR g n ≤ n
  | 0 => Nat.le_refl _
  | n + 1 => by have := sumR_le h n; have := h n; simp only [sumR]; omega
/-- How many of the first n numbers a mask takes, and their sum. -/
def cB (m : Nat) : Nat → Nat
  | 0 => 0
  | k + 1 => if m.testBit k then cB m k + 1 else cB m k
def sB (xs : List Int) (m : Nat) : Nat → Int
  | 0 => 0
  | k + 1 => if m.testBit k then sB xs m k + (xs[k]?).getD 0 else sB xs m k
theorem cB_low {n m : Nat} : ∀ {k : Nat}, k ≤ n → cB (2 ^ n + m) k = cB m k
  | 0, _ => rfl
  | k + 1, h => by simp only [cB]; rw [cB_low (by omega : k ≤ n), Nat.testBit_two_pow_add_gt (by omega)]
theorem sB_low {xs : List Int} {n m : Nat} : ∀ {k : Nat}, k ≤ n → sB xs (2 ^ n + m) k = sB xs m k
  | 0, _ => rfl
  | k + 1, h => by simp only [sB]; rw [sB_low (by omega : k ≤ n), Nat.testBit_two_pow_add_gt (by omega)]
/-- How many masks over the first n numbers are as told. -/
def gM (xs : List Int) (n : Nat) (P : Nat → Int → Bool) : Nat := sumR (fun m => if P (cB m n) (sB xs m n) then 1 else 0) (2 ^ n)
theorem gM_le (xs : List Int) (n : Nat) (P : Nat → Int → Bool) : gM xs n P ≤ 2 ^ n := sumR_le (fun k => by split <;> omega) _
theorem gM_zero (xs : List Int) (P : Nat → Int → Bool) : gM xs 0 P = if P 0 0 then 1 else 0 := Nat.zero_add _
theorem gM_succ {xs : List Int} {n : Nat} {x : Int} (hx : xs[n]? = some x) (P : Nat → Int → Bool) : gM xs (n + 1) P = gM xs n P + gM xs n (fun c s => P (c + 1) (s + x)) := by
  unfold gM
  rw [show 2 ^ (n + 1) = 2 ^ n + 2 ^ n by rw [Nat.pow_succ]; omega, sumR_add]
  congr 1
  · refine sumR_congr fun m hm => ?_
    have ht : m.testBit n = false := Nat.testBit_lt_two_pow hm
    simp only [cB, sB, ht, Bool.false_eq_true, if_false]
  · refine sumR_congr fun m hm => ?_
    have ht : (2 ^ n + m).testBit n = true := by rw [Nat.testBit_two_pow_add_eq, Nat.testBit_lt_two_pow hm]; rfl
    simp only [cB, sB, ht, if_true, hx, Option.getD_some]
    rw [cB_low (Nat.le_refl n), sB_low (Nat.le_refl n)]
/-- In how many ways k of the first n numbers make s. -/
def fM (xs : List Int) (n k : Nat) (s : Int) : Int := (gM xs n (fun c t => c == k && t == s) : Nat)
theorem fM_zero (xs : List Int) (k : Nat) (s : Int) : fM xs 0 k s = if k = 0 ∧ s = 0 then 1 else 0 := by
  unfold fM
  rw [gM_zero]
  by_cases h : k = 0 ∧ s = 0
  · rw [if_pos h, h.1, h.2]; simp
  · rw [if_neg h]
    by_cases hk : k = 0
    · subst hk
      have : ¬ s = 0 := fun e => h ⟨rfl, e⟩
      have e : ((0 : Int) == s) = false := by rw [beq_eq_false_iff_ne]; omega
      simp [e]
    · have e : (0 == k) = false := by rw [beq_eq_false_iff_ne]; omega
      simp [e]
theorem gM_none (xs : List Int) (n : Nat) {P : Nat → Int → Bool} (h : ∀ c s, P c s = false) : gM xs n P = 0 := by
  unfold gM
  rw [sumR_congr (h := fun _ => 0) (fun k _ => by rw [h]; simp)]
  have H : ∀ n, sumR (fun _ => 0) n = 0 := fun n => by induction n with | zero => rfl | succ n ih => simp only [sumR]; rw [ih]
  exact H _
theorem fM_succ {xs : List Int} {n : Nat} {x : Int} (hx : xs[n]? = some x) (k : Nat) (s : Int) : fM xs (n + 1) (k + 1) s = fM xs n (k + 1) s + fM xs n k (s - x) := by
  unfold fM
  rw [gM_succ hx, Int.natCast_add]
  congr 3
  funext c t
  have e1 : (c + 1 == k + 1) = (c == k) := by rw [Bool.eq_iff_iff]; simp
  have e2 : (t + x == s) = (t == s - x) := by rw [Bool.eq_iff_iff]; simp; omega
  rw [e1, e2]
theorem fM_succ0 {xs : List Int} {n : Nat} {x : Int} (hx : xs[n]? = some x) (s : Int) : fM xs (n + 1) 0 s = fM xs n 0 s := by
  unfold fM
  rw [gM_succ hx, gM_none xs n (P := fun c t => c + 1 == 0 && t + x == s) (fun c t => by simp)]
  rfl
theorem fM_bd (xs : List Int) (n k : Nat) (s : Int) : 0 ≤ fM xs n k s ∧ fM xs n k s ≤ 2 ^ n := by
  unfold fM
  exact ⟨Int.natCast_nonneg _, by exact_mod_cast gM_le xs n _⟩
/-- Pascal's numbers. -/
theorem gM_all {xs : List Int} : ∀ {n : Nat}, n ≤ xs.length → n ≤ 40 → ∀ k, ((gM xs n (fun c _ => c == k) : Nat) : Int) = wC n k
  | 0, _, _, k => by
    rw [gM_zero]
    cases k with
    | zero => rfl
    | succ k => rfl
  | n + 1, hn, h40, k => by
    obtain ⟨x, hx⟩ := get_of_lt (xs := xs) (k := n) (by omega)
    rw [gM_succ hx]
    cases k with
    | zero =>
      rw [gM_none xs n (P := fun c s => (fun c _ => c == 0) (c + 1) (s + x)) (fun c t => by simp), wC_zero, ← wC_zero n, ← gM_all (by omega : n ≤ xs.length) (by omega) 0]
      rfl
    | succ k =>
      have e : gM xs n (fun c s => (fun c _ => c == k + 1) (c + 1) (s + x)) = gM xs n (fun c _ => c == k) := by
        congr 1
        funext c t
        show (c + 1 == k + 1) = (c == k)
        rw [Bool.eq_iff_iff]; simp
      have h1 := gM_le xs n (fun c _ => c == k + 1)
      have h2 := gM_le xs n (fun c _ => c == k)
      have h3 : 2 ^ n ≤ 2 ^ 40 := Nat.pow_le_pow_right (by omega) (by omega)
      rw [e, wC_succ, ← gM_all (by omega : n ≤ xs.length) (by omega) (k + 1), ← gM_all (by omega : n ≤ xs.length) (by omega) k, IntWalk.wrap64_in _ (by omega)]
      omega

/-! ### a window of sums -/
def winN (f : Int → Int) (p : Int → Bool) (lo : Int) (B : Nat) : Int := wrap64 (sumTo (fun j => pick p f (lo + j)) (B + 1))
theorem win_masks (xs : List Int) (n k : Nat) (p : Int → Bool) (lo : Int) (B : Nat) (hs : ∀ m, lo ≤ sB xs m n ∧ sB xs m n ≤ lo + B) : ∀ M : Nat,
    sumTo (fun j => pick p (fun s => ((sumR (fun m => if (cB m n == k && sB xs m n == s) = true then 1 else 0) M : Nat) : Int)) (lo + j)) (B + 1) = ((sumR (fun m => if (cB m n == k && p (sB xs m n)) = true then 1 else 0) M : Nat) : Int)
  | 0 => by rw [sumTo_zero (fun j _ => by simp [pick, sumR])]; rfl
  | M + 1 => by
    have ih := win_masks xs n k p lo B hs M
    have hb := hs M
    obtain ⟨t, ht⟩ : ∃ t, t = sB xs M n := ⟨_, rfl⟩
    rw [← ht] at hb
    have h := sumTo_at (g := fun j => pick p (fun s => ((sumR (fun m => if (cB m n == k && sB xs m n == s) = true then 1 else 0) M : Nat) : Int)) (lo + j))
      (h := fun j => pick p (fun s => ((sumR (fun m => if (cB m n == k && sB xs m n == s) = true then 1 else 0) (M + 1) : Nat) : Int)) (lo + j)) (x := t - lo) (fun s hsx => by
        show pick p _ (lo + s) = pick p _ (lo + s)
        unfold pick
        simp only [sumR]
        have e : (sB xs M n == lo + s) = false := by rw [← ht, beq_eq_false_iff_ne]; omega
        rw [e]
        simp) (n := B + 1) (by omega) (by omega)
    rw [h, ih]
    simp only [sumR]
    rw [show lo + (t - lo) = t by omega]
    unfold pick
    simp only [← ht, beq_self_eq_true, Bool.and_true]
    cases hp : p t <;> cases hc : (cB M n == k) <;> simp
    omega
theorem win_is (xs : List Int) (n k : Nat) (p : Int → Bool) (lo : Int) (B : Nat) (hn : n ≤ 40) (hs : ∀ m, lo ≤ sB xs m n ∧ sB xs m n ≤ lo + B) : winN (fM xs n k) p lo B = ((gM xs n (fun c t => c == k && p t) : Nat) : Int) := by
  unfold winN
  have h := win_masks xs n k p lo B hs (2 ^ n)
  have h1 : sumR (fun m => if (cB m n == k && p (sB xs m n)) = true then 1 else 0) (2 ^ n) ≤ 2 ^ n := gM_le xs n (fun c t => c == k && p t)
  have h3 : 2 ^ n ≤ 2 ^ 40 := Nat.pow_le_pow_right (by omega) (by omega)
  show wrap64 (sumTo (fun j => pick p (fun s => ((gM xs n (fun c t => c == k && t == s) : Nat) : Int)) (lo + j)) (B + 1)) = _
  unfold gM
  rw [h, IntWalk.wrap64_in _ (by omega)]
theorem sB_bd {xs : List Int} {C : Int} (h : ∀ x ∈ xs, -C ≤ x ∧ x ≤ C) (h0 : 0 ≤ C) (m : Nat) : ∀ k : Nat, -(C * k) ≤ sB xs m k ∧ sB xs m k ≤ C * k
  | 0 => by simp [sB]
  | k + 1 => by
    have ih := sB_bd h h0 m k
    have hb : -C ≤ (xs[k]?).getD 0 ∧ (xs[k]?).getD 0 ≤ C := by
      cases e : xs[k]? with
      | none => simp; omega
      | some r => exact h r (List.mem_of_getElem? e)
    have e : C * ((k + 1 : Nat) : Int) = C * k + C := by push_cast; rw [Int.mul_add, Int.mul_one]
    rw [e]
    unfold sB
    split <;> omega

/-! ### what a map of counts holds -/
def KeysIn2 (D : DataW Unit) (lo hi : Int) : Prop := ∀ s, has D (kI s) = true → lo ≤ s ∧ s ≤ hi
theorem keys_of2 {D : DataW Unit} {lo hi x c : Int} (h : KeysIn2 D lo hi) (hat : ∀ zd, D.atKey (kI x) zd = .lit (.int .i64 c)) : lo ≤ x ∧ x ≤ hi := h x (has_true_of_atKey hat)
theorem keysIn2_mono {D : DataW Unit} {lo hi lo' hi' : Int} (h : KeysIn2 D lo hi) (h1 : lo' ≤ lo) (h2 : hi ≤ hi') : KeysIn2 D lo' hi' := fun s hs => by have := h s hs; omega
theorem keysIn2_put {D : DataW Unit} {lo hi x : Int} {d : DataW Unit} (h : KeysIn2 D lo hi) (hx : lo ≤ x ∧ x ≤ hi) : KeysIn2 (D.put (kI x) d) lo hi := fun s hs => by
  by_cases e : s = x
  · rw [e]; exact hx
  · rw [has_put_other (kI_ne e)] at hs
    exact h s hs
theorem winN_step {left : Lit → Bool} {f : Int → Int} {p : Int → Bool} {lo : Int} {B : Nat} {x : Int} (hx : lo ≤ x ∧ x ≤ lo + B) (hl : left (kI x) = true) :
    winN (dn (fun z => left z && !z.sameKey (kI x)) f) p lo B = if p x then wrap64 (winN (dn left f) p lo B + f x) else winN (dn left f) p lo B := by
  unfold winN
  have h := sumTo_at (g := fun j => pick p (dn left f) (lo + j)) (h := fun j => pick p (dn (fun z => left z && !z.sameKey (kI x)) f) (lo + j)) (x := x - lo) (fun s hs => by
    show pick p _ (lo + s) = pick p _ (lo + s)
    unfold pick; rw [dn_step, if_neg (show ¬ lo + s = x by omega)]) (n := B + 1) (by omega) (by omega)
  have e1 : pick p (dn left f) x = 0 := by unfold pick; rw [dn_left hl]; simp
  have e2 : pick p (dn (fun z => left z && !z.sameKey (kI x)) f) x = if p x then f x else 0 := by unfold pick; rw [dn_step, if_pos rfl]
  rw [h, show lo + (x - lo) = x by omega, e1, e2]
  cases p x
  · simp
  · simp only [if_true]; unfold wrap64; omega

set_option maxRecDepth 100000 in
set_option maxHeartbeats 1000000 in
theorem countWin_any (p : Int → Bool) (K : Nat) (cp : Array Value) (b n B : Nat) (lo : Int) (f : Int → Int) (D : DataW Unit)
    (hK : ∀ (args : Array Value) (w : World), (callFunc K args).run Try.prog w = .ok (.enter K args) w) (w : World) (hown : w.ownsMap Try.prog 2 (plainElem Try.prog 2) b n D) (hD : MapIs D f) (hB : KeysIn2 D lo (lo + B))
    (hC : ∀ (x : Int) (W : World), Below w.heap.size w W → Calls Try.prog K (#[iV x] ++ cp) W fun e w' => e = .returned (.bool (p x)) ∧ ∃ n, W.drewN n = w') :
    Calls Try.prog 37 #[.map (some b), .func (.func K) #[] cp] w fun e w' => e = .returned (.int .i64 (winN f p lo B)) ∧ Below w.heap.size w w' := by
  have hbl := hown.lt
  have HC := Lib.hid hC
  have HD := Lib.hid hD
  have HB := Lib.hid hB
  clear hC hD hB
  go_enter Try.func37, Try.ntmps37
  go_wp2_with (first
    | (at_range; refine wpList_range_own _ rfl _ 54 rfl 2 2 lawK Try.underlying54 _ b n _ rfl hown ?_; intro w0 hrg0 hg0 hs0)
    | go_in)
  go_frame
  go_loopw [5] (fun sa wr => ∃ (left : Lit → Bool) (cnt : Nat), wr.ranges Try.prog 2 (plainElem Try.prog 2) b w.heap.size n D left cnt ∧ sa = .int .i64 (winN (dn left f) p lo B) ∧ Below w.heap.size w wr)
    (fun _ wr => wr.rangeLeft b w.heap.size)
  case atStart =>
    refine ⟨_, _, hrg0, ?_, (Below.refl _ _).grown hg0 (by simp) (fun j hj => by cases hj)⟩
    unfold winN
    rw [sumTo_zero (fun k _ => by show pick p _ (lo + k) = 0; unfold pick; rw [dn_start HD.out]; simp)]
    exact congrArg (Value.int .i64) (by unfold wrap64; omega)
  case round =>
    obtain ⟨left, cnt, hrg, rfl, hnx⟩ := hrel
    obtain ⟨sa, hsa⟩ : ∃ sa, sa = winN (dn left f) p lo B := ⟨_, rfl⟩
    have HS := Lib.hid hsa
    rw [← hsa]
    clear hsa
    go_wp2_with (first
      | (at_next; refine wpList_next_ranges_ii _ rfl _ rfl 2 2 .i64 .i64 lawK Try.underlying2 Try.underlying2 b w.heap.size n _ _ _ rfl hrg ?_ ?_)
      | go_in)
    · intro hc0 hl0
      go_wp2
      go_ret
      refine ⟨?_, hnx⟩
      rw [HS.out]
      unfold winN
      rw [sumTo_congr (g := fun j => pick p (dn left f) (lo + j)) (h := fun j => pick p f (lo + j)) (fun k _ => by show pick p _ (lo + k) = pick p _ (lo + k); unfold pick; rw [dn_end hl0])]
      rfl
    · intro x c w1 cnt1 hwx hwc hlx hat hrg1 hlt hg1 hs1 hen
      have hnx1 : Below w.heap.size w w1 := hnx.grown hg1 hnx.size (fun j hj => by cases hj; exact Nat.le_refl _)
      have hcx : c = f x := atKey_val HD.out hat
      have hxb := keys_of2 HB.out hat
      have hst := winN_step (left := left) (f := f) (p := p) (lo := lo) (B := B) hxb hlx
      rw [← HS.out, ← hcx] at hst
      have HST := Lib.hid hst
      have HRG := Lib.hid hrg1
      have HCX := Lib.hid hcx
      clear hst hcx hrg1 hxb
      go_wp2_with fail
      refine (HC.out x _ hnx1).mono ?_
      rintro e w' ⟨rfl, m, rfl⟩
      have hnx2 : Below w.heap.size w (w1.drewN m) := below_to hnx1 (below_of_drew ⟨m, rfl⟩) hnx1.size
      cases hp : p x
      · have HP := Lib.hid hp
        go_wp2
        go_roundw
        case rel => exact ⟨_, cnt1, ranges_drewN HRG.out, (congrArg (Value.int .i64) (HST.out.trans (by rw [HP.out]; simp))).symm, hnx2⟩
        case measure => rw [World.ranges.left_eq (ranges_drewN (m := m) HRG.out), hrg.left_eq]; exact hlt
      · have HP := Lib.hid hp
        go_wp2
        go_roundw
        case rel => exact ⟨_, cnt1, ranges_drewN HRG.out, (congrArg (Value.int .i64) (HST.out.trans (by rw [HP.out]; simp))).symm, hnx2⟩
        case measure => rw [World.ranges.left_eq (ranges_drewN (m := m) HRG.out), hrg.left_eq]; exact hlt

/-! ### the round over a map of ways: one sum more for each entry -/
theorem add_start {D Dn : DataW Unit} {f g : Int → Int} (h : MapIs D f) (hn : MapIs Dn g) (hg : ∀ s, inI (g s)) (x : Int) : MapIs Dn (fun s => wrap64 (g s + dn (has D) f (s - x))) := fun s => by
  show _ = DataW.lit (Lit.int .i64 (wrap64 (g s + dn (has D) f (s - x))))
  rw [dn_start h, hn s]
  have := hg s
  unfold inI at this
  congr 2; unfold wrap64; omega
theorem add_step {D : DataW Unit} (hm : IsMap D) {left : Lit → Bool} {f g : Int → Int} {x y z c c1 : Int} (hz : z = y + x) (hl : left (kI y) = true) (hc : c = f y)
    (h : MapIs D (fun s => wrap64 (g s + dn left f (s - x)))) (h1 : D.atKey (kI z) (.lit (.int .i64 0)) = .lit (.int .i64 c1)) :
    MapIs (D.put (kI z) (.lit (.int .i64 (wrap64 (c1 + c))))) (fun s => wrap64 (g s + dn (fun z => left z && !z.sameKey (kI y)) f (s - x))) := by
  have inj : ∀ {a b : Int}, (DataW.lit (Lit.int .i64 a) : DataW Unit) = .lit (.int .i64 b) → a = b := fun {a b} e => by injection e with e; injection e
  have e1 : c1 = wrap64 (g z + dn left f (z - x)) := inj (h1.symm.trans (h z))
  have h0 := dn_left (f := f) hl
  rw [show z - x = y by omega, h0] at e1
  refine mapIs_put hm h ?_ ?_
  · show wrap64 (c1 + c) = wrap64 (g z + dn (fun z => left z && !z.sameKey (kI y)) f (z - x))
    rw [dn_step, if_pos (by omega), show z - x = y by omega, e1, hc]
    unfold wrap64; omega
  · intro s hs
    show wrap64 (g s + dn (fun z => left z && !z.sameKey (kI y)) f (s - x)) = wrap64 (g s + dn left f (s - x))
    rw [dn_step, if_neg (by omega)]
theorem add_end {left : Lit → Bool} {f g : Int → Int} (h : ∀ kl, left kl = false) (x : Int) : (fun s => wrap64 (g s + dn left f (s - x))) = fun s => wrap64 (g s + f (s - x)) := by
  funext s
  rw [dn_end h]
end Go.Proofs.Ytmhmekfbnaafmaa
