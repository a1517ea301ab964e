/-
  impl.valuesOfBoth: the values of two shares, each once, rising.
  Absolute values as the program and the reference reckon them; sums of what is not below 0.
  Chances below a number, chances of a value, by the number alone; how far two shares are apart.
  The merging of two rising lists, plain; the reference's l05Size and l05Chance, impl.chanceAt.
-/
import Derived.Test.YtjajlddnhmbekaaGreatPdqG2
import Derived.Test.YtjajlddnhmbekaaGreatJoinF
import Derived.Test.YtjajlddnhmbekaaGreatMean
import Derived.Test.YtjajlddnhmbekaaGreatKey
import Derived.Test.YtjajlddnhmbekaaGreatShareIs2
namespace Go.Proofs.YtjajlddnhmbekaaGreat
section
open Go.RowKit

/-- A rising list of finite numbers that stand for those of two lists. -/
structure VB (xs ys zs : List Nat) : Prop where
  rise : ∀ (i j x y : Nat), i < j → zs[i]? = some x → zs[j]? = some y → val x < val y
  mem : ∀ q, Vs zs q ↔ Vs xs q ∨ Vs ys q
  fin : ∀ z ∈ zs, finB z = true
theorem vs_app (xs ys : List Nat) (q : Rat) : Vs (xs ++ ys) q ↔ Vs xs q ∨ Vs ys q := by
  unfold Vs
  constructor
  · rintro ⟨x, hx, e⟩
    rcases List.mem_append.1 hx with h | h
    · exact .inl ⟨x, h, e⟩
    · exact .inr ⟨x, h, e⟩
  · rintro (⟨x, h, e⟩ | ⟨x, h, e⟩)
    · exact ⟨x, List.mem_append.2 (.inl h), e⟩
    · exact ⟨x, List.mem_append.2 (.inr h), e⟩
theorem vs_perm {xs ys : List Nat} (h : ys.Perm xs) (q : Rat) : Vs ys q ↔ Vs xs q :=
  ⟨fun ⟨x, hx, e⟩ => ⟨x, h.mem_iff.1 hx, e⟩, fun ⟨x, hx, e⟩ => ⟨x, h.mem_iff.2 hx, e⟩⟩
theorem take_get {α : Type} {zs : List α} {k i : Nat} {x : α} (h : (zs.take k)[i]? = some x) : i < k ∧ zs[i]? = some x := by
  rw [List.getElem?_take] at h
  split at h
  · exact ⟨by assumption, h⟩
  · cases h
theorem VB.of {xs ys us zs : List Nat} {k : Nat} (hp : us.Perm (xs ++ ys)) (hT : Thin us zs k us.length) (hF : Fins us) : VB xs ys (zs.take k) where
  rise := fun i j x y h1 hx hy => hT.rise i j x y h1 (take_get hy).1 (take_get hx).2 (take_get hy).2
  mem := fun q => by rw [hT.mem, List.take_length, vs_perm hp, vs_app]
  fin := fun z hz => hF z (hT.src z hz)
theorem RowF.rd {w : World} {g n c k : Nat} {zs : List Nat} (h : RowF w g n c zs) (hk : k ≤ n) : Rd fV w (.slice (some ⟨g, 0, none⟩) k c) (zs.take k) := by
  have hl : (zs.take k).length = k := by rw [List.length_take, h.len]; omega
  refine ⟨some ⟨g, 0, none⟩, c, by rw [hl], by rw [hl]; have := h.cap; omega, fun i x hx => ⟨_, rfl, h.lt, ?_⟩⟩
  rw [Addr.add_lit, Nat.zero_add]
  exact h.at (take_get hx).2
/-- A row of the call's own that is not empty. -/
theorem own_row {w : World} {base : Nat} {v : Value} {xs : List Nat} (h : Own fV 28 w base v xs) (h1 : 1 ≤ xs.length) : ∃ g c, v = .slice (some ⟨g, 0, none⟩) xs.length c ∧ base ≤ g ∧ RowF w g xs.length c xs := by
  rcases h.2 with ⟨_, e⟩ | ⟨g, cap, cur, e, h2, rest⟩
  · omega
  · exact ⟨g, cap, e, h2, h.1, .inr ⟨g, cap, cur, rfl, Nat.zero_le _, rest⟩⟩
theorem touch_back {B g : Nat} {w0 w1 w2 : World} (h : Below B w0 w1) (k : Touch g (g + 1) w1 w2) (hg : B ≤ g) (hB : B ≤ w1.heap.size) : Below B w0 w2 := h.trans (k.below hg hB)

def BothE (x0 x2 : List Nat) (w : World) (e : Ending) (w' : World) : Prop :=
  ∃ v zs, e = .returned v ∧ Rd fV w' v zs ∧ VB x0 x2 zs ∧ zs.length ≤ 200 ∧ Below w.heap.size w w'
set_option maxHeartbeats 1600000 in
set_option maxRecDepth 100000 in
theorem valuesOfBoth_any (s0 s1 s2 s3 : Value) (x0 x2 : List Nat) (h0 : 1 ≤ x0.length) (h0' : x0.length ≤ 64) (h2 : 1 ≤ x2.length) (h2' : x2.length ≤ 64) (hF0 : x0.all finB = true) (hF2 : x2.all finB = true) (w : World) (hr0 : Rd fV w s0 x0) (hr2 : Rd fV w s2 x2) :
    Calls Tryz.prog 44 #[shV s0 s1, shV s2 s3] w (BothE x0 x2 w) := by
  have hFF : Fins (x0 ++ x2) := fun x hx => by
    rcases List.mem_append.1 hx with h | h
    · exact List.all_eq_true.1 hF0 x h
    · exact List.all_eq_true.1 hF2 x h
  have HFF := Lib.hid hFF
  have HR0 := Lib.hid hr0
  obtain ⟨A0, cap0, rfl, hcap0, hA0⟩ := hr0
  have HA0 := Lib.hid hA0
  clear hA0
  have HR2 := Lib.hid hr2
  obtain ⟨A2, cap2, rfl, hcap2, hA2⟩ := hr2
  have HA2 := Lib.hid hA2
  clear hA2
  clear hFF hF0 hF2
  obtain ⟨L, hL⟩ : ∃ L, L = x0 ++ x2 := ⟨_, rfl⟩
  obtain ⟨n, hn⟩ : ∃ n, n = L.length := ⟨_, rfl⟩
  have hn1 : n ≤ 128 := by rw [hn, hL, List.length_append]; omega
  have hn2 : 2 ≤ n := by rw [hn, hL, List.length_append]; omega
  have hLf : Hid (Fins L) := by rw [hL]; exact HFF.out
  obtain ⟨W2, hW2⟩ : ∃ W2, W2 = (w.alloc (.cells #[.slice A0 x0.length cap0, s1] 26)).alloc (.cells #[.slice A2 x2.length cap2, s3] 26) := ⟨_, rfl⟩
  have hWb : Below w.heap.size w W2 := by rw [hW2]; exact ((Below.refl _ _).alloc (Nat.le_refl _) _).alloc (by simp) _
  have hWs : W2.heap.size = w.heap.size + 1 + 1 := by rw [hW2, size_alloc, size_alloc]
  have HC := Lib.hid (concat2_any _ _ x0 x2 (by omega) (by omega) W2 (HR0.out.below hWb) (HR2.out.below hWb))
  rw [hWs, ← hL] at HC
  have HL := Lib.hid hL
  have HN := Lib.hid hn
  clear hL hn HFF
  have HW := Lib.hid hW2
  clear hW2
  go_enter Tryz.func44, Tryz.ntmps44
  go_wp2_with fail
  rw [← HW.out]
  refine HC.out.mono ?_
  rintro e w3 ⟨v, rfl, ho, hb3⟩
  have hb3' : Below w.heap.size w w3 := hWb.trans (hb3.mono (by omega))
  obtain ⟨g, c, rfl, hg, hRow⟩ := own_row ho (by rw [← HN.out]; omega)
  rw [← HN.out] at hRow ⊢
  have HC2 := Lib.hid (sortF_any g n c L (by omega) (by omega) hLf.out w3 hRow)
  clear HC ho hb3 hRow
  go_wp2_with fail
  refine HC2.out.mono ?_
  rintro e w4 ⟨rfl, us, hR4, hP4, hS4, hT4⟩
  have hb4 : Below w.heap.size w w4 := touch_back hb3' hT4 (by omega) hb3'.size
  have HP := Lib.hid hP4
  have HC3 := Lib.hid (compact_any g n c us hn2 (by omega) (hLf.out.perm hP4.perm) hS4 w4 hR4)
  clear HC2 hR4 hP4 hS4 hT4 hb3'
  go_wp2_with fail
  refine HC3.out.mono ?_
  rintro e w5 ⟨k, zs, rfl, hk1, hk2, hR5, hTh, hT5⟩
  have hb5 : Below w.heap.size w w5 := touch_back hb4 hT5 (by omega) hb4.size
  have HTh := Lib.hid hTh
  have HR5 := Lib.hid hR5
  clear HC3 hR5 hTh hT5 hb4
  go_wp2
  go_ret
  have hul : us.length = n := HP.out.perm.length_eq.trans HN.out.symm
  exact ⟨_, zs.take k, rfl, HR5.out.rd hk2, VB.of (by rw [← HL.out]; exact HP.out.perm) (by rw [hul]; exact HTh.out) (hLf.out.perm HP.out.perm), by rw [List.length_take]; omega, hb5⟩
end

section
open Go.RowKit
open Ieee

abbrev infR : Nat := FloatKind.f32.format.infRung
/-- The word of a sign and a rung. -/
def wd (s : Bool) (R : Nat) : Nat := FloatKind.f32.format.word s R
theorem wd_false (R : Nat) : wd false R = R := rfl
theorem inf_lt : infR < FloatKind.f32.format.signWeight := by decide
theorem read_wd (s : Bool) {R : Nat} (h : R < infR) : FloatKind.f32.format.read (wd s R) = .number s (rM FloatKind.f32.format R) (FloatKind.f32.format.leastPlace + rJ FloatKind.f32.format R) := read_rung _ s h
theorem read_inf (s : Bool) : FloatKind.f32.format.read (wd s infR) = .infinity s := by cases s <;> decide
theorem wd_nan (s : Bool) {R : Nat} (h : R ≤ infR) : (FloatKind.f32.decode (wd s R)).isNaN = false := nan_word _ s h
theorem abs_wd (s : Bool) {R : Nat} (h : R ≤ infR) : absF .f32 (wd s R) = some (wd s R) := absF_of (wd_nan s h)
theorem rM_zeroV {R : Nat} (h : rM FloatKind.f32.format R = 0) : R = 0 := by
  by_cases hJ : rJ FloatKind.f32.format R = 0
  · have := rR_eq FloatKind.f32.format R
    rw [hJ, h] at this
    simpa using this
  · have := rM_ge FloatKind.f32.format hJ
    have hb := binade_pos FloatKind.f32.format
    omega
/-- What is written is the word of its sign. -/
theorem enc_wd (d : Datum) (h : d.isNaN = false) : ∃ R, R ≤ infR ∧ FloatKind.f32.encode d = wd d.neg R := by
  cases d with
  | nan s t => cases h
  | infinity s => exact ⟨infR, Nat.le_refl _, rfl⟩
  | number s m p =>
    by_cases hm : m = 0
    · subst hm
      refine ⟨0, Nat.zero_le _, ?_⟩
      show FloatKind.f32.format.nearest s 0 p = _
      simp [Format.nearest, wd, Datum.neg]
    · refine ⟨min (rungOf FloatKind.f32.format m p) infR, Nat.min_le_right _ _, ?_⟩
      exact nearest_eq FloatKind.f32.format s p hm
def Canon (o : Option Nat) : Prop := o = none ∨ ∃ s R, R ≤ infR ∧ o = some (wd s R)
def Up0 (o : Option Nat) : Prop := o = none ∨ ∃ R, R ≤ infR ∧ o = some (wd false R)
theorem canon_map {o : Option Datum} (h : ∀ d, o = some d → d.isNaN = false) : Canon (o.map FloatKind.f32.encode) := by
  cases o with
  | none => exact .inl rfl
  | some d =>
    obtain ⟨R, hR, e⟩ := enc_wd d (h d rfl)
    exact .inr ⟨_, R, hR, by rw [Option.map_some, e]⟩
theorem canon_sub (x y : Option Nat) : Canon (opF .sub .f32 x y) := by
  unfold opF
  split
  · exact canon_map fun d hd => nan_sum hd
  · exact .inl rfl
theorem ord_wd (s : Bool) {R : Nat} (h : R ≤ infR) : ord32 (wd s R) 0 = if R = 0 then some .eq else if s then some .lt else some .gt := by
  unfold ord32 Format.order
  rw [show FloatKind.f32.format.read 0 = .number false 0 (-149) from rfl]
  rcases Nat.lt_or_eq_of_le h with h1 | h1
  · rw [read_wd s h1]
    by_cases h0 : R = 0
    · subst h0
      rw [if_pos rfl]
      exact order_zero_aux s
    · rw [if_neg h0]
      have hm : rM FloatKind.f32.format R ≠ 0 := fun e => h0 (rM_zeroV e)
      have hc := order_cmp s (rM FloatKind.f32.format R) (FloatKind.f32.format.leastPlace + rJ FloatKind.f32.format R) false 0 (-149)
      have hz : vD (.number false 0 (-149)) = 0 := by simp [vD, sg, mg_zero]
      have hp := mg_pos hm (FloatKind.f32.format.leastPlace + rJ FloatKind.f32.format R)
      rw [hz] at hc
      cases s
      · exact hc.2.1.2 (by simpa [vD, sg] using hp)
      · refine hc.1.2 ?_
        simp only [vD, sg, if_true]
        grind
  · subst h1
    rw [read_inf]
    cases s <;> decide
where order_zero_aux (s : Bool) : Datum.order (.number s (rM FloatKind.f32.format 0) (FloatKind.f32.format.leastPlace + rJ FloatKind.f32.format 0)) (.number false 0 (-149)) = some .eq := by cases s <;> decide
theorem neg_wd {R : Nat} (h : R ≤ infR) : Op.negFloat .f32 (wd true R) = wd false R := by
  have hR : R < 2 ^ 31 := Nat.lt_of_le_of_lt h inf_lt
  show (2 ^ 31 + R) ^^^ 2 ^ 31 = R
  apply Nat.eq_of_testBit_eq
  intro i
  rw [Nat.testBit_xor, Nat.testBit_two_pow]
  by_cases hi : i = 31
  · subst hi
    rw [Nat.testBit_two_pow_add_eq, Nat.testBit_lt_two_pow hR]
    rfl
  · have hd : decide (31 = i) = false := decide_eq_false (fun e => hi e.symm)
    rw [hd, Bool.xor_false]
    rcases Nat.lt_or_gt_of_ne hi with h1 | h1
    · rw [Nat.testBit_two_pow_add_gt h1]
    · rw [Nat.testBit_lt_two_pow (x := 2 ^ 31 + R), Nat.testBit_lt_two_pow (x := R)]
      · exact Nat.lt_trans hR (Nat.pow_lt_pow_right (by omega) h1)
      · have : 2 ^ 32 ≤ 2 ^ i := Nat.pow_le_pow_right (by omega) h1
        omega
theorem rV_inj {f : Format} {R S : Nat} (h : rV f R = rV f S) : R = S := by
  rcases Nat.lt_trichotomy R S with e | e | e
  · have := mg_lt (p := f.leastPlace) |>.2 (rU_lt f e)
    unfold rV at h
    rw [h] at this
    exact absurd this (by grind)
  · exact e
  · have := mg_lt (p := f.leastPlace) |>.2 (rU_lt f e)
    unfold rV at h
    rw [h] at this
    exact absurd this (by grind)
/-- A number of the format's is written as it is. -/
theorem enc_exact {m : Nat} {p : Int} {R : Nat} (hR : R < infR) (h0 : R ≠ 0) (hv : mg m p = rV FloatKind.f32.format R) : FloatKind.f32.encode (.number false m p) = wd false R := by
  have hpos : 0 < rV FloatKind.f32.format R := by
    rw [rV_eq]
    exact mg_pos (fun e => h0 (rM_zeroV e)) _
  have hrep : Rep FloatKind.f32.format (mg m p) := ⟨false, R, hR, hv⟩
  obtain ⟨Q, hQ, e⟩ := enc_wd (.number false m p) rfl
  have hb : WBet FloatKind.f32.format (FloatKind.f32.encode (.number false m p)) (mg m p) (mg m p) := near_bet (by decide) hrep hrep (by simp [vD, sg]) (by simp [vD, sg])
  obtain ⟨s, S, h1, h2, h3, h4⟩ := hb
  have e' : FloatKind.f32.encode (.number false m p) = wd false Q := e
  rw [e'] at h1
  have heq : sg s (rV FloatKind.f32.format S) = rV FloatKind.f32.format R := by rw [← hv]; exact Rat.le_antisymm h4 h3
  rcases Nat.lt_or_eq_of_le hQ with h | h
  · rw [read_wd false h] at h1
    injection h1 with g1 g2 g3
    subst g1
    have hJ : rJ FloatKind.f32.format Q = rJ FloatKind.f32.format S := by omega
    have hQS : Q = S := by rw [rR_eq FloatKind.f32.format Q, rR_eq FloatKind.f32.format S, hJ, g2]
    rw [e', hQS, rV_inj (f := FloatKind.f32.format) (R := S) (S := R) heq]
  · subst h
    rw [read_inf] at h1
    cases h1
theorem signed_nn2 (m u : Nat) : 0 ≤ signed false m u := Int.natCast_nonneg _
theorem sum_pos (c : Bool) (m : Nat) (i : Int) (n : Nat) (j : Int) (hc : c = true → n = 0) : ∃ l q, (Datum.number false m i).sum (.number c n j) = some (.number false l q) := by
  have hsg : ∀ u, signed c n u = signed false n u := by
    intro u
    cases c
    · rfl
    · rw [hc rfl]; simp [signed]
  simp only [Datum.sum, hsg]
  have h1 := signed_nn2 m (i - min i j).toNat
  have h2 := signed_nn2 n (j - min i j).toNat
  generalize signed false m (i - min i j).toNat = a at *
  generalize signed false n (j - min i j).toNat = b at *
  refine ⟨(a + b).natAbs, min i j, ?_⟩
  congr 2
  split
  · rfl
  · exact decide_eq_false (by omega)
theorem sub_zero_wd {R : Nat} (h : R ≤ infR) (h0 : R ≠ 0) : floatBits .sub .f32 0 (wd true R) = some (wd false R) := by
  have hs : floatBits .sub .f32 0 (wd true R) = ((FloatKind.f32.format.read 0).sum (FloatKind.f32.format.read (wd true R)).opposite).map FloatKind.f32.encode := rfl
  rw [hs, show FloatKind.f32.format.read 0 = .number false 0 (-149) from rfl]
  rcases Nat.lt_or_eq_of_le h with h1 | h1
  · rw [read_wd true h1]
    obtain ⟨r, l, p, e, hv⟩ := sum_val false 0 (-149) false (rM FloatKind.f32.format R) (FloatKind.f32.format.leastPlace + rJ FloatKind.f32.format R)
    show ((Datum.number false 0 (-149)).sum (.number (!true) _ _)).map _ = _
    rw [show (!true) = false from rfl, e, Option.map_some]
    obtain ⟨l', q', e'⟩ := sum_pos false 0 (-149) (rM FloatKind.f32.format R) (FloatKind.f32.format.leastPlace + rJ FloatKind.f32.format R) (fun h => by cases h)
    rw [e'] at e
    injection e with e
    injection e with e1 e2 e3
    subst e1 e2 e3
    have hz : vD (.number false 0 (-149)) = 0 := by simp [vD, sg, mg_zero]
    rw [hz, Rat.zero_add] at hv
    congr 1
    exact enc_exact h1 h0 (by rw [rV_eq]; simpa [vD, sg] using hv)
  · subst h1
    rw [read_inf]
    rfl
theorem sub_zero_0 (s : Bool) : floatBits .sub .f32 0 (wd s 0) = some (wd false 0) := by cases s <;> decide

/-- The reference's absolute value. -/
def sizeO : Option Nat → Option Nat
  | none => none
  | some x => if ord32 x 0 == some .lt || ord32 x 0 == some .eq then floatBits .sub .f32 0 x else some x
theorem sizeO_wd (s : Bool) {R : Nat} (h : R ≤ infR) : sizeO (some (wd s R)) = some (wd false R) := by
  unfold sizeO
  simp only [ord_wd s h]
  by_cases h0 : R = 0
  · subst h0
    rw [if_pos rfl]
    exact sub_zero_0 s
  · rw [if_neg h0]
    cases s
    · rfl
    · exact sub_zero_wd h h0
theorem absB_wd (s : Bool) {R : Nat} (h : R ≤ infR) : absB (wd s R) = if s = true ∧ R = 0 then wd true 0 else wd false R := by
  unfold absB
  rw [ord_wd s h]
  by_cases h0 : R = 0
  · subst h0
    cases s <;> simp
  · rw [if_neg h0]
    cases s
    · simp
    · simp [h0, neg_wd h]
theorem up0_size {d : Option Nat} (h : Canon d) : Up0 (sizeO d) := by
  rcases h with rfl | ⟨s, R, hR, rfl⟩
  · exact .inl rfl
  · exact .inr ⟨R, hR, sizeO_wd s hR⟩
/-- A sum of what is not below 0. -/
theorem sum_up {A x : Nat} {R : Nat} (hA : R ≤ infR) (e : A = wd false R) (hx : ∃ s m p, FloatKind.f32.format.read x = .number s m p ∧ (s = true → m = 0)) : ∃ S, S ≤ infR ∧ floatBits .add .f32 A x = some (wd false S) ∧ (R = infR → S = infR) := by
  obtain ⟨s, m, p, hr, hs⟩ := hx
  have hf : floatBits .add .f32 A x = ((FloatKind.f32.format.read A).sum (FloatKind.f32.format.read x)).map FloatKind.f32.encode := rfl
  rw [hf, e, hr]
  rcases Nat.lt_or_eq_of_le hA with h1 | h1
  · rw [read_wd false h1]
    obtain ⟨l, q, hd⟩ := sum_pos s (rM FloatKind.f32.format R) (FloatKind.f32.format.leastPlace + rJ FloatKind.f32.format R) m p hs
    rw [hd, Option.map_some]
    obtain ⟨S, hS, e2⟩ := enc_wd (.number false l q) rfl
    exact ⟨S, hS, by rw [e2]; rfl, fun h => by omega⟩
  · subst h1
    rw [read_inf]
    exact ⟨infR, Nat.le_refl _, rfl, fun _ => rfl⟩
theorem num_wd {R : Nat} (h : R < infR) : ∃ s m p, FloatKind.f32.format.read (wd false R) = .number s m p ∧ (s = true → m = 0) := ⟨_, _, _, read_wd false h, fun e => by cases e⟩
theorem add_inf {A : Nat} {R : Nat} (hA : R ≤ infR) (e : A = wd false R) : floatBits .add .f32 A (wd false infR) = some (wd false infR) := by
  have hf : floatBits .add .f32 A (wd false infR) = ((FloatKind.f32.format.read A).sum (FloatKind.f32.format.read (wd false infR))).map FloatKind.f32.encode := rfl
  rw [hf, e, read_inf]
  rcases Nat.lt_or_eq_of_le hA with h1 | h1
  · rw [read_wd false h1]; rfl
  · subst h1
    rw [read_inf]; rfl
theorem up0_add {A B : Option Nat} (hA : Up0 A) (hB : Up0 B) : Up0 (opF .add .f32 A B) := by
  rcases hA with rfl | ⟨R, hR, rfl⟩
  · exact .inl rfl
  · rcases hB with rfl | ⟨S, hS, rfl⟩
    · exact .inl rfl
    · rcases Nat.lt_or_eq_of_le hS with h1 | h1
      · obtain ⟨T, hT, e, _⟩ := sum_up hR rfl (num_wd h1)
        exact .inr ⟨T, hT, e⟩
      · subst h1
        exact .inr ⟨infR, Nat.le_refl _, add_inf hR rfl⟩
theorem add_negz {R : Nat} (h : R ≤ infR) : floatBits .add .f32 (wd false R) (wd true 0) = floatBits .add .f32 (wd false R) (wd false 0) := by
  have hf : ∀ x, floatBits .add .f32 (wd false R) x = ((FloatKind.f32.format.read (wd false R)).sum (FloatKind.f32.format.read x)).map FloatKind.f32.encode := fun _ => rfl
  have h0 : (0 : Nat) < infR := by decide
  rw [hf, hf, read_wd true h0, read_wd false h0]
  rcases Nat.lt_or_eq_of_le h with h1 | h1
  · rw [read_wd false h1]
    have : rM FloatKind.f32.format 0 = 0 := by decide
    rw [this]
    simp [Datum.sum, signed]
  · subst h1
    rw [show FloatKind.f32.format.read (wd false infR) = .infinity false from read_inf false]
    rfl
theorem add_size {A d : Option Nat} (hA : Up0 A) (hd : Canon d) : opF .add .f32 A (d.map absB) = opF .add .f32 A (sizeO d) := by
  rcases hd with rfl | ⟨s, R, hR, rfl⟩
  · rfl
  · rw [sizeO_wd s hR, Option.map_some, absB_wd s hR]
    split
    · rename_i h
      rw [h.2]
      rcases hA with rfl | ⟨S, hS, rfl⟩
      · rfl
      · exact add_negz hS
    · rfl
/-- The greater of two, the first one if neither is. -/
def bigO (m d : Option Nat) : Option Nat := if ordF .f32 d m == some .gt then d else m
end

section
open Go.RowKit
open Ieee

theorem shareB_parts {v c : List Nat} (h : shareB v c = true) : v.all finB = true ∧ riseTo v v.length = true ∧ c.all leastB = true ∧ nearA (sumF (absL c)) = true := by
  unfold shareB at h
  simp only [Bool.and_eq_true] at h
  exact ⟨h.1.1.2, h.1.2, h.2.1, h.2.2⟩
theorem rise_stepV {xs : List Nat} (hr : riseTo xs xs.length = true) (hf : xs.all finB = true) {i u v : Nat} (hu : xs[i]? = some u) (hv : xs[i + 1]? = some v) : val u < val v := by
  have hp := List.all_eq_true.1 hr (i + 1) (List.mem_range.2 (lt_of_get hv))
  unfold pairB at hp
  rw [getD_of hv, getD_of (xs := xs) (k := i + 1 - 1) (x := u) hu] at hp
  have h1 : leX u v = false := by simpa [leX, leB, ord32] using hp
  have fu := List.all_eq_true.1 hf u (List.mem_of_getElem? hu)
  have fv := List.all_eq_true.1 hf v (List.mem_of_getElem? hv)
  by_cases h : val u < val v
  · exact h
  · exfalso
    have := (le_val fv fu).2 (by grind)
    rw [h1] at this
    cases this
theorem rise_monoV {xs : List Nat} (hr : riseTo xs xs.length = true) (hf : xs.all finB = true) {i u : Nat} (hu : xs[i]? = some u) : ∀ (d : Nat) {v : Nat}, xs[i + d]? = some v → val u ≤ val v
  | 0, v, hv => by
    rw [Nat.add_zero, hu] at hv
    cases hv
    exact Rat.le_refl
  | d + 1, v, hv => by
    obtain ⟨t, ht⟩ := get_of_lt (xs := xs) (k := i + d) (by have := lt_of_get hv; omega)
    exact Rat.le_trans (rise_monoV hr hf hu d ht) (Rat.le_of_lt (rise_stepV hr hf ht hv))
theorem share_mono {v : List Nat} (hf : v.all finB = true) (hr : riseTo v v.length = true) {i j x y : Nat} (hij : i < j) (hx : v[i]? = some x) (hy : v[j]? = some y) : val x < val y := by
  obtain ⟨d, rfl⟩ : ∃ d, j = i + 1 + d := ⟨j - i - 1, by omega⟩
  obtain ⟨u, hu⟩ := get_ex (xs := v) (i := i + 1) (by have := get_lt hy; omega)
  have h1 := rise_stepV hr hf hx hu
  have h2 := rise_monoV hr hf hu d hy
  grind
/-- The chances of the values of at most q, of the first k. -/
def belowQ (v c : List Nat) (q : Rat) (k : Nat) : Option Nat := (List.range k).foldl (fun s i => if val (v.getD i 0) ≤ q then opF .add .f32 s (absF .f32 (c.getD i 0)) else s) (some 0)
theorem belowQ_succ {v c : List Nat} {q : Rat} {k x y : Nat} (hx : v[k]? = some x) (hy : c[k]? = some y) : belowQ v c q (k + 1) = if val x ≤ q then opF .add .f32 (belowQ v c q k) (absF .f32 y) else belowQ v c q k := by
  simp [belowQ, List.range_succ, hx, hy]
theorem leB_val {x t : Nat} (hx : finB x = true) (ht : finB t = true) : leB x t = decide (val x ≤ val t) := by
  have := le_val hx ht
  unfold leX at this
  unfold leB ord32
  rw [Bool.eq_iff_iff, decide_eq_true_iff, ← this]
theorem belowTo_val {v c : List Nat} {t : Nat} (hf : v.all finB = true) (ht : finB t = true) (hl : c.length = v.length) : ∀ k, k ≤ v.length → belowTo v c t k = belowQ v c (val t) k
  | 0, _ => rfl
  | k + 1, h => by
    obtain ⟨x, hx⟩ := get_ex (xs := v) (i := k) (by omega)
    obtain ⟨y, hy⟩ := get_ex (xs := c) (i := k) (by omega)
    rw [belowTo_succ hx hy, belowQ_succ hx hy, belowTo_val hf ht hl k (by omega), leB_val (List.all_eq_true.1 hf x (List.mem_of_getElem? hx)) ht]
    simp
/-- Sums of the first k. -/
def preS (c : List Nat) (k : Nat) : Option Nat := sumF (absL (c.take k))
theorem preS_succ {c : List Nat} {k y : Nat} (hy : c[k]? = some y) : preS c (k + 1) = opF .add .f32 (preS c k) (absF .f32 y) := by
  unfold preS
  rw [absL_snoc hy, sumF_snoc]
theorem belowQ_pre {v c : List Nat} {q : Rat} (hf : v.all finB = true) (hr : riseTo v v.length = true) (hl : c.length = v.length) : ∀ k, k ≤ v.length → ∃ j, j ≤ k ∧ belowQ v c q k = preS c j ∧ ∀ i x, i < k → v[i]? = some x → (val x ≤ q ↔ i < j)
  | 0, _ => ⟨0, Nat.le_refl _, rfl, fun i x h => absurd h (Nat.not_lt_zero _)⟩
  | k + 1, h => by
    obtain ⟨j, h1, h2, h3⟩ := belowQ_pre (q := q) hf hr hl k (by omega)
    obtain ⟨x, hx⟩ := get_ex (xs := v) (i := k) (by omega)
    obtain ⟨y, hy⟩ := get_ex (xs := c) (i := k) (by omega)
    rw [belowQ_succ hx hy]
    by_cases hq : val x ≤ q
    · rw [if_pos hq]
      have hj : j = k := by
        refine Nat.le_antisymm h1 (Nat.le_of_not_lt fun hlt => ?_)
        obtain ⟨u, hu⟩ := get_ex (xs := v) (i := j) (by omega)
        have := share_mono hf hr hlt hu hx
        have := (h3 j u hlt hu).1 (by grind)
        omega
      subst hj
      refine ⟨j + 1, Nat.le_refl _, by rw [h2, preS_succ hy], fun i u hi hu => ⟨fun _ => hi, fun _ => ?_⟩⟩
      by_cases e : i = j
      · subst e
        rw [hx] at hu
        cases hu
        exact hq
      · exact (h3 i u (by omega) hu).2 (by omega)
    · rw [if_neg hq]
      refine ⟨j, by omega, h2, fun i u hi hu => ?_⟩
      by_cases e : i = k
      · subst e
        rw [hx] at hu
        cases hu
        exact ⟨fun h => absurd h hq, fun h => by omega⟩
      · exact h3 i u (by omega) hu
theorem least_numV {y : Nat} (h : leastB y = true) : ∃ s m p, FloatKind.f32.format.read y = .number s m p ∧ (s = true → m = 0) := by
  unfold leastB at h
  rw [Bool.and_eq_true] at h
  obtain ⟨s, m, p, hr⟩ := fin_num h.1
  refine ⟨s, m, p, hr, fun hs => ?_⟩
  subst hs
  have h2 := h.2
  unfold ord32 Format.order at h2
  rw [hr, show FloatKind.f32.format.read 0 = .number false 0 (-149) from rfl] at h2
  have hc := order_cmp true m p false 0 (-149)
  have hz : vD (.number false 0 (-149)) = 0 := by simp [vD, sg, mg_zero]
  rw [hz] at hc
  have hn : ¬ vD (.number true m p) < 0 := by
    intro hlt
    rw [hc.1.2 hlt] at h2
    cases h2
  refine Decidable.byContradiction fun hm => hn ?_
  have := mg_pos hm p
  simp only [vD, sg, if_true]
  grind
theorem pre_up {c : List Nat} (hc : c.all leastB = true) : ∀ k, k ≤ c.length → ∃ R, R ≤ infR ∧ preS c k = some (wd false R)
  | 0, _ => ⟨0, Nat.zero_le _, rfl⟩
  | k + 1, h => by
    obtain ⟨R, hR, e⟩ := pre_up hc k (by omega)
    obtain ⟨y, hy⟩ := get_ex (xs := c) (i := k) (by omega)
    have hl := List.all_eq_true.1 hc y (List.mem_of_getElem? hy)
    obtain ⟨S, hS, e2, _⟩ := sum_up hR rfl (least_numV hl)
    refine ⟨S, hS, ?_⟩
    rw [preS_succ hy, e]
    obtain ⟨s, m, p, hr, _⟩ := least_numV hl
    have hy' : absF .f32 y = some y := absF_of (by show (FloatKind.f32.format.read y).isNaN = false; rw [hr]; rfl)
    rw [hy']
    exact e2
theorem pre_back {c : List Nat} (hc : c.all leastB = true) : ∀ d k, k + d ≤ c.length → preS c k = some (wd false infR) → preS c (k + d) = some (wd false infR)
  | 0, k, _, h => h
  | d + 1, k, hl, h => by
    obtain ⟨y, hy⟩ := get_ex (xs := c) (i := k + d) (by omega)
    have hl' := List.all_eq_true.1 hc y (List.mem_of_getElem? hy)
    obtain ⟨S, hS, e2, h3⟩ := sum_up (Nat.le_refl infR) rfl (least_numV hl')
    obtain ⟨s, m, p, hr, _⟩ := least_numV hl'
    have hy' : absF .f32 y = some y := absF_of (by show (FloatKind.f32.format.read y).isNaN = false; rw [hr]; rfl)
    rw [← Nat.add_assoc, preS_succ hy, pre_back hc d k (by omega) h, hy']
    show floatBits .add .f32 _ _ = _
    rw [e2, h3 rfl]
theorem near_fin : nearA (some (wd false infR)) = false := by decide
/-- The chances below q are a finite number. -/
theorem belowQ_fin {v c : List Nat} (h : shareB v c = true) (q : Rat) : ∃ R, R < infR ∧ belowQ v c q v.length = some (wd false R) := by
  obtain ⟨h1, h2, h3, h4⟩ := shareB_parts h
  have hl := (shareB_len h).2
  obtain ⟨j, hj, e, _⟩ := belowQ_pre (q := q) h1 h2 hl v.length (Nat.le_refl _)
  obtain ⟨R, hR, e2⟩ := pre_up h3 j (by omega)
  rcases Nat.lt_or_eq_of_le hR with hlt | heq
  · exact ⟨R, hlt, by rw [e, e2]⟩
  · subst heq
    have := pre_back h3 (c.length - j) j (by omega) e2
    rw [show j + (c.length - j) = c.length by omega] at this
    unfold preS at this
    rw [List.take_length] at this
    rw [this, near_fin] at h4
    cases h4
theorem sub_fin {R S : Nat} (hR : R < infR) (hS : S < infR) : ∃ s T, T ≤ infR ∧ opF .sub .f32 (some (wd false R)) (some (wd false S)) = some (wd s T) := by
  rcases canon_sub (some (wd false R)) (some (wd false S)) with h | ⟨s, T, hT, e⟩
  · exfalso
    have hf : opF .sub .f32 (some (wd false R)) (some (wd false S)) = ((FloatKind.f32.format.read (wd false R)).sum (FloatKind.f32.format.read (wd false S)).opposite).map FloatKind.f32.encode := rfl
    rw [hf, read_wd false hR, read_wd false hS] at h
    simp [Datum.opposite, Datum.sum] at h
  · exact ⟨s, T, hT, e⟩

/-- The chance of the value that stands for q. -/
def chanceQ (v c : List Nat) (q : Rat) : Option Nat := match v.findIdx? (fun x => decide (val x = q)) with
  | some k => absF .f32 (c.getD k 0)
  | none => some 0
theorem chanceQ_at {v c : List Nat} {q : Rat} {k x y : Nat} (hx : v[k]? = some x) (hy : c[k]? = some y) (he : val x = q) (hn : ∀ j u, j < k → v[j]? = some u → val u ≠ q) : chanceQ v c q = absF .f32 y := by
  have : v.findIdx? (fun x => decide (val x = q)) = some k := by
    rw [List.findIdx?_eq_some_iff_getElem]
    have hk := get_lt hx
    refine ⟨hk, ?_, fun j hj => ?_⟩
    · rw [decide_eq_true_iff]
      have := (List.getElem?_eq_some_iff.1 hx).2
      rw [this]; exact he
    · have := hn j (v[j]'(by omega)) hj (List.getElem?_eq_getElem _)
      simpa using this
  unfold chanceQ
  rw [this]
  simp [hy]
theorem chanceQ_none {v c : List Nat} {q : Rat} (hn : ∀ (j u : Nat), v[j]? = some u → val u ≠ q) : chanceQ v c q = some 0 := by
  have : v.findIdx? (fun x => decide (val x = q)) = none := by
    rw [List.findIdx?_eq_none_iff]
    intro x hx
    obtain ⟨i, hi, e⟩ := List.getElem_of_mem hx
    have := hn i x (by rw [List.getElem?_eq_getElem hi, e])
    simpa using this
  unfold chanceQ
  rw [this]

/-! ### The values of both -/
theorem VB.vals {xs ys us vs : List Nat} (h : VB xs ys us) (k : VB xs ys vs) : us.map val = vs.map val := by
  have hp : ∀ {zs : List Nat}, VB xs ys zs → (zs.map val).Pairwise (· < ·) := by
    intro zs hz
    rw [List.pairwise_map, List.pairwise_iff_getElem]
    intro i j hi hj hij
    exact hz.rise i j _ _ hij (List.getElem?_eq_getElem hi) (List.getElem?_eq_getElem hj)
  have hm : ∀ q, q ∈ us.map val ↔ q ∈ vs.map val := by
    intro q
    rw [List.mem_map, List.mem_map]
    exact (h.mem q).trans (k.mem q).symm
  have nd : ∀ {l : List Rat}, l.Pairwise (· < ·) → l.Nodup := fun hl => hl.imp (fun h e => by subst e; exact Rat.lt_irrefl h)
  have hpm : (us.map val).Perm (vs.map val) := (List.perm_ext_iff_of_nodup (nd (hp h)) (nd (hp k))).2 hm
  exact hpm.eq_of_pairwise (le := fun a b : Rat => a < b) (fun a b _ _ h1 h2 => by exfalso; grind) (hp h) (hp k)
open Classical in
noncomputable def vbQ (xs ys : List Nat) : List Rat := if h : ∃ zs, VB xs ys zs then (Classical.choose h).map val else []
theorem vbQ_eq {xs ys zs : List Nat} (h : VB xs ys zs) : vbQ xs ys = zs.map val := by
  unfold vbQ
  rw [dif_pos ⟨zs, h⟩]
  exact VB.vals (Classical.choose_spec (p := fun zs => VB xs ys zs) ⟨zs, h⟩) h
/-- How far the steps of two shares are apart at q. -/
def gapQ (x0 x1 x2 x3 : List Nat) (q : Rat) : Option Nat := opF .sub .f32 (belowQ x0 x1 q x0.length) (belowQ x2 x3 q x2.length)
def awayQ (x0 x1 x2 x3 : List Nat) (q : Rat) : Option Nat := opF .sub .f32 (chanceQ x0 x1 q) (chanceQ x2 x3 q)
def stepsL (x0 x1 x2 x3 : List Nat) (qs : List Rat) : Option Nat := qs.foldl (fun m q => bigO m (sizeO (gapQ x0 x1 x2 x3 q))) (some 0)
def apartL (x0 x1 x2 x3 : List Nat) (qs : List Rat) : Option Nat := qs.foldl (fun m q => opF .add .f32 m (sizeO (awayQ x0 x1 x2 x3 q))) (some 0)
def bothOk (x0 x1 x2 x3 : List Nat) : Bool := shareB x0 x1 && shareB x2 x3
noncomputable def stepsV (x0 x1 x2 x3 : List Nat) : Option Nat := if bothOk x0 x1 x2 x3 then stepsL x0 x1 x2 x3 (vbQ x0 x2) else some 0
noncomputable def apartV (x0 x1 x2 x3 : List Nat) : Option Nat := if bothOk x0 x1 x2 x3 then opF .mul .f32 (some 1056964608) (apartL x0 x1 x2 x3 (vbQ x0 x2)) else some 0
theorem stepsL_snoc (x0 x1 x2 x3 : List Nat) (qs : List Rat) (q : Rat) : stepsL x0 x1 x2 x3 (qs ++ [q]) = bigO (stepsL x0 x1 x2 x3 qs) (sizeO (gapQ x0 x1 x2 x3 q)) := by simp [stepsL]
theorem apartL_snoc (x0 x1 x2 x3 : List Nat) (qs : List Rat) (q : Rat) : apartL x0 x1 x2 x3 (qs ++ [q]) = opF .add .f32 (apartL x0 x1 x2 x3 qs) (sizeO (awayQ x0 x1 x2 x3 q)) := by simp [apartL]
theorem up0_apart (x0 x1 x2 x3 : List Nat) (qs : List Rat) : Up0 (apartL x0 x1 x2 x3 qs) := by
  suffices h : ∀ (qs : List Rat) (m : Option Nat), Up0 m → Up0 (qs.foldl (fun m q => opF .add .f32 m (sizeO (awayQ x0 x1 x2 x3 q))) m) from h qs _ (.inr ⟨0, Nat.zero_le _, rfl⟩)
  intro qs
  induction qs with
  | nil => exact fun m h => h
  | cons q qs ih => exact fun m h => ih _ (up0_add h (up0_size (canon_sub _ _)))
/-- What has been found so far is the word of a number not below 0. -/
theorem up_steps {x0 x1 x2 x3 : List Nat} (h1 : shareB x0 x1 = true) (h2 : shareB x2 x3 = true) (qs : List Rat) : ∃ M, M ≤ infR ∧ stepsL x0 x1 x2 x3 qs = some (wd false M) := by
  suffices h : ∀ (qs : List Rat) (m : Option Nat), (∃ M, M ≤ infR ∧ m = some (wd false M)) → ∃ M, M ≤ infR ∧ qs.foldl (fun m q => bigO m (sizeO (gapQ x0 x1 x2 x3 q))) m = some (wd false M) from h qs _ ⟨0, Nat.zero_le _, rfl⟩
  intro qs
  induction qs with
  | nil => exact fun m h => h
  | cons q qs ih =>
    intro m hm
    refine ih _ ?_
    obtain ⟨R, hR, e1⟩ := belowQ_fin h1 q
    obtain ⟨S, hS, e2⟩ := belowQ_fin h2 q
    obtain ⟨s, T, hT, e3⟩ := sub_fin hR hS
    show ∃ M, M ≤ infR ∧ bigO m (sizeO (gapQ x0 x1 x2 x3 q)) = some (wd false M)
    unfold bigO
    by_cases hb : (ordF .f32 (sizeO (gapQ x0 x1 x2 x3 q)) m == some .gt) = true
    · rw [if_pos hb]
      exact ⟨T, hT, by unfold gapQ; rw [e1, e2, e3, sizeO_wd s hT]⟩
    · rw [if_neg hb]
      exact hm
/-- 'max' of what was found so far and an absolute value. -/
theorem gap_some {x0 x1 x2 x3 : List Nat} (h1 : shareB x0 x1 = true) (h2 : shareB x2 x3 = true) (q : Rat) : ∃ s T, T ≤ infR ∧ gapQ x0 x1 x2 x3 q = some (wd s T) := by
  obtain ⟨R, hR, e1⟩ := belowQ_fin h1 q
  obtain ⟨S, hS, e2⟩ := belowQ_fin h2 q
  obtain ⟨s, T, hT, e3⟩ := sub_fin hR hS
  exact ⟨s, T, hT, by unfold gapQ; rw [e1, e2, e3]⟩
end

section
open Go.RowKit
attribute [local go_sem] run_fl_add run_fl_sub run_fl_mul run_fl_quo

/-- Two lists are merged up to i and k. -/
structure MInv (xs ys out : List Nat) (i k : Nat) : Prop where
  rise : ∀ (a b x y : Nat), a < b → out[a]? = some x → out[b]? = some y → val x < val y
  mem : ∀ q, Vs out q ↔ Vs (xs.take i) q ∨ Vs (ys.take k) q
  src : ∀ o ∈ out, o ∈ xs ∨ o ∈ ys
  lx : ∀ o ∈ out, ∀ (j x : Nat), i ≤ j → xs[j]? = some x → val o < val x
  ly : ∀ o ∈ out, ∀ (j x : Nat), k ≤ j → ys[j]? = some x → val o < val x
section
variable {xs ys out : List Nat} {i k i' k' x y z : Nat}
theorem MInv.start (xs ys : List Nat) : MInv xs ys [] 0 0 := by
  refine ⟨fun a b x y _ h => by simp at h, fun q => ?_, fun o h => by simp at h, fun o h => by simp at h, fun o h => by simp at h⟩
  simp [Vs]
theorem snoc_get {α : Type} {l : List α} {z u : α} {b : Nat} (h : (l ++ [z])[b]? = some u) : (b < l.length ∧ l[b]? = some u) ∨ (b = l.length ∧ u = z) := by
  by_cases hb : b < l.length
  · rw [List.getElem?_append_left hb] at h
    exact .inl ⟨hb, h⟩
  · rw [List.getElem?_append_right (by omega)] at h
    have : b - l.length = 0 := by
      have := (List.getElem?_eq_some_iff.1 h).1
      simp at this
      omega
    rw [this] at h
    simp at h
    exact .inr ⟨by omega, h.symm⟩
theorem MInv.push (h : MInv xs ys out i k) (hz : z ∈ xs ∨ z ∈ ys) (ha : ∀ o ∈ out, val o < val z) (hm : ∀ q, (Vs (xs.take i') q ∨ Vs (ys.take k') q) ↔ (Vs (xs.take i) q ∨ Vs (ys.take k) q) ∨ val z = q)
    (hx : ∀ (j x : Nat), i' ≤ j → xs[j]? = some x → val z < val x) (hy : ∀ (j x : Nat), k' ≤ j → ys[j]? = some x → val z < val x) (hi : i ≤ i') (hk : k ≤ k') : MInv xs ys (out ++ [z]) i' k' where
  rise := fun a b u v hab hu hv => by
    rcases snoc_get hv with ⟨h1, h2⟩ | ⟨h1, rfl⟩
    · rcases snoc_get hu with ⟨h3, h4⟩ | ⟨h3, _⟩
      · exact h.rise a b u v hab h4 h2
      · omega
    · rcases snoc_get hu with ⟨h3, h4⟩ | ⟨h3, _⟩
      · exact ha u (List.mem_of_getElem? h4)
      · omega
  mem := fun q => by
    rw [hm, ← h.mem, vs_app]
    simp [Vs]
  src := fun o ho => by
    rcases List.mem_append.1 ho with h1 | h1
    · exact h.src o h1
    · rw [List.mem_singleton.1 h1]; exact hz
  lx := fun o ho j u hj hu => by
    rcases List.mem_append.1 ho with h1 | h1
    · exact h.lx o h1 j u (by omega) hu
    · rw [List.mem_singleton.1 h1]; exact hx j u hj hu
  ly := fun o ho j u hj hu => by
    rcases List.mem_append.1 ho with h1 | h1
    · exact h.ly o h1 j u (by omega) hu
    · rw [List.mem_singleton.1 h1]; exact hy j u hj hu
def Rises (xs : List Nat) : Prop := ∀ (i j x y : Nat), i < j → xs[i]? = some x → xs[j]? = some y → val x < val y
theorem rises_of {v : List Nat} (hf : v.all finB = true) (hr : riseTo v v.length = true) : Rises v := fun _ _ _ _ h hx hy => share_mono hf hr h hx hy
theorem MInv.left (h : MInv xs ys out i k) (hR : Rises xs) (hx : xs[i]? = some x) (hl : ∀ (j y : Nat), k ≤ j → ys[j]? = some y → val x < val y) : MInv xs ys (out ++ [x]) (i + 1) k :=
  h.push (.inl (List.mem_of_getElem? hx)) (fun o ho => h.lx o ho i x (Nat.le_refl _) hx) (fun q => by
    rw [vs_snoc hx]
    constructor
    · rintro ((h | h) | h)
      · exact .inl (.inl h)
      · exact .inr h
      · exact .inl (.inr h)
    · rintro ((h | h) | h)
      · exact .inl (.inl h)
      · exact .inr h
      · exact .inl (.inr h)) (fun j u hj hu => hR i j x u (by omega) hx hu) hl (by omega) (Nat.le_refl _)
theorem MInv.right (h : MInv xs ys out i k) (hR : Rises ys) (hy : ys[k]? = some y) (hl : ∀ (j x : Nat), i ≤ j → xs[j]? = some x → val y < val x) : MInv xs ys (out ++ [y]) i (k + 1) :=
  h.push (.inr (List.mem_of_getElem? hy)) (fun o ho => h.ly o ho k y (Nat.le_refl _) hy) (fun q => by
    rw [vs_snoc hy]
    exact or_assoc.symm) hl (fun j u hj hu => hR k j y u (by omega) hy hu) (Nat.le_refl _) (by omega)
theorem MInv.both (h : MInv xs ys out i k) (hR : Rises xs) (hS : Rises ys) (hx : xs[i]? = some x) (hy : ys[k]? = some y) (he : val x = val y) : MInv xs ys (out ++ [x]) (i + 1) (k + 1) :=
  h.push (.inl (List.mem_of_getElem? hx)) (fun o ho => h.lx o ho i x (Nat.le_refl _) hx) (fun q => by
    rw [vs_snoc hx, vs_snoc hy, ← he]
    constructor
    · rintro ((h | h) | (h | h))
      · exact .inl (.inl h)
      · exact .inr h
      · exact .inl (.inr h)
      · exact .inr h
    · rintro ((h | h) | h)
      · exact .inl (.inl h)
      · exact .inr (.inl h)
      · exact .inl (.inr h)) (fun j u hj hu => hR i j x u (by omega) hx hu) (fun j u hj hu => by rw [he]; exact hS k j y u (by omega) hy hu) (by omega) (by omega)
theorem rises_from {j : Nat} (hR : Rises ys) (hk : ys[k]? = some y) (hkj : k ≤ j) {u : Nat} (hu : ys[j]? = some u) (hl : val x < val y) : val x < val u := by
  by_cases e : j = k
  · subst e
    rw [hk] at hu
    cases hu
    exact hl
  · have := hR k j y u (by omega) hk hu
    grind
theorem MInv.done (h : MInv xs ys out xs.length ys.length) (hF : xs.all finB = true) (hG : ys.all finB = true) : VB xs ys out :=
  ⟨h.rise, fun q => by rw [h.mem, List.take_length, List.take_length], fun z hz => by
    rcases h.src z hz with h1 | h1
    · exact List.all_eq_true.1 hF z h1
    · exact List.all_eq_true.1 hG z h1⟩
end

theorem abs_absB (x : Nat) : absF .f32 (absB x) = (absF .f32 x).map absB := by
  cases h : (FloatKind.f32.decode x).isNaN
  · rw [absF_of h, Option.map_some]
    refine absF_of ?_
    unfold absB
    split
    · have := read_neg x
      show (FloatKind.f32.format.read _).isNaN = false
      rw [this]
      have h' : (FloatKind.f32.format.read x).isNaN = false := h
      cases hr : FloatKind.f32.format.read x with
      | nan s t => rw [hr] at h'; cases h'
      | infinity s => rfl
      | number s m p => rfl
    · exact h
  · have : absB x = x := by
      unfold absB
      rw [show ord32 x 0 = none from ord_nan h]
      rfl
    rw [this, absF_nan h]
    rfl
set_option maxHeartbeats 1600000 in
theorem chanceAt_any (s0 s1 : Value) (x0 x1 : List Nat) (t : Nat) (hn0 : x0.length ≤ 1000000) (hl : x1.length = x0.length) (hF : x0.all finB = true) (ht : finB t = true) (w : World) (hr0 : Rd fV w s0 x0) (hr1 : Rd fV w s1 x1) :
    Calls Tryz.prog 46 #[shV s0 s1, fV t] w fun e w' => ∃ b, e = .returned (fV b) ∧ absF .f32 b = chanceQ x0 x1 (val t) ∧ Below w.heap.size w w' := by
  have HR0 := Lib.hid hr0
  obtain ⟨A0, cap0, rfl, hcap0, hA0⟩ := hr0
  have HA0 := Lib.hid hA0
  clear hA0
  have HR1 := Lib.hid hr1
  obtain ⟨A1, cap1, rfl, hcap1, hA1⟩ := hr1
  have HA1 := Lib.hid hA1
  clear hA1
  have HL := Lib.hid hl
  have HF := Lib.hid hF
  have HTF := Lib.hid ht
  rw [hl] at hcap1
  rw [hl]
  clear hl hF ht
  go_enter Tryz.func46, Tryz.ntmps46
  go_wp2_with fail
  have B := BoxAt.new w [.slice A0 x0.length cap0, .slice A1 x0.length cap1] 26
  have hT := below_alloc w (.cells ([.slice A0 x0.length cap0, .slice A1 x0.length cap1] : List Value).toArray 26)
  generalize hg : World.alloc w _ = W0 at *
  clear hg
  refine (index_any _ x0 t (by omega) _ (HR0.out.below hT)).mono ?_
  rintro e w1 ⟨hI, n, hw1⟩
  have hb := below_of_drew ⟨n, hw1⟩
  clear hw1
  replace B := B.below hb
  replace hT := below_to hT hb hT.size
  clear hb
  have d0 := B.cell 0 _ rfl
  have d1 := B.cell 1 _ rfl
  rcases hI with ⟨k, c0, rfl, hk, he, hn⟩ | ⟨rfl, hn⟩
  · have hlt := get_lt hk
    obtain ⟨c, hc⟩ := get_of_lt (xs := x1) (k := k) (by rw [HL.out]; exact hlt)
    obtain ⟨ad1, rfl, hbl1, hcell1⟩ := HA1.out k c hc
    have e1 : w1.cell? (ad1.add k) = some (fV c) := by rw [hT.cell (by rw [add_block]; exact hbl1)]; exact hcell1
    have hfx := List.all_eq_true.1 HF.out c0 (List.mem_of_getElem? hk)
    have hv : val c0 = val t := by
      rw [show (ord32 t c0 == some .eq) = _ from eq_dec HTF.out hfx] at he
      exact (of_decide_eq_true he).symm
    have hq := chanceQ_at (q := val t) hk hc hv (fun j u hj hu e => by
      have h := hn j u hj hu
      rw [show (ord32 t u == some .eq) = _ from eq_dec HTF.out (List.all_eq_true.1 HF.out u (List.mem_of_getElem? hu))] at h
      exact (of_decide_eq_false h) e.symm)
    have HQ := Lib.hid hq
    have k0 : (k : Int) ≥ 0 := by omega
    have k1 : (0 : Int) ≤ (k : Int) := by omega
    have k2 : (k : Int) < (x0.length : Int) := by omega
    clear hq hv hk hc he hn hcell1
    go_wp2
    go_ret
    exact ⟨c, rfl, HQ.out.symm, hT⟩
  · have HQ := Lib.hid (chanceQ_none (c := x1) (q := val t) (fun j u hu e => by
      have h := hn j u hu
      rw [show (ord32 t u == some .eq) = _ from eq_dec HTF.out (List.all_eq_true.1 HF.out u (List.mem_of_getElem? hu))] at h
      exact (of_decide_eq_false h) e.symm))
    clear hn
    go_wp2
    go_ret
    exact ⟨0, rfl, by rw [HQ.out]; exact abs_zero, hT⟩
end
end Go.Proofs.YtjajlddnhmbekaaGreat
