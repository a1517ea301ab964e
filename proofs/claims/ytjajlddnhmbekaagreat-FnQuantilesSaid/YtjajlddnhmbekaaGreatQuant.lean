/-
  The first value up to which the chances are enough: impl.valueWhere (for whatever function that answers), both QuantileOf.
-/
import Derived.Test.YtjajlddnhmbekaaGreatMean
import Derived.Test.YtjajlddnhmbekaaGreatSl
namespace Go.Proofs.YtjajlddnhmbekaaGreat
open Go.RowKit
attribute [local go_sem] run_fl_add run_fl_sub run_fl_mul run_fl_quo run_up_

def qSum (c : List Nat) (i : Nat) : Option Nat := sumF (absL (c.take (i + 1)))
/-- The first value up to which the sum of the chances is enough, but the last one if there is none. -/
def qv (v c : List Nat) (p : Option Nat → Bool) : Nat := match (List.range v.length).find? (fun i => p (qSum c i)) with | some i => v.getD i 0 | none => v.getD (v.length - 1) 0
theorem qv_hit {v c : List Nat} {p : Option Nat → Bool} {k x : Nat} (hx : v[k]? = some x) (h : ∀ i, i < k → p (qSum c i) = false) (hp : p (qSum c k) = true) : qv v c p = x := by
  have hk := lt_of_get hx
  have : (List.range v.length).find? (fun i => p (qSum c i)) = some k := by
    rw [List.find?_range_eq_some]
    exact ⟨hp, by simpa using hk, fun j hj => by simp [h j hj]⟩
  unfold qv
  rw [this]
  exact getD_of hx
theorem qv_none {v c : List Nat} {p : Option Nat → Bool} {x : Nat} (hx : v[v.length - 1]? = some x) (h : ∀ i, i < v.length → p (qSum c i) = false) : qv v c p = x := by
  have : (List.range v.length).find? (fun i => p (qSum c i)) = none := by
    rw [List.find?_eq_none]
    intro i hi
    rw [h i (by simpa using hi)]; simp
  unfold qv
  rw [this]
  exact getD_of hx
theorem qSum_at {c : List Nat} {k y : Nat} (hy : c[k]? = some y) : qSum c k = opF .add .f32 (sumF (absL (c.take k))) (absF .f32 y) := by
  unfold qSum
  rw [absL_snoc hy, sumF_snoc]

set_option maxHeartbeats 1600000 in
theorem valueWhere_any (pB : Nat → Bool) (pA : Option Nat → Bool) (hAB : ∀ x, pB x = pA (absF .f32 x)) (K : Nat) (cp : Array Value) (s0 s1 : Value) (x0 x1 : List Nat) (hn0 : x0.length ≤ 1099511627776) (hpos : 1 ≤ x0.length) (hl : x1.length = x0.length)
    (hK : ∀ (args : Array Value) (w : World), (callFunc K args).run Tryz.prog w = .ok (.enter K args) w) (w : World)
    (hC : ∀ (x : Nat) (w' : World), Below w.heap.size w w' → Calls Tryz.prog K (#[fV x] ++ cp) w' fun e w'' => e = .returned (.bool (pB x)) ∧ w' = w'') (hr0 : Rd fV w s0 x0) (hr1 : Rd fV w s1 x1) :
    Calls Tryz.prog 25 #[shV s0 s1, .func (.func K) #[] cp] w fun e w' => e = .returned (fV (qv x0 x1 pA)) ∧ Below w.heap.size w w' := by
  have HR0 := Lib.hid hr0
  obtain ⟨A0, cap0, rfl, hcap0, hA0⟩ := hr0
  have HA0 := Lib.hid hA0
  clear hA0
  have HR1 := Lib.hid hr1
  obtain ⟨A1, cap1, rfl, hcap1, hA1⟩ := hr1
  have HA1 := Lib.hid hA1
  clear hA1
  have HL := Lib.hid hl
  have HC := Lib.hid hC
  have HAB := Lib.hid hAB
  rw [hl] at hcap1
  rw [hl]
  clear hl hC hAB
  have ha := BoxAt.new w [.slice A0 x0.length cap0, .slice A1 x0.length cap1] 26
  have hT := below_alloc w (.cells ([.slice A0 x0.length cap0, .slice A1 x0.length cap1] : List Value).toArray 26)
  go_enter Tryz.func25, Tryz.ntmps25
  go_wp2
  generalize hg : World.alloc w _ = W0 at *
  clear hg
  go_loopw [5, 11] (fun ss si wr => ∃ (k b : Nat), k ≤ x0.length ∧ si = .int .i64 k ∧ ss = fV b ∧ Hid (absF .f32 b = sumF (absL (x1.take k))) ∧ Hid (∀ i, i < k → pA (qSum x1 i) = false) ∧ Below W0.heap.size W0 wr) (fun _ si _ => x0.length - (intOf si).toNat)
  case atStart => exact ⟨0, 0, by omega, rfl, rfl, abs_zero, fun i hi => absurd hi (Nat.not_lt_zero _), Below.refl _ _⟩
  case round =>
    obtain ⟨k, b, hk, rfl, rfl, hs, hno, hb⟩ := hrel
    have B := ha.below hb
    have hb0 := hb
    replace hb := below_to hT hb hT.size
    have d0 := B.cell 0 _ rfl
    have d1 := B.cell 1 _ rfl
    by_cases hlt : k < x0.length
    · obtain ⟨x, hx⟩ := get_of_lt hlt
      obtain ⟨c, hc⟩ := get_of_lt (xs := x1) (k := k) (by rw [HL.out]; exact hlt)
      obtain ⟨ad, rfl, hbl, hcell⟩ := HA0.out k x hx
      obtain ⟨ad1, rfl, hbl1, hcell1⟩ := HA1.out k c hc
      have e0 : wr.cell? (ad.add k) = some (fV x) := by rw [hb.cell (by rw [add_block]; exact hbl)]; exact hcell
      have e1 : wr.cell? (ad1.add k) = some (fV c) := by rw [hb.cell (by rw [add_block]; exact hbl1)]; exact hcell1
      have HX := Lib.hid hx
      have HCc := Lib.hid hc
      have HQ := Lib.hid (qSum_at hc)
      clear hx hc hcell hcell1
      go_wp2_with fail
      refine (HC.out _ _ (below_drewN_ hb)).mono ?_
      rintro e w' ⟨rfl, rfl⟩
      rw [HAB.out, abs_flR .add rfl, hs.out, ← HQ.out]
      cases hp : pA (qSum x1 k)
      · have HP := Lib.hid hp
        clear hp
        go_wp2
        go_roundw
        case rel => exact ⟨k + 1, _, by omega, by go_num, rfl, by unfold Hid; rw [absL_snoc HCc.out, sumF_snoc, abs_flR .add rfl, hs.out], (fun i hi => by rcases Nat.lt_succ_iff_lt_or_eq.1 hi with h | h; exact hno.out i h; rw [h]; exact HP.out), below_drewN_ hb0⟩
        case measure => simp [intOf]; omega
      · have HP := Lib.hid hp
        clear hp
        go_wp2
        go_ret
        exact ⟨by rw [qv_hit HX.out hno.out HP.out] <;> rfl, below_drewN_ hb⟩
    · have hke : k = x0.length := by omega
      obtain ⟨x, hx⟩ := get_of_lt (xs := x0) (k := x0.length - 1) (by omega)
      obtain ⟨ad, rfl, hbl, hcell⟩ := HA0.out _ x hx
      have e0 : wr.cell? (ad.add (x0.length - 1)) = some (fV x) := by rw [hb.cell (by rw [add_block]; exact hbl)]; exact hcell
      have hq := qv_none (p := pA) (c := x1) hx (by rw [← hke]; exact hno.out)
      have h1 : (x0.length : Int) - 1 = ((x0.length - 1 : Nat) : Int) := by omega
      clear hx hcell
      have Hke := Lib.hid hke
      clear hke
      have Hq := Lib.hid hq
      clear hq
      go_wp2
      go_ret
      exact ⟨by rw [Hq.out] <;> rfl, hb⟩

def quantB (v c : List Nat) (p : Nat) : Bool := shareB v c && partB p
def geA (p : Nat) (s : Option Nat) : Bool := ordF .f32 s (absF .f32 p) == some .gt || ordF .f32 s (absF .f32 p) == some .eq
theorem geA_bits (p x : Nat) : geB x p = geA p (absF .f32 x) := by
  unfold geB geA
  rw [show ord32 x p = ordF .f32 (absF .f32 x) (absF .f32 p) from ord_abs .f32 _ _]
def quantV (v c : List Nat) (p : Nat) : Nat := if quantB v c p then qv v c (geA p) else 0
def RetQuantileOf (x0 x1 : List Nat) (p : Nat) (w : World) (e : Ending) (w' : World) : Prop :=
  ∃ b, e = .returned (.tuple #[fV b, .bool (quantB x0 x1 p)]) ∧ absF .f32 b = absF .f32 (quantV x0 x1 p) ∧ Below w.heap.size w w'
theorem quantB_f1 {v c : List Nat} {p : Nat} (h : shareB v c = false) : quantB v c p = false ∧ quantV v c p = 0 := by
  have : quantB v c p = false := by unfold quantB; rw [h]; rfl
  exact ⟨this, by unfold quantV; rw [this]; rfl⟩
theorem quantB_f2 {v c : List Nat} {p : Nat} (h : partB p = false) : quantB v c p = false ∧ quantV v c p = 0 := by
  have : quantB v c p = false := by unfold quantB; rw [h]; simp
  exact ⟨this, by unfold quantV; rw [this]; rfl⟩
theorem quantB_t {v c : List Nat} {p : Nat} (h : shareB v c = true) (h2 : partB p = true) : quantB v c p = true ∧ quantV v c p = qv v c (geA p) := by
  have : quantB v c p = true := by unfold quantB; rw [h, h2]; rfl
  exact ⟨this, by unfold quantV; rw [this]; rfl⟩

theorem quantile1_any (x p a : Nat) (w : World) (h : w.cell? ⟨a, 0, none⟩ = some (fV p)) :
    Calls Tryz.prog 26 #[fV x, .pointer (some ⟨a, 0, none⟩)] w fun e w' => e = .returned (.bool (geB x p)) ∧ w = w' := by
  go_enter Tryz.func26, Tryz.ntmps26
  go_wp2
  go_ret
  exact ⟨rfl, rfl⟩
theorem enter_quantile1 (args : Array Value) (w : World) : (callFunc 26 args).run Tryz.prog w = .ok (.enter 26 args) w :=
  enter_of Tryz.func26 (by kernel_rfl) (by kernel_rfl) args w

set_option maxHeartbeats 1600000 in
theorem implQuantileOf_any (s0 : Value) (x0 : List Nat) (s1 : Value) (x1 : List Nat) (hn0 : x0.length ≤ 1099511627776) (hn1 : x1.length ≤ 1099511627776) (p : Nat) (w : World) (hr0 : Rd fV w s0 x0) (hr1 : Rd fV w s1 x1) :
    Calls Tryz.prog 7 #[shV s0 s1, fV p] w (RetQuantileOf x0 x1 p w) := by
  have HR0 := Lib.hid hr0
  obtain ⟨A0, cap0, rfl, hcap0, hA0⟩ := hr0
  have HA0 := Lib.hid hA0
  clear hA0
  have HR1 := Lib.hid hr1
  obtain ⟨A1, cap1, rfl, hcap1, hA1⟩ := hr1
  have HA1 := Lib.hid hA1
  clear hA1
  go_enter Tryz.func7, Tryz.ntmps7
  go_wp2_with fail
  have B : BoxAt ((w.alloc (.cells ([.slice A0 x0.length cap0, .slice A1 x1.length cap1] : List Value).toArray 26)).alloc (.cells ([fV p] : List Value).toArray 28)) w.heap.size [.slice A0 x0.length cap0, .slice A1 x1.length cap1] := (BoxAt.new w _ _).alloc _
  have Bp : BoxAt ((w.alloc (.cells ([.slice A0 x0.length cap0, .slice A1 x1.length cap1] : List Value).toArray 26)).alloc (.cells ([fV p] : List Value).toArray 28)) (w.heap.size + 1) [fV p] := by
    have := BoxAt.new (w.alloc (.cells ([.slice A0 x0.length cap0, .slice A1 x1.length cap1] : List Value).toArray 26)) [fV p] 28
    rwa [size_alloc] at this
  have hT : Below w.heap.size w ((w.alloc (.cells ([.slice A0 x0.length cap0, .slice A1 x1.length cap1] : List Value).toArray 26)).alloc (.cells ([fV p] : List Value).toArray 28)) := ((Below.refl _ _).alloc (Nat.le_refl _) _).alloc (by simp) _
  generalize hg : (w.alloc _).alloc _ = W0 at *
  clear hg
  refine (implValidShare_any _ x0 _ x1 hn0 hn1 _ (HR0.out.below hT) (HR1.out.below hT)).mono ?_
  rintro e w1 ⟨rfl, hb⟩
  replace B := B.below hb
  replace Bp := Bp.below hb
  replace hT := below_to hT hb hT.size
  clear hb
  cases hs : shareB x0 x1
  · have Ho := Lib.hid (quantB_f1 (p := p) hs)
    have Hs := Lib.hid hs
    clear hs
    go_wp2
    go_ret2
    exact ⟨0, by rw [Ho.out.1] <;> rfl, by rw [Ho.out.2], hT⟩
  · have hl := shareB_len hs
    have Hs := Lib.hid hs
    clear hs
    have Hl := Lib.hid hl
    clear hl
    have p0 := Bp.cell 0 _ rfl
    go_wp2_with fail
    have hb := below_alloc w1 (.cells ([fV p] : List Value).toArray 28)
    have ho := (rd_one fV w1 p 28)
    clear p0
    generalize hg : World.alloc w1 _ = W2 at *
    clear hg
    replace B := B.below hb
    replace Bp := Bp.below hb
    replace hT := below_to hT hb hT.size
    clear hb
    refine (areParts_any _ [p] (by simp) _ ho).mono ?_
    rintro e w2 ⟨rfl, hd⟩
    have hb := below_of_drew hd
    clear hd ho
    replace B := B.below hb
    replace Bp := Bp.below hb
    replace hT := below_to hT hb hT.size
    clear hb
    have hall : [p].all partB = partB p := by simp
    rw [hall]
    clear hall
    cases hf : partB p
    · have Ho := Lib.hid (quantB_f2 (v := x0) (c := x1) hf)
      have Hf := Lib.hid hf
      clear hf
      go_wp2
      go_ret2
      exact ⟨0, by rw [Ho.out.1] <;> rfl, by rw [Ho.out.2], hT⟩
    · have Ho := Lib.hid (quantB_t Hs.out hf)
      have Hf := Lib.hid hf
      clear hf
      have d0 := B.cell 0 _ rfl
      have d1 := B.cell 1 _ rfl
      go_wp2_with fail
      refine (valueWhere_any (fun x => geB x p) (geA p) (geA_bits p) 26 #[.pointer (some ⟨w.heap.size + 1, 0, none⟩)] _ _ x0 x1 hn0 Hl.out.1.1 Hl.out.2 enter_quantile1 _ (fun x w' hw' => quantile1_any x p _ w' ((Bp.below hw').cell 0 _ rfl)) (HR0.out.below hT) (HR1.out.below hT)).mono ?_
      rintro e w3 ⟨rfl, hb⟩
      clear d0 d1
      replace B := B.below hb
      replace Bp := Bp.below hb
      replace hT := below_to hT hb hT.size
      clear hb
      go_wp2
      go_ret2
      exact ⟨_, by rw [Ho.out.1] <;> rfl, by rw [Ho.out.2], hT⟩
end Go.Proofs.YtjajlddnhmbekaaGreat
