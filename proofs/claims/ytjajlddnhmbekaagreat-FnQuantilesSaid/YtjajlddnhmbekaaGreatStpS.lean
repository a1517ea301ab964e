/-
  spec.l05All: the merging of the values of two shares.
  impl.StepsApart, impl.ApartShares.
  spec.StepsApart, spec.ApartShares.
-/
import Derived.Test.YtjajlddnhmbekaaGreatApV
import Derived.Test.YtjajlddnhmbekaaGreatSl
import Derived.Test.YtjajlddnhmbekaaGreatTwoR2
import Derived.Deep.RegionHeld3
namespace Go.Proofs.YtjajlddnhmbekaaGreat
section
open Go.RowKit

def AllE (x0 x2 : List Nat) (w : World) (e : Ending) (w' : World) : Prop :=
  ∃ v zs, e = .returned v ∧ Rd fV w' v zs ∧ VB x0 x2 zs ∧ zs.length ≤ 200 ∧ Below w.heap.size w w'
end

section
open Go.RowKit
attribute [local go_sem] run_fl_add run_fl_mul run_fl_quo

theorem apartOk_1 {x0 x1 x2 x3 : List Nat} (h : shareB x0 x1 = false) : bothOk x0 x1 x2 x3 = false := by unfold bothOk; rw [h]; rfl
theorem apartOk_2 {x0 x1 x2 x3 : List Nat} (h : shareB x2 x3 = false) : bothOk x0 x1 x2 x3 = false := by unfold bothOk; rw [h]; simp
theorem apartOk_t {x0 x1 x2 x3 : List Nat} (h : shareB x0 x1 = true) (k : shareB x2 x3 = true) : bothOk x0 x1 x2 x3 = true := by unfold bothOk; rw [h, k]; rfl
def RetStepsApart (x0 x1 x2 x3 : List Nat) (w : World) (e : Ending) (w' : World) : Prop :=
  ∃ b, e = .returned (.tuple #[fV b, .bool (bothOk x0 x1 x2 x3)]) ∧ absF .f32 b = stepsV x0 x1 x2 x3 ∧ Below w.heap.size w w'
def RetApartShares (x0 x1 x2 x3 : List Nat) (w : World) (e : Ending) (w' : World) : Prop :=
  ∃ b, e = .returned (.tuple #[fV b, .bool (bothOk x0 x1 x2 x3)]) ∧ absF .f32 b = apartV x0 x1 x2 x3 ∧ Below w.heap.size w w'
/-- 'max' of what was found so far and an absolute value. -/
def maxW (M T : Nat) : Nat := if ord32 (wd false T) (wd false M) == some .gt then wd false T else wd false M
theorem maxW_big {M T : Nat} (hM : M ≤ infR) (hT : T ≤ infR) : some (maxW M T) = bigO (some (wd false M)) (some (wd false T)) := by
  unfold maxW bigO
  rw [show ord32 (wd false T) (wd false M) = ordF .f32 (absF .f32 (wd false T)) (absF .f32 (wd false M)) from ord_abs .f32 _ _, abs_wd _ hM, abs_wd _ hT]
  split <;> rfl
theorem maxW_is {M T : Nat} (hM : M ≤ infR) (hT : T ≤ infR) : ∃ Q, Q ≤ infR ∧ maxW M T = wd false Q := by
  unfold maxW
  split
  · exact ⟨T, hT, rfl⟩
  · exact ⟨M, hM, rfl⟩
theorem ord_wd_some {M T : Nat} (hM : M ≤ infR) (hT : T ≤ infR) : ∃ o, ord32 (wd false M) (wd false T) = some o := by
  unfold ord32 Ieee.Format.order
  rcases Nat.lt_or_eq_of_le hM with h | h <;> rcases Nat.lt_or_eq_of_le hT with k | k
  · rw [read_wd false h, read_wd false k]; exact ⟨_, rfl⟩
  · subst k; rw [read_wd false h, read_inf]; exact ⟨_, rfl⟩
  · subst h; rw [read_wd false k, read_inf]; exact ⟨_, rfl⟩
  · subst h; subst k; rw [read_inf]; exact ⟨_, rfl⟩
theorem run_max_w {P : Program} (ats : Array TypeId) (ty : TypeId) {s : Bool} {M T : Nat} (hM : M ≤ infR) (hT : T ≤ infR) (w : World) : (Builtin.max_ ats ty #[.float .f32 (wd false M), .float .f32 (absB (wd s T))]).run P w = .ok (.float .f32 (maxW M T)) w := by
  have hneg : (FloatKind.f32.decode (wd false M)).neg = false := by
    show (FloatKind.f32.format.read (wd false M)).neg = false
    rcases Nat.lt_or_eq_of_le hM with h | h
    · rw [read_wd false h]; rfl
    · subst h; rw [read_inf]; rfl
  have h0 : ∀ y, FloatKind.f32.format.order (wd false M) y = some .gt ∨ FloatKind.f32.format.order (wd false M) y = some .eq → (Builtin.max_ ats ty #[.float .f32 (wd false M), .float .f32 y]).run P w = .ok (.float .f32 (wd false M)) w := by
    rintro y (h | h) <;> simp [Builtin.max_, Builtin.max2, h, hneg]
  rw [absB_wd s hT]
  split
  · rename_i hc
    have hT0 := hc.2
    subst hT0
    have e : FloatKind.f32.format.order (wd false M) (wd true 0) = ord32 (wd false M) 0 := ord_negzero _
    have e2 := ord_wd false hM
    have hmax : maxW M 0 = wd false M := by
      unfold maxW
      have e3 : (ord32 (wd false 0) (wd false M) == some .gt) = (ord32 (wd false M) 0 == some .lt) := (ord_flip_lt (wd false 0) (wd false M)).symm
      rw [e3, e2]
      by_cases hz : M = 0 <;> simp [hz]
    rw [hmax]
    refine h0 _ ?_
    rw [e, e2]
    by_cases hz : M = 0
    · exact .inr (if_pos hz)
    · exact .inl (by rw [if_neg hz]; rfl)
  · have hf := ord_flip_lt (wd false T) (wd false M)
    unfold maxW
    rw [← hf]
    cases ho : ord32 (wd false M) (wd false T) with
    | none =>
      obtain ⟨o, h⟩ := ord_wd_some hM hT
      rw [h] at ho
      cases ho
    | some o =>
      cases o with
      | lt =>
        have ho' : FloatKind.f32.format.order (wd false M) (wd false T) = some .lt := ho
        simp [Builtin.max_, Builtin.max2, ho']
      | gt => exact h0 _ (.inl ho)
      | eq => exact h0 _ (.inr ho)
/-- The chances below t, to the letter. -/
theorem chanceBelow_at {s0 s1 : Value} {x0 x1 : List Nat} {t R : Nat} (hn0 : x0.length ≤ 64) (hl : x1.length = x0.length) (hF : x0.all finB = true) (ht : finB t = true) (hR : belowQ x0 x1 (val t) x0.length = some (wd false R)) (w : World) (hr0 : Rd fV w s0 x0) (hr1 : Rd fV w s1 x1) :
    Calls Tryz.prog 28 #[shV s0 s1, fV t] w fun e w' => e = .returned (fV (wd false R)) ∧ Below w.heap.size w w' := by
  refine (chanceBelow_any s0 s1 x0 x1 t (by omega) hl w hr0 hr1).mono ?_
  rintro e w' ⟨b, rfl, hb, hB⟩
  rw [belowTo_val hF ht hl _ (Nat.le_refl _), hR] at hb
  obtain ⟨rfl, _⟩ := absF_some hb
  exact ⟨rfl, hB⟩

/-- A chance is a number. -/
theorem chanceQ_num {v c : List Nat} (h : shareB v c = true) (q : Rat) : ∃ y, chanceQ v c q = some y ∧ ∃ s m p, FloatKind.f32.format.read y = .number s m p := by
  obtain ⟨-, -, h3, -⟩ := shareB_parts h
  have hl := (shareB_len h).2
  unfold chanceQ
  split
  · rename_i k hk
    have hk2 : k < v.length := by
      rw [List.findIdx?_eq_some_iff_getElem] at hk
      exact hk.1
    obtain ⟨y, hy⟩ := get_ex (xs := c) (i := k) (by omega)
    obtain ⟨s, m, p, hr, -⟩ := least_numV (List.all_eq_true.1 h3 y (List.mem_of_getElem? hy))
    refine ⟨y, ?_, s, m, p, hr⟩
    rw [getD_of hy]
    exact absF_of (by show (FloatKind.f32.format.read y).isNaN = false; rw [hr]; rfl)
  · exact ⟨0, rfl, false, 0, -149, rfl⟩
theorem sub_num {R S : Nat} (hR : ∃ s m p, FloatKind.f32.format.read R = .number s m p) (hS : ∃ s m p, FloatKind.f32.format.read S = .number s m p) : ∃ s T, T ≤ infR ∧ opF .sub .f32 (some R) (some S) = some (wd s T) := by
  obtain ⟨s, m, p, hR⟩ := hR
  obtain ⟨t, n, q, hS⟩ := hS
  rcases canon_sub (some R) (some S) with h | ⟨s, T, hT, e⟩
  · exfalso
    have hf : opF .sub .f32 (some R) (some S) = ((FloatKind.f32.format.read R).sum (FloatKind.f32.format.read S).opposite).map FloatKind.f32.encode := rfl
    rw [hf, hR, hS] at h
    simp [Ieee.Datum.opposite, Ieee.Datum.sum] at h
  · exact ⟨s, T, hT, e⟩
theorem add_wd {M T : Nat} (hM : M ≤ infR) (hT : T ≤ infR) : ∃ Q, Q ≤ infR ∧ floatBits .add .f32 (wd false M) (wd false T) = some (wd false Q) := by
  rcases Nat.lt_or_eq_of_le hT with h | h
  · obtain ⟨Q, hQ, e, -⟩ := sum_up hM rfl (num_wd h)
    exact ⟨Q, hQ, e⟩
  · subst h
    exact ⟨infR, Nat.le_refl _, add_inf hM rfl⟩
theorem add_abs {s : Bool} {M T : Nat} (hM : M ≤ infR) (hT : T ≤ infR) : ∃ Q, Q ≤ infR ∧ opF .add .f32 (some (wd false M)) (some (wd false T)) = some (wd false Q) ∧ floatBits .add .f32 (wd false M) (absB (wd s T)) = some (wd false Q) := by
  obtain ⟨Q, hQ, e⟩ := add_wd hM hT
  refine ⟨Q, hQ, e, ?_⟩
  have h := add_size (A := some (wd false M)) (d := some (wd s T)) (.inr ⟨M, hM, rfl⟩) (.inr ⟨s, T, hT, rfl⟩)
  rw [sizeO_wd s hT] at h
  exact h.trans e
theorem chanceAt_at {s0 s1 : Value} {x0 x1 : List Nat} {t R : Nat} (hn0 : x0.length ≤ 64) (hl : x1.length = x0.length) (hF : x0.all finB = true) (ht : finB t = true) (hR : chanceQ x0 x1 (val t) = some R) (w : World) (hr0 : Rd fV w s0 x0) (hr1 : Rd fV w s1 x1) :
    Calls Tryz.prog 46 #[shV s0 s1, fV t] w fun e w' => e = .returned (fV R) ∧ Below w.heap.size w w' := by
  refine (chanceAt_any s0 s1 x0 x1 t (by omega) hl hF ht w hr0 hr1).mono ?_
  rintro e w' ⟨b, rfl, hb, hB⟩
  rw [hR] at hb
  obtain ⟨rfl, _⟩ := absF_some hb
  exact ⟨rfl, hB⟩

set_option maxHeartbeats 3200000 in
set_option maxRecDepth 100000 in
theorem implStepsApart_any (s0 : Value) (x0 : List Nat) (s1 : Value) (x1 : List Nat) (hn0 : x0.length ≤ 1099511627776) (hn1 : x1.length ≤ 1099511627776) (s2 : Value) (x2 : List Nat) (s3 : Value) (x3 : List Nat) (hn2 : x2.length ≤ 1099511627776) (hn3 : x3.length ≤ 1099511627776) (w : World) (hr0 : Rd fV w s0 x0) (hr1 : Rd fV w s1 x1) (hr2 : Rd fV w s2 x2) (hr3 : Rd fV w s3 x3) :
    Calls Tryz.prog 18 #[shV s0 s1, shV s2 s3] w (RetStepsApart x0 x1 x2 x3 w) := by
  have HR0 := Lib.hid hr0
  obtain ⟨A0, cap0, rfl, hcap0, hA0⟩ := hr0
  have HA0 := Lib.hid hA0
  clear hA0
  have HR1 := Lib.hid hr1
  obtain ⟨A1, cap1, rfl, hcap1, hA1⟩ := hr1
  have HA1 := Lib.hid hA1
  clear hA1
  have HR2 := Lib.hid hr2
  obtain ⟨A2, cap2, rfl, hcap2, hA2⟩ := hr2
  have HA2 := Lib.hid hA2
  clear hA2
  have HR3 := Lib.hid hr3
  obtain ⟨A3, cap3, rfl, hcap3, hA3⟩ := hr3
  have HA3 := Lib.hid hA3
  clear hA3
  go_enter Tryz.func18, Tryz.ntmps18
  go_wp2_with fail
  have B0 : BoxAt ((w.alloc (.cells ([.slice A0 x0.length cap0, .slice A1 x1.length cap1] : List Value).toArray 26)).alloc (.cells ([.slice A2 x2.length cap2, .slice A3 x3.length cap3] : List Value).toArray 26)) w.heap.size [.slice A0 x0.length cap0, .slice A1 x1.length cap1] := (BoxAt.new w _ _).alloc _
  have B2 : BoxAt ((w.alloc (.cells ([.slice A0 x0.length cap0, .slice A1 x1.length cap1] : List Value).toArray 26)).alloc (.cells ([.slice A2 x2.length cap2, .slice A3 x3.length cap3] : List Value).toArray 26)) (w.heap.size + 1) [.slice A2 x2.length cap2, .slice A3 x3.length cap3] := by
    have := BoxAt.new (w.alloc (.cells ([.slice A0 x0.length cap0, .slice A1 x1.length cap1] : List Value).toArray 26)) [.slice A2 x2.length cap2, .slice A3 x3.length cap3] 26
    rwa [size_alloc] at this
  have hT : Below w.heap.size w ((w.alloc (.cells ([.slice A0 x0.length cap0, .slice A1 x1.length cap1] : List Value).toArray 26)).alloc (.cells ([.slice A2 x2.length cap2, .slice A3 x3.length cap3] : List Value).toArray 26)) := ((Below.refl _ _).alloc (Nat.le_refl _) _).alloc (by simp) _
  generalize hg : (w.alloc _).alloc _ = W0 at *
  clear hg
  refine (implValidShare_any _ x0 _ x1 hn0 hn1 _ (HR0.out.below hT) (HR1.out.below hT)).mono ?_
  rintro e w1 ⟨rfl, hb⟩
  replace B0 := B0.below hb
  replace B2 := B2.below hb
  replace hT := below_to hT hb hT.size
  clear hb
  cases hs0 : shareB x0 x1
  · have Ho := Lib.hid (apartOk_1 (x2 := x2) (x3 := x3) hs0)
    have HT := Lib.hid hT
    clear hs0 hT
    go_wp2
    go_ret2
    exact ⟨0, by rw [Ho.out] <;> rfl, by unfold stepsV; rw [Ho.out]; exact abs_zero, HT.out⟩
  have hl0 := shareB_len hs0
  have Hs0 := Lib.hid hs0
  have HLEN0 := Lib.hid hl0.2
  have h640 : x0.length ≤ 64 := hl0.1.2
  have h10 : 1 ≤ x0.length := hl0.1.1
  have hp0 := shareB_parts hs0
  have HF0 := Lib.hid hp0.1
  have HI0 := Lib.hid hp0.2.1
  clear hs0 hl0 hp0
  have m0 := B2.cell 0 _ rfl
  have m1 := B2.cell 1 _ rfl
  have hlt2 := B2.lt
  go_wp2_with fail
  clear m0 m1 hlt2
  refine (implValidShare_any _ x2 _ x3 hn2 hn3 _ (HR2.out.below hT) (HR3.out.below hT)).mono ?_
  rintro e w2 ⟨rfl, hb⟩
  replace B0 := B0.below hb
  replace B2 := B2.below hb
  replace hT := below_to hT hb hT.size
  clear hb
  cases hs2 : shareB x2 x3
  · have Ho := Lib.hid (apartOk_2 (x0 := x0) (x1 := x1) hs2)
    have HT := Lib.hid hT
    clear hs2 hT
    go_wp2
    go_ret2
    exact ⟨0, by rw [Ho.out] <;> rfl, by unfold stepsV; rw [Ho.out]; exact abs_zero, HT.out⟩
  have hl2 := shareB_len hs2
  have Hs2 := Lib.hid hs2
  have HLEN2 := Lib.hid hl2.2
  have h642 : x2.length ≤ 64 := hl2.1.2
  have h12 : 1 ≤ x2.length := hl2.1.1
  have hp2 := shareB_parts hs2
  have HF2 := Lib.hid hp2.1
  have HI2 := Lib.hid hp2.2.1
  have Hok := Lib.hid (apartOk_t Hs0.out hs2)
  clear hs2 hl2 hp2
  have p0 := B0.cell 0 _ rfl
  have p1 := B0.cell 1 _ rfl
  have q0 := B2.cell 0 _ rfl
  have q1 := B2.cell 1 _ rfl
  have hlt0 := B0.lt
  have hlt2 := B2.lt
  go_wp2_with fail
  refine (valuesOfBoth_any _ _ _ _ x0 x2 h10 h640 h12 h642 HF0.out HF2.out _ (HR0.out.below hT) (HR2.out.below hT)).mono ?_
  rintro e w3 ⟨vv, zs, rfl, hrz, hVB, hzl, hb⟩
  clear p0 p1 q0 q1 hlt0 hlt2
  replace B0 := B0.below hb
  replace B2 := B2.below hb
  replace hT := below_to hT hb hT.size
  clear hb
  obtain ⟨Az, capz, rfl, hcapz, hAz⟩ := hrz
  have HAz := Lib.hid hAz
  have HVB := Lib.hid hVB
  clear hAz hVB
  go_wp2_with fail
  go_loopw [6, 21] (fun sm si wr => ∃ (k M : Nat), k ≤ zs.length ∧ si = .int .i64 k ∧ sm = fV (wd false M) ∧ M ≤ infR ∧ Hid (stepsL x0 x1 x2 x3 ((zs.take k).map val) = some (wd false M)) ∧ Below w3.heap.size w3 wr) (fun _ si _ => zs.length - (intOf si).toNat)
  case atStart => exact ⟨0, 0, Nat.zero_le _, rfl, rfl, Nat.zero_le _, rfl, Below.refl _ _⟩
  case round =>
    obtain ⟨k, M, hk, rfl, rfl, hM, hs, hb⟩ := hrel
    by_cases hlt : k < zs.length
    · obtain ⟨t, ht⟩ := get_of_lt hlt
      obtain ⟨adz, rfl, hblz, hcz⟩ := HAz.out k t ht
      have hft := HVB.out.fin t (List.mem_of_getElem? ht)
      obtain ⟨R, hR, eR⟩ := belowQ_fin Hs0.out (val t)
      obtain ⟨S, hS, eS⟩ := belowQ_fin Hs2.out (val t)
      obtain ⟨s, T, hTT, eT⟩ := sub_fin hR hS
      have hTr : Below w.heap.size w wr := below_to hT hb hT.size
      have HCA : Hid (∀ W, Below w.heap.size w W → Calls Tryz.prog 28 #[shV (.slice A0 x0.length cap0) (.slice A1 x1.length cap1), fV t] W fun e w' => e = .returned (fV (wd false R)) ∧ Below W.heap.size W w') := fun W hW =>
        chanceBelow_at h640 HLEN0.out HF0.out hft eR W (HR0.out.below hW) (HR1.out.below hW)
      have HCB : Hid (∀ W, Below w.heap.size w W → Calls Tryz.prog 28 #[shV (.slice A2 x2.length cap2) (.slice A3 x3.length cap3), fV t] W fun e w' => e = .returned (fV (wd false S)) ∧ Below W.heap.size W w') := fun W hW =>
        chanceBelow_at h642 HLEN2.out HF2.out hft eS W (HR2.out.below hW) (HR3.out.below hW)
      have HSUB : Hid (∀ W, (binOp .sub 28 (.float .f32 (wd false R)) (.float .f32 (wd false S))).run Tryz.prog W = .ok (.float .f32 (wd s T)) W) := fun W => run_float_arith (P := Tryz.prog) W .sub 28 .f32 _ _ _ eT
      have HE : Hid (stepsL x0 x1 x2 x3 ((zs.take (k + 1)).map val) = bigO (some (wd false M)) (some (wd false T))) := by
        unfold Hid
        rw [take_snoc ht, List.map_append, List.map_cons, List.map_nil, stepsL_snoc, hs.out]
        unfold gapQ
        rw [eR, eS, eT, sizeO_wd s hTT]
      have Hb := Lib.hid hb
      have B0r := B0.below hb
      have B2r := B2.below hb
      have ez : wr.cell? (adz.add k) = some (fV t) := by rw [hb.cell (by rw [add_block]; exact hblz)]; exact hcz
      have hk1 : (k : Int) < (zs.length : Int) := by omega
      have hk0 : (0 : Int) ≤ (k : Int) := by omega
      have p0 := B0r.cell 0 _ rfl
      have p1 := B0r.cell 1 _ rfl
      have q0 := B2r.cell 0 _ rfl
      have q1 := B2r.cell 1 _ rfl
      have hlt0 := B0r.lt
      have hlt2 := B2r.lt
      clear ht hcz hft eR eS eT hs hb B0r B2r
      obtain ⟨Q, hQ, eQ⟩ := maxW_is hM hTT
      have HQ := Lib.hid eQ
      have HBig := Lib.hid (maxW_big hM hTT)
      have HMX : Hid (∀ ats ty W, (Builtin.max_ ats ty #[.float .f32 (wd false M), .float .f32 (absB (wd s T))]).run Tryz.prog W = .ok (.float .f32 (maxW M T)) W) := fun ats ty W => run_max_w ats ty hM hTT W
      clear eQ
      go_upto_region 7 with fail
      have hS := HSUB.out
      have hX := HMX.out
      have hws := hTr.size
      go_region_held3 (fun w' => w'.cell? ⟨w.heap.size, 0, none⟩ = some (.slice A0 x0.length cap0) ∧ w'.cell? ⟨w.heap.size, 1, none⟩ = some (.slice A1 x1.length cap1) ∧ w'.cell? ⟨w.heap.size + 1, 0, none⟩ = some (.slice A2 x2.length cap2) ∧ w'.cell? ⟨w.heap.size + 1, 1, none⟩ = some (.slice A3 x3.length cap3))
        (first
          | go_keep
          | (refine ⟨?_, ?_, ?_, ?_⟩ <;> (rw [Below.cell hcB (by dsimp only; omega)]; assumption))
          | (refine ⟨?_, ?_, ?_, ?_⟩ <;> (rw [Below.cell hcA (by dsimp only; omega)]; assumption)))
        (first
          | (go_at_call_of 28 A0; refine (HCA.out _ ?_).mono ?_; (first | exact hTr.drew | exact below_to hTr hcB hTr.size); rintro e wA ⟨rfl, hA⟩; have hcA : Below wr.heap.size wr wA := (by first | exact below_to (Below.refl wr.heap.size wr).drew hA (by simp) | exact below_to hcB hA hcB.size))
          | (go_at_call_of 28 A2; refine (HCB.out _ ?_).mono ?_; (first | exact hTr.drew | exact below_to hTr hcA hTr.size); rintro e wB ⟨rfl, hB⟩; have hcB : Below wr.heap.size wr wB := (by first | exact below_to (Below.refl wr.heap.size wr).drew hB (by simp) | exact below_to hcA hB hcA.size))
          | (go_at_call 45; refine (absolute_any _ _).mono ?_; rintro e w' ⟨rfl, rfl⟩))
      all_goals
        clear hS hX
        rw [HQ.out]
        go_wp2_with fail
        go_roundw
        case rel => exact ⟨k + 1, Q, by omega, by go_num, rfl, hQ, by unfold Hid; rw [HE.out, ← HBig.out, HQ.out], Hb.out.trans (by first | exact hcB.mono Hb.out.size | exact hcA.mono Hb.out.size)⟩
        case measure => simp [intOf]; omega
    · have hke : k = zs.length := by omega
      have HK := Lib.hid hke
      have HT := Lib.hid (hT.trans (hb.mono hT.size))
      clear hke hb hT
      go_wp2
      go_ret2
      refine ⟨_, by rw [Hok.out] <;> rfl, ?_, by first | exact HT.out | exact below_drewN_ HT.out⟩
      have h := hs.out
      rw [HK.out, List.take_length, ← vbQ_eq HVB.out] at h
      unfold stepsV
      rw [Hok.out, if_pos rfl, h]
      exact abs_wd _ hM

set_option maxHeartbeats 3200000 in
set_option maxRecDepth 100000 in
theorem implApartShares_any (s0 : Value) (x0 : List Nat) (s1 : Value) (x1 : List Nat) (hn0 : x0.length ≤ 1099511627776) (hn1 : x1.length ≤ 1099511627776) (s2 : Value) (x2 : List Nat) (s3 : Value) (x3 : List Nat) (hn2 : x2.length ≤ 1099511627776) (hn3 : x3.length ≤ 1099511627776) (w : World) (hr0 : Rd fV w s0 x0) (hr1 : Rd fV w s1 x1) (hr2 : Rd fV w s2 x2) (hr3 : Rd fV w s3 x3) :
    Calls Tryz.prog 17 #[shV s0 s1, shV s2 s3] w (RetApartShares x0 x1 x2 x3 w) := by
  have HR0 := Lib.hid hr0
  obtain ⟨A0, cap0, rfl, hcap0, hA0⟩ := hr0
  have HA0 := Lib.hid hA0
  clear hA0
  have HR1 := Lib.hid hr1
  obtain ⟨A1, cap1, rfl, hcap1, hA1⟩ := hr1
  have HA1 := Lib.hid hA1
  clear hA1
  have HR2 := Lib.hid hr2
  obtain ⟨A2, cap2, rfl, hcap2, hA2⟩ := hr2
  have HA2 := Lib.hid hA2
  clear hA2
  have HR3 := Lib.hid hr3
  obtain ⟨A3, cap3, rfl, hcap3, hA3⟩ := hr3
  have HA3 := Lib.hid hA3
  clear hA3
  go_enter Tryz.func17, Tryz.ntmps17
  go_wp2_with fail
  have B0 : BoxAt ((w.alloc (.cells ([.slice A0 x0.length cap0, .slice A1 x1.length cap1] : List Value).toArray 26)).alloc (.cells ([.slice A2 x2.length cap2, .slice A3 x3.length cap3] : List Value).toArray 26)) w.heap.size [.slice A0 x0.length cap0, .slice A1 x1.length cap1] := (BoxAt.new w _ _).alloc _
  have B2 : BoxAt ((w.alloc (.cells ([.slice A0 x0.length cap0, .slice A1 x1.length cap1] : List Value).toArray 26)).alloc (.cells ([.slice A2 x2.length cap2, .slice A3 x3.length cap3] : List Value).toArray 26)) (w.heap.size + 1) [.slice A2 x2.length cap2, .slice A3 x3.length cap3] := by
    have := BoxAt.new (w.alloc (.cells ([.slice A0 x0.length cap0, .slice A1 x1.length cap1] : List Value).toArray 26)) [.slice A2 x2.length cap2, .slice A3 x3.length cap3] 26
    rwa [size_alloc] at this
  have hT : Below w.heap.size w ((w.alloc (.cells ([.slice A0 x0.length cap0, .slice A1 x1.length cap1] : List Value).toArray 26)).alloc (.cells ([.slice A2 x2.length cap2, .slice A3 x3.length cap3] : List Value).toArray 26)) := ((Below.refl _ _).alloc (Nat.le_refl _) _).alloc (by simp) _
  generalize hg : (w.alloc _).alloc _ = W0 at *
  clear hg
  refine (implValidShare_any _ x0 _ x1 hn0 hn1 _ (HR0.out.below hT) (HR1.out.below hT)).mono ?_
  rintro e w1 ⟨rfl, hb⟩
  replace B0 := B0.below hb
  replace B2 := B2.below hb
  replace hT := below_to hT hb hT.size
  clear hb
  cases hs0 : shareB x0 x1
  · have Ho := Lib.hid (apartOk_1 (x2 := x2) (x3 := x3) hs0)
    have HT := Lib.hid hT
    clear hs0 hT
    go_wp2
    go_ret2
    exact ⟨0, by rw [Ho.out] <;> rfl, by unfold apartV; rw [Ho.out]; exact abs_zero, HT.out⟩
  have hl0 := shareB_len hs0
  have Hs0 := Lib.hid hs0
  have HLEN0 := Lib.hid hl0.2
  have h640 : x0.length ≤ 64 := hl0.1.2
  have h10 : 1 ≤ x0.length := hl0.1.1
  have hp0 := shareB_parts hs0
  have HF0 := Lib.hid hp0.1
  have HI0 := Lib.hid hp0.2.1
  clear hs0 hl0 hp0
  have m0 := B2.cell 0 _ rfl
  have m1 := B2.cell 1 _ rfl
  have hlt2 := B2.lt
  go_wp2_with fail
  clear m0 m1 hlt2
  refine (implValidShare_any _ x2 _ x3 hn2 hn3 _ (HR2.out.below hT) (HR3.out.below hT)).mono ?_
  rintro e w2 ⟨rfl, hb⟩
  replace B0 := B0.below hb
  replace B2 := B2.below hb
  replace hT := below_to hT hb hT.size
  clear hb
  cases hs2 : shareB x2 x3
  · have Ho := Lib.hid (apartOk_2 (x0 := x0) (x1 := x1) hs2)
    have HT := Lib.hid hT
    clear hs2 hT
    go_wp2
    go_ret2
    exact ⟨0, by rw [Ho.out] <;> rfl, by unfold apartV; rw [Ho.out]; exact abs_zero, HT.out⟩
  have hl2 := shareB_len hs2
  have Hs2 := Lib.hid hs2
  have HLEN2 := Lib.hid hl2.2
  have h642 : x2.length ≤ 64 := hl2.1.2
  have h12 : 1 ≤ x2.length := hl2.1.1
  have hp2 := shareB_parts hs2
  have HF2 := Lib.hid hp2.1
  have HI2 := Lib.hid hp2.2.1
  have Hok := Lib.hid (apartOk_t Hs0.out hs2)
  clear hs2 hl2 hp2
  have p0 := B0.cell 0 _ rfl
  have p1 := B0.cell 1 _ rfl
  have q0 := B2.cell 0 _ rfl
  have q1 := B2.cell 1 _ rfl
  have hlt0 := B0.lt
  have hlt2 := B2.lt
  go_wp2_with fail
  refine (valuesOfBoth_any _ _ _ _ x0 x2 h10 h640 h12 h642 HF0.out HF2.out _ (HR0.out.below hT) (HR2.out.below hT)).mono ?_
  rintro e w3 ⟨vv, zs, rfl, hrz, hVB, hzl, hb⟩
  clear p0 p1 q0 q1 hlt0 hlt2
  replace B0 := B0.below hb
  replace B2 := B2.below hb
  replace hT := below_to hT hb hT.size
  clear hb
  obtain ⟨Az, capz, rfl, hcapz, hAz⟩ := hrz
  have HAz := Lib.hid hAz
  have HVB := Lib.hid hVB
  clear hAz hVB
  go_wp2_with fail
  go_loopw [6, 21] (fun sm si wr => ∃ (k M : Nat), k ≤ zs.length ∧ si = .int .i64 k ∧ sm = fV (wd false M) ∧ M ≤ infR ∧ Hid (apartL x0 x1 x2 x3 ((zs.take k).map val) = some (wd false M)) ∧ Below w3.heap.size w3 wr) (fun _ si _ => zs.length - (intOf si).toNat)
  case atStart => exact ⟨0, 0, Nat.zero_le _, rfl, rfl, Nat.zero_le _, rfl, Below.refl _ _⟩
  case round =>
    obtain ⟨k, M, hk, rfl, rfl, hM, hs, hb⟩ := hrel
    by_cases hlt : k < zs.length
    · obtain ⟨t, ht⟩ := get_of_lt hlt
      obtain ⟨adz, rfl, hblz, hcz⟩ := HAz.out k t ht
      have hft := HVB.out.fin t (List.mem_of_getElem? ht)
      obtain ⟨R, eR, nR⟩ := chanceQ_num Hs0.out (val t)
      obtain ⟨S, eS, nS⟩ := chanceQ_num Hs2.out (val t)
      obtain ⟨s, T, hTT, eT⟩ := sub_num nR nS
      have hTr : Below w.heap.size w wr := below_to hT hb hT.size
      have HCA : Hid (∀ W, Below w.heap.size w W → Calls Tryz.prog 46 #[shV (.slice A0 x0.length cap0) (.slice A1 x1.length cap1), fV t] W fun e w' => e = .returned (fV (R)) ∧ Below W.heap.size W w') := fun W hW =>
        chanceAt_at h640 HLEN0.out HF0.out hft eR W (HR0.out.below hW) (HR1.out.below hW)
      have HCB : Hid (∀ W, Below w.heap.size w W → Calls Tryz.prog 46 #[shV (.slice A2 x2.length cap2) (.slice A3 x3.length cap3), fV t] W fun e w' => e = .returned (fV (S)) ∧ Below W.heap.size W w') := fun W hW =>
        chanceAt_at h642 HLEN2.out HF2.out hft eS W (HR2.out.below hW) (HR3.out.below hW)
      have HSUB : Hid (∀ W, (binOp .sub 28 (.float .f32 (R)) (.float .f32 (S))).run Tryz.prog W = .ok (.float .f32 (wd s T)) W) := fun W => run_float_arith (P := Tryz.prog) W .sub 28 .f32 _ _ _ eT
      obtain ⟨Q, hQ, hQa, hQb⟩ := add_abs (s := s) hM hTT
      have HE : Hid (apartL x0 x1 x2 x3 ((zs.take (k + 1)).map val) = some (wd false Q)) := by
        unfold Hid
        rw [take_snoc ht, List.map_append, List.map_cons, List.map_nil, apartL_snoc, hs.out]
        unfold awayQ
        rw [eR, eS, eT, sizeO_wd s hTT]
        exact hQa
      have Hb := Lib.hid hb
      have B0r := B0.below hb
      have B2r := B2.below hb
      have ez : wr.cell? (adz.add k) = some (fV t) := by rw [hb.cell (by rw [add_block]; exact hblz)]; exact hcz
      have hk1 : (k : Int) < (zs.length : Int) := by omega
      have hk0 : (0 : Int) ≤ (k : Int) := by omega
      have p0 := B0r.cell 0 _ rfl
      have p1 := B0r.cell 1 _ rfl
      have q0 := B2r.cell 0 _ rfl
      have q1 := B2r.cell 1 _ rfl
      have hlt0 := B0r.lt
      have hlt2 := B2r.lt
      clear ht hcz hft eR eS eT hs hb B0r B2r
      have HMX : Hid (∀ W, (binOp .add 28 (.float .f32 (wd false M)) (.float .f32 (absB (wd s T)))).run Tryz.prog W = .ok (.float .f32 (wd false Q)) W) := fun W => run_float_arith (P := Tryz.prog) W .add 28 .f32 _ _ _ hQb
      clear hQa hQb
      go_upto_region 7 with fail
      have hS := HSUB.out
      have hX := HMX.out
      have hws := hTr.size
      go_region_held3 (fun w' => w'.cell? ⟨w.heap.size, 0, none⟩ = some (.slice A0 x0.length cap0) ∧ w'.cell? ⟨w.heap.size, 1, none⟩ = some (.slice A1 x1.length cap1) ∧ w'.cell? ⟨w.heap.size + 1, 0, none⟩ = some (.slice A2 x2.length cap2) ∧ w'.cell? ⟨w.heap.size + 1, 1, none⟩ = some (.slice A3 x3.length cap3))
        (first
          | go_keep
          | (refine ⟨?_, ?_, ?_, ?_⟩ <;> (rw [Below.cell hcB (by dsimp only; omega)]; assumption))
          | (refine ⟨?_, ?_, ?_, ?_⟩ <;> (rw [Below.cell hcA (by dsimp only; omega)]; assumption)))
        (first
          | (go_at_call_of 46 A0; refine (HCA.out _ ?_).mono ?_; (first | exact hTr.drew | exact below_to hTr hcB hTr.size); rintro e wA ⟨rfl, hA⟩; have hcA : Below wr.heap.size wr wA := (by first | exact below_to (Below.refl wr.heap.size wr).drew hA (by simp) | exact below_to hcB hA hcB.size))
          | (go_at_call_of 46 A2; refine (HCB.out _ ?_).mono ?_; (first | exact hTr.drew | exact below_to hTr hcA hTr.size); rintro e wB ⟨rfl, hB⟩; have hcB : Below wr.heap.size wr wB := (by first | exact below_to (Below.refl wr.heap.size wr).drew hB (by simp) | exact below_to hcA hB hcA.size))
          | (go_at_call 45; refine (absolute_any _ _).mono ?_; rintro e w' ⟨rfl, rfl⟩))
      all_goals
        clear hS hX
        go_wp2_with fail
        go_roundw
        case rel => exact ⟨k + 1, Q, by omega, by go_num, rfl, hQ, HE, Hb.out.trans (by first | exact hcB.mono Hb.out.size | exact hcA.mono Hb.out.size)⟩
        case measure => simp [intOf]; omega
    · have hke : k = zs.length := by omega
      have HK := Lib.hid hke
      have HT := Lib.hid (hT.trans (hb.mono hT.size))
      clear hke hb hT
      go_wp2
      go_ret2
      refine ⟨_, by rw [Hok.out] <;> rfl, ?_, by first | exact HT.out | exact below_drewN_ HT.out⟩
      have h := hs.out
      rw [HK.out, List.take_length, ← vbQ_eq HVB.out] at h
      unfold apartV
      rw [Hok.out, if_pos rfl, h, abs_flR .quo rfl, abs_wd _ hM, show absF .f32 1073741824 = some 1073741824 from abs_lit (by decide)]
      exact half_eq _
end

section
open Go.RowKit
attribute [local go_sem] run_fl_add run_fl_mul run_fl_quo

theorem quiet_ex {P : Program} {f : FuncId} {args : Array Value} {v : Value} {w : World} {n : Nat} (h : Calls P f args (w.drewN n) fun e w' => e = .returned v ∧ ∃ m, (w.drewN n).drewN m = w') :
    Calls P f args (w.drewN n) fun e w'' => e = .returned v ∧ ∃ m, w'' = w.drewN m :=
  h.mono fun e w' ⟨he, m, hm⟩ => ⟨he, n + m, by rw [← hm, World.drewN_drewN]⟩
end
end Go.Proofs.YtjajlddnhmbekaaGreat
