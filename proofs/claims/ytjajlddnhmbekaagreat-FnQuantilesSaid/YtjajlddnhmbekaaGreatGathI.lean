/-
  The walk of impl.gather.
-/
import Derived.Test.YtjajlddnhmbekaaGreatCmp
import Derived.Test.YtjajlddnhmbekaaGreatGathP
import Derived.Test.YtjajlddnhmbekaaGreatShRet
import Derived.Test.YtjajlddnhmbekaaGreatF32s
import Derived.Test.YtjajlddnhmbekaaGreatOrdT
import Derived.Deep.DeepCutAuto
namespace Go.Proofs.YtjajlddnhmbekaaGreat
open Go.RowKit
attribute [local go_sem] run_fl_add run_fl_sub run_fl_mul run_fl_quo run_up_ run_store_float

theorem absg {xs : List Nat} {i : Nat} {a : Option Nat} (h : (absL xs)[i]? = some a) : ∃ x, xs[i]? = some x ∧ absF .f32 x = a := by
  unfold absL at h
  rw [List.getElem?_map] at h
  cases hx : xs[i]? with
  | none => rw [hx] at h; cases h
  | some x => rw [hx] at h; exact ⟨x, rfl, by simpa using h⟩
/-- What a step of gathering loads. -/
structure SG (S b : Nat) (vv u0 u1 : Value) (pa : Addr) (x : Nat) (w : World) : Prop where
  s0 : w.cell? ⟨S, 0, none⟩ = some u0
  s1 : w.cell? ⟨S, 1, none⟩ = some u1
  sb : w.cell? ⟨b, 0, none⟩ = some vv
  sx : w.cell? pa = some (fV x)
theorem SG.below' {S b B : Nat} {vv u0 u1 : Value} {pa : Addr} {x : Nat} {w w' : World} (h : SG S b vv u0 u1 pa x w) (hb : Below B w w') (h1 : S < B) (h2 : b < B) (h3 : pa.block < B) : SG S b vv u0 u1 pa x w' :=
  ⟨(hb.cell (p := ⟨S, 0, none⟩) h1).trans h.s0, (hb.cell (p := ⟨S, 1, none⟩) h1).trans h.s1, (hb.cell (p := ⟨b, 0, none⟩) h2).trans h.sb, (hb.cell h3).trans h.sx⟩
theorem SG.below {S b : Nat} {vv u0 u1 : Value} {pa : Addr} {x : Nat} {w w' : World} (h : SG S b vv u0 u1 pa x w) (hb : Below w.heap.size w w') (h1 : S < w.heap.size) (h2 : b < w.heap.size) (h3 : pa.block < w.heap.size) : SG S b vv u0 u1 pa x w' := h.below' hb h1 h2 h3
/-- The order of places: by value, then by place. -/
def lxG (xs : List Nat) (i j : Int) : Bool := decide (val (atI xs i) < val (atI xs j) ∨ val (atI xs i) = val (atI xs j) ∧ i < j)
def cfG (xs : List Nat) (i j : Int) : Int := cmpF (atI xs i) (atI xs j)
theorem lxG_trans (xs : List Nat) (a b c : Int) (h : lxG xs a b = true) (k : lxG xs b c = true) : lxG xs a c = true := by
  unfold lxG at *
  rw [decide_eq_true_eq] at *
  rcases h with h | ⟨h, h'⟩ <;> rcases k with k | ⟨k, k'⟩
  · left; grind
  · left; grind
  · left; grind
  · right; exact ⟨h.trans k, by omega⟩
theorem atI_fin {xs : List Nat} (hf : xs.all finB = true) {i : Int} (_hi : 0 ≤ i) (hl : i.toNat < xs.length) : finB (atI xs i) = true := by
  obtain ⟨x, hx⟩ := get_of_lt hl
  unfold atI
  rw [hx]
  exact List.all_eq_true.1 hf x (List.mem_of_getElem? hx)
theorem numL_mem {n : Nat} {z : Int} (h : z ∈ numL n) : 0 ≤ z ∧ z.toNat < n := by
  unfold numL at h
  obtain ⟨i, hi, rfl⟩ := List.mem_map.1 h
  have := List.mem_range.1 hi
  omega
theorem tells_num {xs : List Nat} (hf : xs.all finB = true) : TellsAll (lxG xs) (cfG xs) (numL xs.length) := by
  unfold TellsAll numL
  rw [List.pairwise_map]
  have h := List.pairwise_lt_range (n := xs.length)
  refine List.Pairwise.imp_of_mem ?_ h
  intro i j hi hj hij
  have hi' := List.mem_range.1 hi
  have hj' := List.mem_range.1 hj
  have fi := atI_fin hf (i := (i : Int)) (by omega) (by simpa using hi')
  have fj := atI_fin hf (i := (j : Int)) (by omega) (by simpa using hj')
  have hn := cmpF_neg fj fi
  unfold lxG cfG
  constructor
  · rw [Bool.eq_iff_iff, decide_eq_true_eq, decide_eq_true_eq, hn]
    constructor
    · exact .inl
    · rintro (h | ⟨h, h'⟩)
      · exact h
      · omega
  · rw [Bool.eq_iff_iff, decide_eq_true_eq, Bool.not_eq_true', decide_eq_false_iff_not]
    constructor
    · rintro (h | ⟨h, h'⟩) (k | ⟨k, k'⟩)
      · grind
      · grind
      · grind
      · omega
    · intro k
      rcases key_cases (key := val) (atI xs i) (atI xs j) with e | e | e
      · exact .inl e
      · exact .inr ⟨e, by omega⟩
      · exact absurd (.inl e) k
/-- A sorted row of places as a list of Nats. -/
theorem order_nat {xs : List Nat} {R : List Int} (hp : R.Perm (numL xs.length)) (hu : Up (lxG xs) R) :
    (R.map Int.toNat).Perm (List.range xs.length) ∧ (R.map Int.toNat).Pairwise (fun i j => val (xs[i]?.getD 0) < val (xs[j]?.getD 0) ∨ val (xs[i]?.getD 0) = val (xs[j]?.getD 0) ∧ i < j) := by
  constructor
  · have h := hp.map Int.toNat
    have e : (numL xs.length).map Int.toNat = List.range xs.length := by
      unfold numL
      rw [List.map_map]
      refine (List.map_congr_left fun i _ => ?_).trans (List.map_id _)
      simp
    rwa [e] at h
  · rw [List.pairwise_map]
    refine List.Pairwise.imp_of_mem ?_ hu
    intro i j hi hj h
    have hi' := numL_mem (hp.mem_iff.1 hi)
    have hj' := numL_mem (hp.mem_iff.1 hj)
    unfold lxG at h
    rw [decide_eq_true_eq] at h
    rcases h with h | ⟨h, h'⟩
    · exact .inl h
    · exact .inr ⟨h, by omega⟩
/-- What has been gathered when k places of the sorted row are through. -/
def gTo (xs : List Nat) (C : List (Option Nat)) (R : List Int) (k : Nat) : List (Nat × Option Nat) := gAt xs C ((R.take k).map Int.toNat)
theorem gTo_zero (xs : List Nat) (C : List (Option Nat)) (R : List Int) : gTo xs C R 0 = [] := rfl
theorem gTo_succ {xs : List Nat} {C : List (Option Nat)} {R : List Int} {k : Nat} {i : Int} {x : Nat} {c : Option Nat} (hi : R[k]? = some i) (hx : xs[i.toNat]? = some x) (hc : C[i.toNat]? = some c) : gTo xs C R (k + 1) = gIn x c (gTo xs C R k) := by
  unfold gTo
  rw [take_snoc hi, List.map_append, List.map_cons, List.map_nil, gAt_snoc hx hc]
theorem gTo_end {xs : List Nat} {C : List (Option Nat)} {R : List Int} (hp : R.Perm (numL xs.length)) (hu : Up (lxG xs) R) : gTo xs C R xs.length = gatS xs C := by
  obtain ⟨h1, h2⟩ := order_nat hp hu
  unfold gTo
  rw [List.take_of_length_le (by rw [hp.length_eq, numL_len]; exact Nat.le_refl _)]
  exact gAt_sorted h1 h2
theorem gTo_len (xs : List Nat) (C : List (Option Nat)) (R : List Int) (k : Nat) : (gTo xs C R k).length ≤ k := by
  have h := gAt_len (xs := xs) (C := C) ((R.take k).map Int.toNat)
  unfold gTo
  rw [List.length_map, List.length_take] at h
  omega
/-- What has come is not above what comes next. -/
theorem gTo_le {xs : List Nat} {C : List (Option Nat)} {R : List Int} (hp : R.Perm (numL xs.length)) (hu : Up (lxG xs) R) {k : Nat} {i : Int} {x : Nat} (hi : R[k]? = some i) (hx : xs[i.toNat]? = some x) : ∀ p ∈ gTo xs C R k, val p.1 ≤ val x ∧ p.1 ∈ xs := by
  intro p h
  obtain ⟨j, hj, e⟩ := gAt_mem h
  obtain ⟨j', hj', rfl⟩ := List.mem_map.1 hj
  obtain ⟨t, ht, htj⟩ := mem_take_get hj'
  have hl := up_get hu htj hi ht
  have hm := numL_mem (hp.mem_iff.1 (List.mem_of_getElem? htj))
  obtain ⟨y, hy⟩ := get_of_lt hm.2
  rw [hy] at e
  simp at e
  unfold lxG atI at hl
  rw [decide_eq_true_eq, hy, hx] at hl
  simp only [Option.getD_some] at hl
  rw [← e]
  refine ⟨?_, List.mem_of_getElem? hy⟩
  rcases hl with h | ⟨h, _⟩
  · exact Rat.le_of_lt h
  · rw [h]; exact Rat.le_refl
/-- The three ways of a step. -/
theorem gTo_way {xs : List Nat} {C : List (Option Nat)} {R : List Int} (hp : R.Perm (numL xs.length)) (hu : Up (lxG xs) R) (hf : xs.all finB = true) {k : Nat} {i : Int} {x : Nat} {c : Option Nat} (hi : R[k]? = some i) (hx : xs[i.toNat]? = some x) (hc : C[i.toNat]? = some c) :
    (gTo xs C R k = [] ∧ gTo xs C R (k + 1) = gTo xs C R k ++ [(x, addA (some 0) c)]) ∨
    (∃ t v d, gTo xs C R k = t ++ [(v, d)] ∧ finB v = true ∧ finB x = true ∧ (FloatKind.f32.format.order v x == some .eq) = false ∧ gTo xs C R (k + 1) = gTo xs C R k ++ [(x, addA (some 0) c)]) ∨
    (∃ t v d, gTo xs C R k = t ++ [(v, d)] ∧ finB v = true ∧ finB x = true ∧ (FloatKind.f32.format.order v x == some .eq) = true ∧ gTo xs C R (k + 1) = t ++ [(v, addA d c)]) := by
  have hle := gTo_le (C := C) hp hu hi hx
  have hup := gAt_up (xs := xs) (C := C) ((R.take k).map Int.toNat)
  have hs := gTo_succ (k := k) hi hx hc
  have fx := List.all_eq_true.1 hf x (List.mem_of_getElem? hx)
  rcases Nat.eq_zero_or_pos (gTo xs C R k).length with h0 | h0
  · have e := List.eq_nil_of_length_eq_zero h0
    left
    refine ⟨e, ?_⟩
    rw [hs, e]
    exact gIn_new (fun p h => by cases h)
  · right
    obtain ⟨t, p, e⟩ : ∃ t p, gTo xs C R k = t ++ [p] := ⟨_, _, (List.dropLast_concat_getLast (List.ne_nil_of_length_pos h0)).symm⟩
    obtain ⟨v, d⟩ := p
    have hv := hle (v, d) (by rw [e]; simp)
    have fv := List.all_eq_true.1 hf v hv.2
    have hup' : KUp val (t ++ [(v, d)]) := by rw [← e]; exact hup
    by_cases hq : val v = val x
    · right
      refine ⟨t, v, d, e, fv, fx, by rw [beq_iff_eq]; exact (eq_val fv fx).2 hq, ?_⟩
      rw [hs, e]
      exact gIn_old hup' hq
    · left
      have hlt : val v < val x := by have := hv.1; grind
      refine ⟨t, v, d, e, fv, fx, ?_, ?_⟩
      · rw [Bool.eq_false_iff]
        intro h
        rw [beq_iff_eq] at h
        exact hq ((eq_val fv fx).1 h)
      · rw [hs, e]
        exact gIn_new (all_lt_last hup' hlt)
theorem enter_gather1 (args : Array Value) (w : World) : (callFunc 58 args).run Tryz.prog w = .ok (.enter 58 args) w :=
  enter_of Tryz.func58 (by kernel_rfl) (by kernel_rfl) args w
theorem Touch.low {lo hi B : Nat} {w0 w w' : World} (h : Below B w0 w) (t : Touch lo hi w w') (h1 : B ≤ lo) (h2 : B ≤ w.heap.size) : Below B w0 w' := h.trans (t.below h1 h2)

set_option maxHeartbeats 6400000 in
set_option maxRecDepth 100000 in
theorem implGather_any (v c : Value) (xs ys : List Nat) (hn1 : 1 ≤ xs.length) (hn : xs.length ≤ 65536) (hl : ys.length = xs.length) (w : World) (hr : Rd fV w v xs) (hs : Rd fV w c ys) :
    Calls Tryz.prog 31 #[v, c] w (RetGather xs (absL ys) w) := by
  have HR := Lib.hid hr
  have HS := Lib.hid hs
  have HL := Lib.hid hl
  obtain ⟨A0, cap0, rfl, hcap0, hA0⟩ := hr
  have HA0 := Lib.hid hA0
  obtain ⟨A1, cap1, rfl, hcap1, hA1⟩ := hs
  have HA1 := Lib.hid hA1
  clear hA0 hA1 hl
  go_enter Tryz.func31, Tryz.ntmps31
  go_wp2_with fail
  have B0 : BoxAt ((w.alloc (.cells ([.slice A0 xs.length cap0] : List Value).toArray 24)).alloc (.cells ([.slice none 0 0, .slice none 0 0] : List Value).toArray 26)) w.heap.size [.slice A0 xs.length cap0] := (BoxAt.new w _ _).alloc _
  have B1 : BoxAt ((w.alloc (.cells ([.slice A0 xs.length cap0] : List Value).toArray 24)).alloc (.cells ([.slice none 0 0, .slice none 0 0] : List Value).toArray 26)) (w.heap.size + 1) [.slice none 0 0, .slice none 0 0] := by
    have := BoxAt.new (w.alloc (.cells ([.slice A0 xs.length cap0] : List Value).toArray 24)) [.slice none 0 0, .slice none 0 0] 26
    rwa [size_alloc] at this
  have hT : Below w.heap.size w ((w.alloc (.cells ([.slice A0 xs.length cap0] : List Value).toArray 24)).alloc (.cells ([.slice none 0 0, .slice none 0 0] : List Value).toArray 26)) := ((Below.refl _ _).alloc (Nat.le_refl _) _).alloc (by simp) _
  generalize hg : (w.alloc _).alloc _ = W0 at *
  clear hg
  refine (areFinite_any _ xs (by omega) _ (HR.out.below hT)).mono ?_
  rintro e w1 ⟨rfl, hd⟩
  have hb := below_of_drew hd
  clear hd
  replace B0 := B0.below hb
  replace B1 := B1.below hb
  replace hT := below_to hT hb hT.size
  clear hb
  cases hf : xs.all finB
  · have HF := Lib.hid (gatOk_f (C := absL ys) hf)
    have Hf := Lib.hid hf
    clear hf
    have d0 := B1.cell 0 _ rfl
    have d1 := B1.cell 1 _ rfl
    have f0 := B1.free 0
    have f1 := B1.free 1
    have HT := Lib.hid hT
    clear hT B0 B1
    go_wp2
    refine bodyPost_ret (v := .tuple #[shV (.slice none 0 0) (.slice none 0 0), .bool false]) (by simp [results, Tryz.results31, go_sem, *]) rfl ?_
    unfold RetGather
    rw [HF.out]
    exact RetSh.none ((HT.out.setCell (by simp) _).setCell (by simp) _)
  have Hf := Lib.hid hf
  clear hf
  have c0 := B0.cell 0 _ rfl
  have HT := Lib.hid hT
  have HB0 := Lib.hid B0
  have HB1 := Lib.hid B1
  clear hT B0 B1
  go_wp2_with (go_at_call 56; refine (numbersFrom_any xs.length (by omega) _ rfl _).mono ?_; rintro e w2 ⟨v2, rfl, hO, hb⟩)
  obtain ⟨g, cg, e2, hcg, hg1, hg2⟩ := hO.form (by rw [numL_len]; omega)
  rw [numL_len] at e2
  subst e2
  have hsz1 := HB1.out.lt
  have hsz2 := hb.size
  have hrow : RowI w2 g xs.length cg (numL xs.length) := by
    have h := own_base (base' := 0) hO (Nat.zero_le _)
    rw [numL_len] at h
    exact h
  have hT2 : Below w.heap.size w w2 := below_to HT.out hb (by omega)
  have B02 := HB0.out.below hb
  have B12 := HB1.out.below hb
  have hcmp : CmpOk 58 #[.pointer (some ⟨w.heap.size, 0, none⟩)] (cfG xs) (numL xs.length) g w2 := by
    intro w' x y ht hx hy m
    have hc' : (w'.drewN m).cell? ⟨w.heap.size, 0, none⟩ = some (.slice A0 xs.length cap0) := (B02.touch ht (by omega)).cell 0 _ rfl
    have hr' : Rd fV (w'.drewN m) (.slice A0 xs.length cap0) xs := (HR.out.below (Touch.low hT2 ht (by omega) (by omega))).drewN m
    have h := gather1_any w.heap.size _ xs x y (numL_mem hx) (numL_mem hy) (by omega) Hf.out (w'.drewN m) hc' hr'
    exact h.mono fun e w'' ⟨h1, q, h2⟩ => ⟨h1, m + q, by rw [h2, World.drewN_drewN]⟩
  refine (sortStable_any (lxG xs) (lxG_trans xs) (cfG xs) 58 _ (numL xs.length) g xs.length cg enter_gather1 (by omega) (tells_num Hf.out) w2 hcmp hrow).mono ?_
  rintro e w3 ⟨R, rfl, hU, hP, hrow3, ht3⟩
  have hT3 : Below w.heap.size w w3 := Touch.low hT2 ht3 (by omega) (by omega)
  have B03 := B02.touch ht3 (by omega)
  have B13 := B12.touch ht3 (by omega)
  have hg3 := hrow3.lt
  have HP := Lib.hid hP
  have HU := Lib.hid hU
  clear hP hU hrow hcmp B02 B12 hO hT2 ht3 hcg hb c0 HB0 HB1 HT
  have G0 : Grow (w3.alloc (.cells #[.slice none 0 0, .slice none 0 0] 26)) (w3.heap.size + 1) w3.heap.size (.slice none 0 0) (.slice none 0 0) [] [] :=
    ⟨BoxAt.new w3 [.slice none 0 0, .slice none 0 0] 26, Own.nil, Own.nil, by simp [Value.ownBlock], by simp [Value.ownBlock], .inl rfl⟩
  have hrow4 : RowI (w3.alloc (.cells #[.slice none 0 0, .slice none 0 0] 26)) g xs.length cg R := own_below hrow3 (below_alloc _ _)
  have hz3 := size_alloc w3 (.cells #[.slice none 0 0, .slice none 0 0] 26)
  have hT4 := hT3.alloc hT3.size (.cells #[.slice none 0 0, .slice none 0 0] 26)
  replace B03 := B03.alloc (.cells #[.slice none 0 0, .slice none 0 0] 26)
  replace B13 := B13.alloc (.cells #[.slice none 0 0, .slice none 0 0] 26)
  clear hrow3 hT3
  go_wp2
  obtain ⟨S, hS⟩ : ∃ S, S = w3.heap.size := ⟨_, rfl⟩
  obtain ⟨W3, hW3⟩ : ∃ W3, W3 = w3.alloc (.cells #[.slice none 0 0, .slice none 0 0] 26) := ⟨_, rfl⟩
  rw [← hW3] at G0 B03 B13 hT4 hz3 hrow4 ⊢
  rw [← hS] at G0 hz3 hg3 ⊢
  have hSw : w.heap.size + 1 < S := by omega
  clear hS hW3 hsz1 hsz2 hg1 hg2
  have hgb : w.heap.size + 1 < S := hSw
  go_loopw [25] (fun si wr => ∃ (k : Nat) (v0 v1 : Value) (V Y : List Nat), k ≤ xs.length ∧ si = .int .i64 k ∧ Grow wr (S + 1) S v0 v1 V Y ∧ Hid (V = (gTo xs (absL ys) R k).map Prod.fst ∧ absL Y = (gTo xs (absL ys) R k).map Prod.snd) ∧ Below S W3 wr) (fun si _ => xs.length - (intOf si).toNat)
  case atStart => exact ⟨0, _, _, [], [], by omega, rfl, G0, ⟨rfl, rfl⟩, Below.refl _ _⟩
  case round =>
    obtain ⟨k, v0, v1, V, Y, hk, rfl, hG, hVY, hb⟩ := hrel
    clear G0
    have hB0 := B03.below' hb (by omega) (by omega)
    have hB1 := B13.below' hb (by omega) (by omega)
    have hT : Below w.heap.size w wr := hT4.trans (hb.mono (by omega))
    have hsz := hb.size
    by_cases hlt : k < xs.length
    · obtain ⟨i, hi⟩ := get_of_lt (xs := R) (k := k) (by rw [HP.out.length_eq, numL_len]; exact hlt)
      have hm := numL_mem (HP.out.mem_iff.1 (List.mem_of_getElem? hi))
      obtain ⟨j, rfl⟩ : ∃ j : Nat, i = j := ⟨i.toNat, by omega⟩
      simp only [Int.toNat_natCast] at hm
      obtain ⟨x, hx⟩ := get_of_lt hm.2
      obtain ⟨y, hy⟩ := get_of_lt (xs := ys) (k := j) (by rw [HL.out]; exact hm.2)
      obtain ⟨ad0, rfl, hbl0, hcell0⟩ := HA0.out j x hx
      obtain ⟨ad1, rfl, hbl1, hcell1⟩ := HA1.out j y hy
      have hway := gTo_way (C := absL ys) HP.out HU.out Hf.out hi (x := x) (c := absF .f32 y) hx (by simp [absL, hy])
      have hjn := hm.2
      have hgl := gTo_len xs (absL ys) R k
      have hVl : V.length ≤ k := by rw [hVY.out.1, List.length_map]; exact hgl
      have hYl : Y.length = V.length := by rw [hVY.out.1, List.length_map, ← List.length_map (f := Prod.snd), ← hVY.out.2]; simp [absL]
      have HYL := Lib.hid hYl
      have e0 : wr.cell? (ad0.add j) = some (fV x) := by rw [hT.cell (by rw [add_block]; exact hbl0)]; exact hcell0
      have er : wr.cell? ⟨g, k, none⟩ = some (jV j) := (hb.cell (p := ⟨g, k, none⟩) hg3).trans (hrow4.at hi)
      have HC1 := Lib.hid hcell1
      have HC0 := Lib.hid hcell0
      have HW := Lib.hid hway
      clear hi hm hx hy hcell0 hcell1 hway hgl hYl
      have hk0 : (0 : Int) ≤ (k : Int) := by omega
      have hk1 : (k : Int) < (xs.length : Int) := by omega
      have hj0 : (0 : Int) ≤ (j : Int) := by omega
      have hj1 : (j : Int) < (xs.length : Int) := by omega
      have hj2 : (j : Int) < (ys.length : Int) := by rw [HL.out]; omega
      obtain ⟨E0, ca0, rfl, -, -⟩ := hG.o0.rd
      have d0 := hG.box.cell 0 _ rfl
      have c0 := hB0.cell 0 _ rfl
      have hGH := Lib.hid hG
      clear hG
      go_upto_region 10 with fail
      go_cut [46] (fun s46 wx => (∃ q : Bool, s46 = .bool q ∧ (q = true → gTo xs (absL ys) R (k + 1) = gTo xs (absL ys) R k ++ [(x, addA (some 0) (absF .f32 y))]) ∧ (q = false → ∃ t v d, gTo xs (absL ys) R k = t ++ [(v, d)] ∧ gTo xs (absL ys) R (k + 1) = t ++ [(v, addA d (absF .f32 y))])) ∧ ∃ m, wx = wr.drewN m)
      case first =>
        rcases HW.out with ⟨h1, h2⟩ | ⟨t, v, d, h1, h3, h4, h5, h2⟩ | ⟨t, v, d, h1, h3, h4, h5, h2⟩
        · have hV0 : V.length = 0 := by rw [hVY.out.1, h1]; rfl
          have hd : decide ((V.length : Int) - 1 < 0) = true := decide_eq_true (by omega)
          have hd' : (V.length : Int) - 1 < 0 := by omega
          have H2 := Lib.hid h2
          clear h1 h2 hV0
          go_wp2_with fail
          go_quiet (fail)
          go_wp2_with fail
          go_meet
          case rel => exact ⟨⟨true, rfl, fun _ => H2.out, fun h => by cases h⟩, _, rfl⟩
        · obtain ⟨L, hL⟩ : ∃ L, L = t.length := ⟨_, rfl⟩
          have hVn : V.length = L + 1 := by rw [hVY.out.1, h1]; simp; omega
          have hvL : V[L]? = some v := by rw [hVY.out.1, h1, hL]; simp
          have hl1 : ((V.length : Int) - 1).toNat = V.length - 1 := by omega
          have hl2 : (0 : Int) ≤ (V.length : Int) - 1 := by omega
          have hl3 : decide ((V.length : Int) - 1 < 0) = false := decide_eq_false (by omega)
          have hl4 : (V.length : Int) - 1 < (V.length : Int) := by omega
          have hl5 : ¬ (V.length : Int) - 1 < 0 := by omega
          have hq : (FloatKind.f32.format.order v x != some .eq) = true := by simpa [bne] using h5
          obtain ⟨g0, k0, e0', _, _, _⟩ := hGH.out.o0.form (by omega)
          cases e0'
          have cv := hGH.out.at0 (j := V.length - 1) (x := v) (by rw [hVn]; exact hvL)
          have HLL : Hid (V.length = L + 1) := hVn
          have hLn : (L : Int) < (V.length : Int) := by omega
          have H2 := Lib.hid h2
          clear h1 h2 h3 h4 h5 hVn hvL hL
          go_wp2_with fail
          go_quiet (fail)
          go_wp2_with fail
          go_meet
          case rel => exact ⟨⟨true, by first | rfl | simp_all, fun _ => H2.out, fun h => by cases h⟩, _, rfl⟩
        · obtain ⟨L, hL⟩ : ∃ L, L = t.length := ⟨_, rfl⟩
          have hVn : V.length = L + 1 := by rw [hVY.out.1, h1]; simp; omega
          have hvL : V[L]? = some v := by rw [hVY.out.1, h1, hL]; simp
          have hl1 : ((V.length : Int) - 1).toNat = V.length - 1 := by omega
          have hl2 : (0 : Int) ≤ (V.length : Int) - 1 := by omega
          have hl3 : decide ((V.length : Int) - 1 < 0) = false := decide_eq_false (by omega)
          have hl4 : (V.length : Int) - 1 < (V.length : Int) := by omega
          have hl5 : ¬ (V.length : Int) - 1 < 0 := by omega
          have hq : (FloatKind.f32.format.order v x != some .eq) = false := by simpa [bne] using h5
          obtain ⟨g0, k0, e0', _, _, _⟩ := hGH.out.o0.form (by omega)
          cases e0'
          have cv := hGH.out.at0 (j := V.length - 1) (x := v) (by rw [hVn]; exact hvL)
          have HLL : Hid (V.length = L + 1) := hVn
          have hLn : (L : Int) < (V.length : Int) := by omega
          have H2 := Lib.hid (show ∃ t v d, gTo xs (absL ys) R k = t ++ [(v, d)] ∧ gTo xs (absL ys) R (k + 1) = t ++ [(v, addA d (absF .f32 y))] from ⟨t, v, d, h1, h2⟩)
          clear h1 h2 h3 h4 h5 hVn hvL hL
          go_wp2_with fail
          go_quiet (fail)
          go_wp2_with fail
          go_meet
          case rel => exact ⟨⟨false, by first | rfl | simp_all, fun h => (by cases h), fun _ => H2.out⟩, _, rfl⟩
      case rest =>
        obtain ⟨⟨q, rfl, hq1, hq2⟩, m, hwm⟩ := hcut
        have hGb := hGH.out.drewN m
        rw [← hwm] at hGb
        have hBb : Below S W3 wc := by rw [hwm]; exact below_drewN_ hb
        clear hwm d0 c0 e0 er hB0 hB1 hT hsz
        obtain ⟨wb, hwb⟩ : ∃ wb, wb = wc := ⟨_, rfl⟩
        rw [← hwb] at hGb hBb ⊢
        clear hwb hGH hb
        have hsz := hBb.size
        have hT : Below w.heap.size w wb := hT4.trans (hBb.mono (by omega))
        have hB0 := B03.below' hBb (by omega) (by omega)
        have e0 : wb.cell? (ad0.add j) = some (fV x) := by rw [hT.cell (by rw [add_block]; exact hbl0)]; exact HC0.out
        have HQ1 := Lib.hid hq1
        have HQ2 := Lib.hid hq2
        clear hq1 hq2
        go_upto_if 46 with fail
        go_cut [10] (fun s10 wx => ∃ (L : Nat) (u0 u1 : Value) (V' Y' : List Nat) (y0 : Nat), s10 = .int .i64 L ∧ Y'[L]? = some y0 ∧ Hid (V' = (gTo xs (absL ys) R (k + 1)).map Prod.fst ∧ (absL Y').set L (addA (absF .f32 y0) (absF .f32 y)) = (gTo xs (absL ys) R (k + 1)).map Prod.snd) ∧ Grow wx (S + 1) S u0 u1 V' Y' ∧ Below S W3 wx)
        case first =>
          cases q
          · obtain ⟨t, v, d, h1, h2⟩ := HQ2.out (by first | trivial | rfl)
            have hV : V.length = t.length + 1 := by rw [hVY.out.1, h1]; simp
            have hYd : (absL Y)[t.length]? = some d := by rw [hVY.out.2, h1]; simp
            obtain ⟨y0, hy0, hd⟩ := absg hYd
            have hA : Hid (V = (gTo xs (absL ys) R (k + 1)).map Prod.fst ∧ (absL Y).set t.length (addA (absF .f32 y0) (absF .f32 y)) = (gTo xs (absL ys) R (k + 1)).map Prod.snd) := by
              refine ⟨?_, ?_⟩
              · rw [h2, hVY.out.1, h1]; simp
              · rw [hVY.out.2, h1, h2, hd]; simp
            have hVz : Value.int .i64 ((V.length : Int) - 1) = .int .i64 ((t.length : Nat) : Int) := by congr 1; omega
            have HVZ := Lib.hid hVz
            have HY0 := Lib.hid hy0
            clear h1 h2 hV hYd hd hVz hy0
            go_wp2_with fail
            go_meet
            case rel => exact ⟨t.length, _, _, V, Y, y0, HVZ.out, HY0.out, hA, hGb, hBb⟩
          · have hGH := Lib.hid hGb
            have O0 := hGb.o0
            have O1 := hGb.o1
            obtain ⟨E1, ca1, rfl, -, -⟩ := O1.rd
            have d0 := hGb.box.cell 0 _ rfl
            have d1 := hGb.box.cell 1 _ rfl
            have f0 := hGb.box.free 0
            have f1 := hGb.box.free 1
            have c0 := hB0.cell 0 _ rfl
            have hSb := hGb.box.lt
            have hwb : w.heap.size < wb.heap.size := by omega
            have hadb : (ad0.add j).block < w.heap.size := by rw [add_block]; exact hbl0
            have hVl2 : Y.length ≤ k := by rw [HYL.out]; exact hVl
            clear hGb
            go_wp2_with fail
            refine wp_region_T (SG S w.heap.size (.slice (some ad0) xs.length cap0) (.slice E0 V.length ca0) (.slice E1 Y.length ca1) (ad0.add j) x) [13, 15] (by kernel_rfl) (⟨d0, d1, c0, e0⟩) (fun hS1 => ?_)
            simp only [List.size_toArray, List.length_cons, List.length_nil, Nat.reduceAdd]
            refine wpAnyT_takeY (i := 0) (v := ?_) rfl (by kernel_rfl) (by kernel_rfl) (by kernel_rfl) (fun _ _ _ h => h) (Or.inl ⟨by rfl, ?_⟩) ?_
            rotate_left
            · intro wq; first | (go_simp; done) | (go_simp; with_reducible rfl)
            repeat (first | simp only [Act.put] | simp only [List.setIfInBounds_toArray] | simp only [List.set_cons_succ] | simp only [List.set_cons_zero])
            refine wpAnyT_take (i := 1) (v := (.slice E0 V.length ca0)) rfl (by kernel_rfl) (by kernel_rfl) (by kernel_rfl) (by kernel_rfl) (by kernel_rfl) (fun _ _ _ h => h) (Or.inl ⟨by rfl, ?_⟩) hS1 ?_
            · intro wq hq; have q0 := hq.s0; have q1 := hq.s1; have q2 := hq.sb; have q3 := hq.sx; clear hq; go_simp
            repeat (first | simp only [Act.put] | simp only [List.setIfInBounds_toArray] | simp only [List.set_cons_succ] | simp only [List.set_cons_zero])
            refine wpAnyT_take (i := 2) (v := (.slice (some ad0) xs.length cap0)) rfl (by kernel_rfl) (by kernel_rfl) (by kernel_rfl) (by kernel_rfl) (by kernel_rfl) (fun _ _ _ h => h) (Or.inl ⟨by rfl, ?_⟩) hS1 ?_
            · intro wq hq; have q0 := hq.s0; have q1 := hq.s1; have q2 := hq.sb; have q3 := hq.sx; clear hq; go_simp
            repeat (first | simp only [Act.put] | simp only [List.setIfInBounds_toArray] | simp only [List.set_cons_succ] | simp only [List.set_cons_zero])
            refine wpAnyT_takeY (i := 3) (v := ?_) rfl (by kernel_rfl) (by kernel_rfl) (by kernel_rfl) (fun _ _ _ h => h) (Or.inl ⟨by rfl, ?_⟩) ?_
            rotate_left
            · intro wq; first | (go_simp; done) | (go_simp; with_reducible rfl)
            repeat (first | simp only [Act.put] | simp only [List.setIfInBounds_toArray] | simp only [List.set_cons_succ] | simp only [List.set_cons_zero])
            refine wpAnyT_takeY (i := 4) (v := ?_) rfl (by kernel_rfl) (by kernel_rfl) (by kernel_rfl) (fun _ _ _ h => h) (Or.inl ⟨by rfl, ?_⟩) ?_
            rotate_left
            · intro wq; first | (go_simp; done) | (go_simp; with_reducible rfl)
            repeat (first | simp only [Act.put] | simp only [List.setIfInBounds_toArray] | simp only [List.set_cons_succ] | simp only [List.set_cons_zero])
            refine wpAnyT_take (i := 5) (v := (fV x)) rfl (by kernel_rfl) (by kernel_rfl) (by kernel_rfl) (by kernel_rfl) (by kernel_rfl) (fun _ _ _ h => h) (Or.inl ⟨by rfl, ?_⟩) hS1 ?_
            · intro wq hq; have q0 := hq.s0; have q1 := hq.s1; have q2 := hq.sb; have q3 := hq.sx; clear hq; go_simp
            repeat (first | simp only [Act.put] | simp only [List.setIfInBounds_toArray] | simp only [List.set_cons_succ] | simp only [List.set_cons_zero])
            refine wpAnyT_takeY (i := 8) (v := ?_) rfl (by kernel_rfl) (by kernel_rfl) (by kernel_rfl) (fun _ _ _ h => h) (Or.inl ⟨by rfl, ?_⟩) ?_
            rotate_left
            · intro wq; first | (go_simp; done) | (go_simp; with_reducible rfl)
            repeat (first | simp only [Act.put] | simp only [List.setIfInBounds_toArray] | simp only [List.set_cons_succ] | simp only [List.set_cons_zero])
            refine wpAnyT_take (i := 9) (v := (.slice E1 Y.length ca1)) rfl (by kernel_rfl) (by kernel_rfl) (by kernel_rfl) (by kernel_rfl) (by kernel_rfl) (fun _ _ _ h => h) (Or.inl ⟨by rfl, ?_⟩) hS1 ?_
            · intro wq hq; have q0 := hq.s0; have q1 := hq.s1; have q2 := hq.sb; have q3 := hq.sx; clear hq; go_simp
            repeat (first | simp only [Act.put] | simp only [List.setIfInBounds_toArray] | simp only [List.set_cons_succ] | simp only [List.set_cons_zero])
            have GW := hGH.out.below (Below.refl wb.heap.size wb).drew
            have BW : Below (S + 1) wb wb.drew := (Below.refl _ _).drew
            have zb : wb.heap.size ≤ wb.drew.heap.size := Nat.le_refl _
            have hz1 : S + 1 ≤ wb.heap.size := hSb
            clear hS1
            generalize wb.drew = wd at GW BW zb ⊢
            refine wpAnyT_ready (rs := [6, 10]) (by kernel_rfl) (by simp) ?_
            refine AllT.cons rfl (fun K hK => ?_) ?_
            · skip
              go_simp
              refine hK.out _ _ (fun h _ => h.below (below_alloc wd _) (by omega) (by omega) (by omega)) ?_
              clear hK K
              repeat (first | simp only [Act.put] | simp only [List.setIfInBounds_toArray] | simp only [List.set_cons_succ] | simp only [List.set_cons_zero])
              have LA := own_one wd (S + 1) x (by omega)
              obtain ⟨lA, hlA⟩ : ∃ l, l = wd.heap.size := ⟨_, rfl⟩
              rw [← hlA] at LA ⊢
              have qA : wb.heap.size ≤ lA := by omega
              replace GW := GW.alloc (.cells #[fV x] 28)
              replace BW := BW.alloc (by omega) (.cells #[fV x] 28)
              replace zb : wb.heap.size ≤ (wd.alloc (.cells #[fV x] 28)).heap.size := by rw [size_alloc]; omega
              clear hlA
              generalize wd.alloc (.cells #[fV x] 28) = wd1 at *
              refine wpAnyT_ready (rs := [7, 10]) (by kernel_rfl) (by simp) ?_
              refine AllT.cons rfl (fun K hK => ?_) ?_
              · skip
                refine elF_.app_step (f := fV) (fun _ => rfl) _ (by rfl) _ _ (by rfl) (S + 1) (.slice E0 V.length ca0) V (by rfl) GW.o0 _ [x] (by rfl) LA.rd (by omega) (by simp; omega) (by omega) ?_
                intro v' wd2 ho hg hbb hp
                obtain ⟨g', c', rfl, -, -, -⟩ := ho.form (by simp)
                refine hK.out _ _ (fun h _ => h.below' hbb (by omega) (by omega) (by omega)) ?_
                clear hK K
                repeat (first | simp only [Act.put] | simp only [List.setIfInBounds_toArray] | simp only [List.set_cons_succ] | simp only [List.set_cons_zero])
                refine wpAnyT_takeY (i := 12) (v := ?_) rfl (by kernel_rfl) (by kernel_rfl) (by kernel_rfl) (fun _ _ _ h => h) (Or.inl ⟨by rfl, ?_⟩) ?_
                rotate_left
                · intro wq; first | (go_simp; done) | (go_simp; with_reducible rfl)
                repeat (first | simp only [Act.put] | simp only [List.setIfInBounds_toArray] | simp only [List.set_cons_succ] | simp only [List.set_cons_zero])
                have OO := GW.o1.kept hg (apart_symm GW.ap)
                replace BW := BW.trans hbb
                replace zb : wb.heap.size ≤ wd2.heap.size := Nat.le_trans zb hg.size
                have hmid := Below.refl wd2.heap.size wd2
                clear hbb
                refine wpAnyT_ready (rs := [10]) (by kernel_rfl) (by simp) ?_
                refine AllT.cons rfl (fun K hK => ?_) ?_
                · skip
                  go_simp
                  refine hK.out _ _ (fun h _ => h.below (below_alloc wd2 _) (by omega) (by omega) (by omega)) ?_
                  clear hK K
                  repeat (first | simp only [Act.put] | simp only [List.setIfInBounds_toArray] | simp only [List.set_cons_succ] | simp only [List.set_cons_zero])
                  have LB := own_one wd2 (S + 1) 0 (by omega)
                  obtain ⟨lB, hlB⟩ : ∃ l, l = wd2.heap.size := ⟨_, rfl⟩
                  rw [← hlB] at LB ⊢
                  have qB : wb.heap.size ≤ lB := by omega
                  replace LA := LA.alloc (.cells #[fV 0] 28)
                  replace OO := OO.alloc (.cells #[fV 0] 28)
                  replace hmid := hmid.alloc hmid.size (.cells #[fV 0] 28)
                  replace BW := BW.alloc (by omega) (.cells #[fV 0] 28)
                  replace zb : wb.heap.size ≤ (wd2.alloc (.cells #[fV 0] 28)).heap.size := by rw [size_alloc]; omega
                  clear hlB
                  generalize wd2.alloc (.cells #[fV 0] 28) = wd3 at *
                  refine wpAnyT_ready (rs := [11]) (by kernel_rfl) (by simp) ?_
                  refine AllT.cons rfl (fun K hK => ?_) ?_
                  · skip
                    refine elF_.app_step (f := fV) (fun _ => rfl) _ (by rfl) _ _ (by rfl) (S + 1) (.slice E1 Y.length ca1) Y (by rfl) OO _ [0] (by rfl) LB.rd (by omega) (by simp; omega) (by omega) ?_
                    intro v'' wd4 ho2 hg2 hbb2 hp2
                    obtain ⟨g'', c'', rfl, -, -, -⟩ := ho2.form (by simp)
                    refine hK.out _ _ (fun h _ => h.below' hbb2 (by omega) (by omega) (by omega)) ?_
                    clear hK K
                    repeat (first | simp only [Act.put] | simp only [List.setIfInBounds_toArray] | simp only [List.set_cons_succ] | simp only [List.set_cons_zero])
                    replace BW := BW.trans hbb2
                    clear hbb2
                    have hFG := Grow.two01 GW (by omega) ho hg hp hmid ho2 hg2 hp2
                    have q0 := (BW.cell (p := ⟨S, 0, none⟩) (by simp)).trans d0
                    have q1 := (BW.cell (p := ⟨S, 1, none⟩) (by simp)).trans d1
                    have r0 := (BW.frozen (p := ⟨S, 0, none⟩) (by simp)).trans f0
                    have r1 := (BW.frozen (p := ⟨S, 1, none⟩) (by simp)).trans f1
                    have q2 : (wd4.setCell ⟨S, 0, none⟩ (.slice (some ⟨g', 0, none⟩) (V ++ [x]).length c')).cell? ⟨S, 1, none⟩ = _ := (World.cell?_setCell_other _ _ _ _ (by intro e; simp at e)).trans q1
                    have hFB : Below S wb ((wd4.setCell ⟨S, 0, none⟩ (.slice (some ⟨g', 0, none⟩) (V ++ [x]).length c')).setCell ⟨S, 1, none⟩ (.slice (some ⟨g'', 0, none⟩) (Y ++ [0]).length c'')) := ((BW.mono (B' := S) (by omega)).setCell (p := ⟨S, 0, none⟩) (Nat.le_refl _) _).setCell (p := ⟨S, 1, none⟩) (Nat.le_refl _) _
                    refine wpAnyT_ready (rs := [13]) (by kernel_rfl) (by simp) ?_
                    refine AllT.cons rfl (fun K hK => ?_) AllT.nil
                    go_simp
                    refine hK.out _ _ (fun _ h => absurd h (by decide)) ?_
                    clear hK K
                    repeat (first | simp only [Act.put] | simp only [List.setIfInBounds_toArray] | simp only [List.set_cons_succ] | simp only [List.set_cons_zero])
                    refine wpAnyT_takeY (i := 14) (v := ?_) rfl (by kernel_rfl) (by kernel_rfl) (by kernel_rfl) (fun _ _ _ h => h) (Or.inl ⟨by rfl, ?_⟩) ?_
                    rotate_left
                    · intro wq; first | (go_simp; done) | (go_simp; with_reducible rfl)
                    repeat (first | simp only [Act.put] | simp only [List.setIfInBounds_toArray] | simp only [List.set_cons_succ] | simp only [List.set_cons_zero])
                    refine wpAnyT_ready (rs := [15]) (by kernel_rfl) (by simp) ?_
                    refine AllT.cons rfl (fun K hK => ?_) AllT.nil
                    go_simp
                    refine hK.out _ _ (fun _ h => absurd h (by decide)) ?_
                    clear hK K
                    repeat (first | simp only [Act.put] | simp only [List.setIfInBounds_toArray] | simp only [List.set_cons_succ] | simp only [List.set_cons_zero])
                    refine wpAnyT_done (by kernel_rfl) ?_ _
                    clear q0 q1 q2 r0 r1 hmid BW zb
                    have HFG := Lib.hid hFG
                    have HFB := Lib.hid hFB
                    clear hFG hFB
                    go_wp2_with fail
                    go_meet
                    case rel =>
                      have hF := HFG.out
                      have hF2 := HFB.out
                      simp only [List.length_append, List.length_cons, List.length_nil, Nat.zero_add] at hF hF2
                      refine ⟨V.length, _, _, V ++ [x], Y ++ [0], 0, by first | rfl | (congr 1; omega), by rw [← HYL.out]; simp, ⟨?_, ?_⟩, hF, hBb.trans hF2⟩
                      · rw [HQ1.out (by first | trivial | rfl), List.map_append, ← hVY.out.1]; rfl
                      · rw [HQ1.out (by first | trivial | rfl), List.map_append, ← hVY.out.2, ← HYL.out]; simp [absL, abs_zero]
                  exact AllT.nil
                exact AllT.nil
              refine AllT.cons rfl (fun K hK => ?_) ?_
              · skip
                go_simp
                refine hK.out _ _ (fun h _ => h.below (below_alloc wd1 _) (by omega) (by omega) (by omega)) ?_
                clear hK K
                repeat (first | simp only [Act.put] | simp only [List.setIfInBounds_toArray] | simp only [List.set_cons_succ] | simp only [List.set_cons_zero])
                have LB := own_one wd1 (S + 1) 0 (by omega)
                obtain ⟨lB, hlB⟩ : ∃ l, l = wd1.heap.size := ⟨_, rfl⟩
                rw [← hlB] at LB ⊢
                have qB : wb.heap.size ≤ lB := by omega
                replace LA := LA.alloc (.cells #[fV 0] 28)
                replace GW := GW.alloc (.cells #[fV 0] 28)
                replace BW := BW.alloc (by omega) (.cells #[fV 0] 28)
                replace zb : wb.heap.size ≤ (wd1.alloc (.cells #[fV 0] 28)).heap.size := by rw [size_alloc]; omega
                clear hlB
                generalize wd1.alloc (.cells #[fV 0] 28) = wd5 at *
                refine wpAnyT_ready (rs := [7]) (by kernel_rfl) (by simp) ?_
                refine AllT.cons rfl (fun K hK => ?_) ?_
                · skip
                  refine elF_.app_step (f := fV) (fun _ => rfl) _ (by rfl) _ _ (by rfl) (S + 1) (.slice E0 V.length ca0) V (by rfl) GW.o0 _ [x] (by rfl) LA.rd (by omega) (by simp; omega) (by omega) ?_
                  intro v' wd6 ho hg hbb hp
                  obtain ⟨g', c', rfl, -, -, -⟩ := ho.form (by simp)
                  refine hK.out _ _ (fun h _ => h.below' hbb (by omega) (by omega) (by omega)) ?_
                  clear hK K
                  repeat (first | simp only [Act.put] | simp only [List.setIfInBounds_toArray] | simp only [List.set_cons_succ] | simp only [List.set_cons_zero])
                  refine wpAnyT_takeY (i := 12) (v := ?_) rfl (by kernel_rfl) (by kernel_rfl) (by kernel_rfl) (fun _ _ _ h => h) (Or.inl ⟨by rfl, ?_⟩) ?_
                  rotate_left
                  · intro wq; first | (go_simp; done) | (go_simp; with_reducible rfl)
                  repeat (first | simp only [Act.put] | simp only [List.setIfInBounds_toArray] | simp only [List.set_cons_succ] | simp only [List.set_cons_zero])
                  have OO := GW.o1.kept hg (apart_symm GW.ap)
                  replace LB := LB.kept hg (.inr (fun e => (by have h9 := (hGH.out.o0.lt _ e.symm).2; simp at h9; omega)))
                  replace BW := BW.trans hbb
                  replace zb : wb.heap.size ≤ wd6.heap.size := Nat.le_trans zb hg.size
                  have hmid := Below.refl wd6.heap.size wd6
                  clear hbb
                  refine wpAnyT_ready (rs := [11]) (by kernel_rfl) (by simp) ?_
                  refine AllT.cons rfl (fun K hK => ?_) ?_
                  · skip
                    refine elF_.app_step (f := fV) (fun _ => rfl) _ (by rfl) _ _ (by rfl) (S + 1) (.slice E1 Y.length ca1) Y (by rfl) OO _ [0] (by rfl) LB.rd (by omega) (by simp; omega) (by omega) ?_
                    intro v'' wd7 ho2 hg2 hbb2 hp2
                    obtain ⟨g'', c'', rfl, -, -, -⟩ := ho2.form (by simp)
                    refine hK.out _ _ (fun h _ => h.below' hbb2 (by omega) (by omega) (by omega)) ?_
                    clear hK K
                    repeat (first | simp only [Act.put] | simp only [List.setIfInBounds_toArray] | simp only [List.set_cons_succ] | simp only [List.set_cons_zero])
                    replace BW := BW.trans hbb2
                    clear hbb2
                    have hFG := Grow.two01 GW (by omega) ho hg hp hmid ho2 hg2 hp2
                    have q0 := (BW.cell (p := ⟨S, 0, none⟩) (by simp)).trans d0
                    have q1 := (BW.cell (p := ⟨S, 1, none⟩) (by simp)).trans d1
                    have r0 := (BW.frozen (p := ⟨S, 0, none⟩) (by simp)).trans f0
                    have r1 := (BW.frozen (p := ⟨S, 1, none⟩) (by simp)).trans f1
                    have q2 : (wd7.setCell ⟨S, 0, none⟩ (.slice (some ⟨g', 0, none⟩) (V ++ [x]).length c')).cell? ⟨S, 1, none⟩ = _ := (World.cell?_setCell_other _ _ _ _ (by intro e; simp at e)).trans q1
                    have hFB : Below S wb ((wd7.setCell ⟨S, 0, none⟩ (.slice (some ⟨g', 0, none⟩) (V ++ [x]).length c')).setCell ⟨S, 1, none⟩ (.slice (some ⟨g'', 0, none⟩) (Y ++ [0]).length c'')) := ((BW.mono (B' := S) (by omega)).setCell (p := ⟨S, 0, none⟩) (Nat.le_refl _) _).setCell (p := ⟨S, 1, none⟩) (Nat.le_refl _) _
                    refine wpAnyT_ready (rs := [13]) (by kernel_rfl) (by simp) ?_
                    refine AllT.cons rfl (fun K hK => ?_) AllT.nil
                    go_simp
                    refine hK.out _ _ (fun _ h => absurd h (by decide)) ?_
                    clear hK K
                    repeat (first | simp only [Act.put] | simp only [List.setIfInBounds_toArray] | simp only [List.set_cons_succ] | simp only [List.set_cons_zero])
                    refine wpAnyT_takeY (i := 14) (v := ?_) rfl (by kernel_rfl) (by kernel_rfl) (by kernel_rfl) (fun _ _ _ h => h) (Or.inl ⟨by rfl, ?_⟩) ?_
                    rotate_left
                    · intro wq; first | (go_simp; done) | (go_simp; with_reducible rfl)
                    repeat (first | simp only [Act.put] | simp only [List.setIfInBounds_toArray] | simp only [List.set_cons_succ] | simp only [List.set_cons_zero])
                    refine wpAnyT_ready (rs := [15]) (by kernel_rfl) (by simp) ?_
                    refine AllT.cons rfl (fun K hK => ?_) AllT.nil
                    go_simp
                    refine hK.out _ _ (fun _ h => absurd h (by decide)) ?_
                    clear hK K
                    repeat (first | simp only [Act.put] | simp only [List.setIfInBounds_toArray] | simp only [List.set_cons_succ] | simp only [List.set_cons_zero])
                    refine wpAnyT_done (by kernel_rfl) ?_ _
                    clear q0 q1 q2 r0 r1 hmid BW zb
                    have HFG := Lib.hid hFG
                    have HFB := Lib.hid hFB
                    clear hFG hFB
                    go_wp2_with fail
                    go_meet
                    case rel =>
                      have hF := HFG.out
                      have hF2 := HFB.out
                      simp only [List.length_append, List.length_cons, List.length_nil, Nat.zero_add] at hF hF2
                      refine ⟨V.length, _, _, V ++ [x], Y ++ [0], 0, by first | rfl | (congr 1; omega), by rw [← HYL.out]; simp, ⟨?_, ?_⟩, hF, hBb.trans hF2⟩
                      · rw [HQ1.out (by first | trivial | rfl), List.map_append, ← hVY.out.1]; rfl
                      · rw [HQ1.out (by first | trivial | rfl), List.map_append, ← hVY.out.2, ← HYL.out]; simp [absL, abs_zero]
                  exact AllT.nil
                exact AllT.nil
              exact AllT.nil
            refine AllT.cons rfl (fun K hK => ?_) ?_
            · skip
              go_simp
              refine hK.out _ _ (fun h _ => h.below (below_alloc wd _) (by omega) (by omega) (by omega)) ?_
              clear hK K
              repeat (first | simp only [Act.put] | simp only [List.setIfInBounds_toArray] | simp only [List.set_cons_succ] | simp only [List.set_cons_zero])
              have LB := own_one wd (S + 1) 0 (by omega)
              obtain ⟨lB, hlB⟩ : ∃ l, l = wd.heap.size := ⟨_, rfl⟩
              rw [← hlB] at LB ⊢
              have qB : wb.heap.size ≤ lB := by omega
              replace GW := GW.alloc (.cells #[fV 0] 28)
              replace BW := BW.alloc (by omega) (.cells #[fV 0] 28)
              replace zb : wb.heap.size ≤ (wd.alloc (.cells #[fV 0] 28)).heap.size := by rw [size_alloc]; omega
              clear hlB
              generalize wd.alloc (.cells #[fV 0] 28) = wd8 at *
              refine wpAnyT_ready (rs := [6]) (by kernel_rfl) (by simp) ?_
              refine AllT.cons rfl (fun K hK => ?_) ?_
              · skip
                go_simp
                refine hK.out _ _ (fun h _ => h.below (below_alloc wd8 _) (by omega) (by omega) (by omega)) ?_
                clear hK K
                repeat (first | simp only [Act.put] | simp only [List.setIfInBounds_toArray] | simp only [List.set_cons_succ] | simp only [List.set_cons_zero])
                have LA := own_one wd8 (S + 1) x (by omega)
                obtain ⟨lA, hlA⟩ : ∃ l, l = wd8.heap.size := ⟨_, rfl⟩
                rw [← hlA] at LA ⊢
                have qA : wb.heap.size ≤ lA := by omega
                replace LB := LB.alloc (.cells #[fV x] 28)
                replace GW := GW.alloc (.cells #[fV x] 28)
                replace BW := BW.alloc (by omega) (.cells #[fV x] 28)
                replace zb : wb.heap.size ≤ (wd8.alloc (.cells #[fV x] 28)).heap.size := by rw [size_alloc]; omega
                clear hlA
                generalize wd8.alloc (.cells #[fV x] 28) = wd9 at *
                refine wpAnyT_ready (rs := [7]) (by kernel_rfl) (by simp) ?_
                refine AllT.cons rfl (fun K hK => ?_) ?_
                · skip
                  refine elF_.app_step (f := fV) (fun _ => rfl) _ (by rfl) _ _ (by rfl) (S + 1) (.slice E0 V.length ca0) V (by rfl) GW.o0 _ [x] (by rfl) LA.rd (by omega) (by simp; omega) (by omega) ?_
                  intro v' wd10 ho hg hbb hp
                  obtain ⟨g', c', rfl, -, -, -⟩ := ho.form (by simp)
                  refine hK.out _ _ (fun h _ => h.below' hbb (by omega) (by omega) (by omega)) ?_
                  clear hK K
                  repeat (first | simp only [Act.put] | simp only [List.setIfInBounds_toArray] | simp only [List.set_cons_succ] | simp only [List.set_cons_zero])
                  refine wpAnyT_takeY (i := 12) (v := ?_) rfl (by kernel_rfl) (by kernel_rfl) (by kernel_rfl) (fun _ _ _ h => h) (Or.inl ⟨by rfl, ?_⟩) ?_
                  rotate_left
                  · intro wq; first | (go_simp; done) | (go_simp; with_reducible rfl)
                  repeat (first | simp only [Act.put] | simp only [List.setIfInBounds_toArray] | simp only [List.set_cons_succ] | simp only [List.set_cons_zero])
                  have OO := GW.o1.kept hg (apart_symm GW.ap)
                  replace LB := LB.kept hg (.inr (fun e => (by have h9 := (hGH.out.o0.lt _ e.symm).2; simp at h9; omega)))
                  replace BW := BW.trans hbb
                  replace zb : wb.heap.size ≤ wd10.heap.size := Nat.le_trans zb hg.size
                  have hmid := Below.refl wd10.heap.size wd10
                  clear hbb
                  refine wpAnyT_ready (rs := [11]) (by kernel_rfl) (by simp) ?_
                  refine AllT.cons rfl (fun K hK => ?_) ?_
                  · skip
                    refine elF_.app_step (f := fV) (fun _ => rfl) _ (by rfl) _ _ (by rfl) (S + 1) (.slice E1 Y.length ca1) Y (by rfl) OO _ [0] (by rfl) LB.rd (by omega) (by simp; omega) (by omega) ?_
                    intro v'' wd11 ho2 hg2 hbb2 hp2
                    obtain ⟨g'', c'', rfl, -, -, -⟩ := ho2.form (by simp)
                    refine hK.out _ _ (fun h _ => h.below' hbb2 (by omega) (by omega) (by omega)) ?_
                    clear hK K
                    repeat (first | simp only [Act.put] | simp only [List.setIfInBounds_toArray] | simp only [List.set_cons_succ] | simp only [List.set_cons_zero])
                    replace BW := BW.trans hbb2
                    clear hbb2
                    have hFG := Grow.two01 GW (by omega) ho hg hp hmid ho2 hg2 hp2
                    have q0 := (BW.cell (p := ⟨S, 0, none⟩) (by simp)).trans d0
                    have q1 := (BW.cell (p := ⟨S, 1, none⟩) (by simp)).trans d1
                    have r0 := (BW.frozen (p := ⟨S, 0, none⟩) (by simp)).trans f0
                    have r1 := (BW.frozen (p := ⟨S, 1, none⟩) (by simp)).trans f1
                    have q2 : (wd11.setCell ⟨S, 0, none⟩ (.slice (some ⟨g', 0, none⟩) (V ++ [x]).length c')).cell? ⟨S, 1, none⟩ = _ := (World.cell?_setCell_other _ _ _ _ (by intro e; simp at e)).trans q1
                    have hFB : Below S wb ((wd11.setCell ⟨S, 0, none⟩ (.slice (some ⟨g', 0, none⟩) (V ++ [x]).length c')).setCell ⟨S, 1, none⟩ (.slice (some ⟨g'', 0, none⟩) (Y ++ [0]).length c'')) := ((BW.mono (B' := S) (by omega)).setCell (p := ⟨S, 0, none⟩) (Nat.le_refl _) _).setCell (p := ⟨S, 1, none⟩) (Nat.le_refl _) _
                    refine wpAnyT_ready (rs := [13]) (by kernel_rfl) (by simp) ?_
                    refine AllT.cons rfl (fun K hK => ?_) AllT.nil
                    go_simp
                    refine hK.out _ _ (fun _ h => absurd h (by decide)) ?_
                    clear hK K
                    repeat (first | simp only [Act.put] | simp only [List.setIfInBounds_toArray] | simp only [List.set_cons_succ] | simp only [List.set_cons_zero])
                    refine wpAnyT_takeY (i := 14) (v := ?_) rfl (by kernel_rfl) (by kernel_rfl) (by kernel_rfl) (fun _ _ _ h => h) (Or.inl ⟨by rfl, ?_⟩) ?_
                    rotate_left
                    · intro wq; first | (go_simp; done) | (go_simp; with_reducible rfl)
                    repeat (first | simp only [Act.put] | simp only [List.setIfInBounds_toArray] | simp only [List.set_cons_succ] | simp only [List.set_cons_zero])
                    refine wpAnyT_ready (rs := [15]) (by kernel_rfl) (by simp) ?_
                    refine AllT.cons rfl (fun K hK => ?_) AllT.nil
                    go_simp
                    refine hK.out _ _ (fun _ h => absurd h (by decide)) ?_
                    clear hK K
                    repeat (first | simp only [Act.put] | simp only [List.setIfInBounds_toArray] | simp only [List.set_cons_succ] | simp only [List.set_cons_zero])
                    refine wpAnyT_done (by kernel_rfl) ?_ _
                    clear q0 q1 q2 r0 r1 hmid BW zb
                    have HFG := Lib.hid hFG
                    have HFB := Lib.hid hFB
                    clear hFG hFB
                    go_wp2_with fail
                    go_meet
                    case rel =>
                      have hF := HFG.out
                      have hF2 := HFB.out
                      simp only [List.length_append, List.length_cons, List.length_nil, Nat.zero_add] at hF hF2
                      refine ⟨V.length, _, _, V ++ [x], Y ++ [0], 0, by first | rfl | (congr 1; omega), by rw [← HYL.out]; simp, ⟨?_, ?_⟩, hF, hBb.trans hF2⟩
                      · rw [HQ1.out (by first | trivial | rfl), List.map_append, ← hVY.out.1]; rfl
                      · rw [HQ1.out (by first | trivial | rfl), List.map_append, ← hVY.out.2, ← HYL.out]; simp [absL, abs_zero]
                  exact AllT.nil
                exact AllT.nil
              exact AllT.nil
            exact AllT.nil
        case rest =>
          obtain ⟨L, u0, u1, V', Y', y0, rfl, hy0, hVY', hG2, hB2⟩ := hcut
          clear HQ1 HQ2 hGb hBb hT hB0 e0 hsz hVl HYL HW
          have hLl := lt_of_get hy0
          obtain ⟨g1, k1, e1', hk1', _, _⟩ := hG2.o1.form (by omega)
          subst e1'
          have hsz := hB2.size
          have hT : Below w.heap.size w wc := hT4.trans (hB2.mono (by omega))
          have d1 := hG2.box.cell 1 _ rfl
          have e1 := hG2.at1 hy0
          have f1 := hG2.free1 L
          have ec : wc.cell? (ad1.add j) = some (fV y) := by rw [hT.cell (by rw [add_block]; exact hbl1)]; exact HC1.out
          have HGP := Lib.hid (fun b => hG2.put1 L b)
          have hL0 : (0 : Int) ≤ (L : Int) := by omega
          have hL1 : (L : Int) < (Y'.length : Int) := by omega
          have hg1 : w.heap.size ≤ g1 := by have := (hG2.o1.lt g1 rfl).1; omega
          have hgS : S ≤ g1 := by have := (hG2.o1.lt g1 rfl).1; omega
          clear hG2 hy0
          go_wp2
          refine wp_region_fq 10 (fun _ _ _ => True) (by kernel_rfl) (by kernel_rfl) ?_
          simp only [List.take, List.drop]
          repeat (first | (refine wpFq_one (by rfl) ?_; go_big_quiet_step (fail); refine wpQuiet_nil ?_) | (refine wpFq_nilc (by rfl) _ rfl _ (by rfl) ?_; simp only [Act.put, List.setIfInBounds_toArray, List.set_cons_zero, List.set_cons_succ]) | (refine wpFq_fl (by rfl) _ _ _ _ _ rfl (by rfl) _ _ _ (by rfl) (by rfl) ?_; intro fb hfb; simp only [Act.put, List.setIfInBounds_toArray, List.set_cons_zero, List.set_cons_succ]) | (refine wpFq_up (by rfl) _ _ _ rfl (by kernel_rfl) (by kernel_rfl) _ (by rfl) ?_; intro fb hfb; simp only [Act.put, List.setIfInBounds_toArray, List.set_cons_zero, List.set_cons_succ]))
          refine wpFq_nil ?_
          intro nq
          go_wp2
          go_roundw
          case rel =>
            refine ⟨k + 1, _, _, _, _, by omega, by go_num, (HGP.out _).below (below_drewN_ (Below.refl _ _)), ⟨hVY'.out.1, ?_⟩, ?_⟩
            · rw [show ∀ b, absL (Y'.set L b) = (absL Y').set L (absF .f32 b) from fun b => by simp [absL, List.map_set], hfb]
              exact hVY'.out.2
            · exact (below_drewN_ hB2).setCell (p := ⟨g1, L, none⟩) hgS _
          case measure => simp [intOf]; omega
    · have hke : k = xs.length := by omega
      have hE := gTo_end (C := absL ys) HP.out HU.out
      rw [← hke] at hE
      have hVl : V.length ≤ k := by rw [hVY.out.1, List.length_map]; exact gTo_len xs (absL ys) R k
      have hYl : Y.length = V.length := by rw [hVY.out.1, List.length_map, ← List.length_map (f := Prod.snd), ← hVY.out.2]; simp [absL]
      have hV := hVY.out.1
      have hY := hVY.out.2
      rw [hE] at hV hY
      have hok : shareB V Y = gatOk xs (absL ys) := by rw [gatOk_t Hf.out, shareB_abs, hV, hY]
      have HOK := Lib.hid hok
      have HV := Lib.hid hV
      have HY := Lib.hid hY
      have HYL := Lib.hid hYl
      have HKE := Lib.hid hke
      clear hE hV hY hok hYl hVY hke
      have hSg := hG.box.lt
      obtain ⟨E0, ca0, rfl, -, -⟩ := hG.o0.rd
      obtain ⟨E1, ca1, rfl, -, -⟩ := hG.o1.rd
      have HRD0 := Lib.hid hG.o0.rd
      have HRD1 := Lib.hid hG.o1.rd
      have d0 := hG.box.cell 0 _ rfl
      have d1 := hG.box.cell 1 _ rfl
      have hGH := Lib.hid hG
      clear hG
      go_wp2_with (go_at_call 35; refine (checkedShare_any _ V _ Y (by omega) (by rw [HYL.out]; omega) _ HRD0.out HRD1.out).mono ?_)
      rintro e w6 ⟨rfl, hb3⟩
      have hG := hGH.out.below hb3
      have hB := hB1.below hb3
      have HT := Lib.hid (below_to hT hb3 hT.size)
      clear hb3 d0 d1 hGH hT hB0 hB1
      have d0 := hB.cell 0 _ rfl
      have d1 := hB.cell 1 _ rfl
      have f0 := hB.free 0
      have f1 := hB.free 1
      have hGH := Lib.hid hG
      clear hG
      unfold chkV
      cases hs' : shareB V Y
      all_goals
        have HS := Lib.hid (HOK.out.symm.trans hs')
        have HS' := Lib.hid hs'
        clear hs'
        go_wp2
      · refine bodyPost_ret (v := .tuple #[shV (.slice none 0 0) (.slice none 0 0), .bool false]) (by simp [results, Tryz.results31, go_sem, *]) rfl ?_
        unfold RetGather
        rw [HS.out]
        exact RetSh.none ((HT.out.setCell (by simp) _).setCell (by simp) _)
      · refine bodyPost_ret (v := .tuple #[shV (.slice E0 V.length ca0) (.slice E1 Y.length ca1), .bool true]) (by simp [results, Tryz.results31, go_sem, *]) rfl ?_
        unfold RetGather
        rw [HS.out]
        have o0 := Own.other (Own.other hGH.out.o0 (p := ⟨w.heap.size + 1, 0, none⟩) (fun e => by have h9 := (hGH.out.o0.lt _ e).1; simp at h9; omega) (.slice E0 V.length ca0)) (p := ⟨w.heap.size + 1, 1, none⟩) (fun e => by have h9 := (hGH.out.o0.lt _ e).1; simp at h9; omega) (.slice E1 Y.length ca1)
        have o1 := Own.other (Own.other hGH.out.o1 (p := ⟨w.heap.size + 1, 0, none⟩) (fun e => by have h9 := (hGH.out.o1.lt _ e).1; simp at h9; omega) (.slice E0 V.length ca0)) (p := ⟨w.heap.size + 1, 1, none⟩) (fun e => by have h9 := (hGH.out.o1.lt _ e).1; simp at h9; omega) (.slice E1 Y.length ca1)
        exact ⟨_, V, _, Y, rfl, o0.base_ (by omega), o1.base_ (by omega), hGH.out.ap, by omega, by rw [HYL.out]; omega, by rw [HV.out]; rfl, by rw [HY.out]; rfl, (HT.out.setCell (by simp) _).setCell (by simp) _⟩
end Go.Proofs.YtjajlddnhmbekaaGreat
