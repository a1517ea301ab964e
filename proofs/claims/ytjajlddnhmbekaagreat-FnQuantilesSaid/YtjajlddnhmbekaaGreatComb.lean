/-
  Combining two shares: impl.combine and spec.l05Pairs, walked.
-/
import Derived.Test.YtjajlddnhmbekaaGreatTwoR2
namespace Go.Proofs.YtjajlddnhmbekaaGreat
open Go.RowKit
attribute [local go_sem] run_fl_add run_fl_sub run_fl_mul run_fl_quo run_up_

/-- Two finite numbers make no NaN. -/
theorem fin_sum {a b : Nat} (ha : finB a = true) (hb : finB b = true) : ∃ r, floatBits .add .f32 a b = some r := by
  obtain ⟨s, m, p, ea⟩ := fin_num ha
  obtain ⟨t, n, q, eb⟩ := fin_num hb
  show ∃ r, ((FloatKind.f32.format.read a).sum (FloatKind.f32.format.read b)).map FloatKind.f32.format.write = some r
  rw [ea, eb]
  simp only [Ieee.Datum.sum]
  split <;> exact ⟨_, rfl⟩
theorem fin_mul {a b : Nat} (ha : finB a = true) (hb : finB b = true) : ∃ r, floatBits .mul .f32 a b = some r := by
  obtain ⟨s, m, p, ea⟩ := fin_num ha
  obtain ⟨t, n, q, eb⟩ := fin_num hb
  show ∃ r, ((FloatKind.f32.format.read a).product (FloatKind.f32.format.read b)).map FloatKind.f32.format.write = some r
  rw [ea, eb]
  exact ⟨_, rfl⟩
theorem abs_bits {op : BinOp} {a b r : Nat} (h : floatBits op .f32 a b = some r) : absF .f32 r = opF op .f32 (absF .f32 a) (absF .f32 b) := by
  rw [opF_abs, h]
  exact absF_of (floatBits_nan h)

/-- The first i rows of pairs, and k of the next. -/
def fullP (g : Nat → Nat → Option Nat) (xs ys : List Nat) (i : Nat) : List (Option Nat) := (xs.take i).flatMap fun x => ys.map (g x)
def partP (g : Nat → Nat → Option Nat) (xs ys : List Nat) (i k x : Nat) : List (Option Nat) := fullP g xs ys i ++ (ys.take k).map (g x)
theorem fullP_succ {g : Nat → Nat → Option Nat} {xs ys : List Nat} {i x : Nat} (h : xs[i]? = some x) : fullP g xs ys (i + 1) = partP g xs ys i ys.length x := by
  unfold fullP partP
  rw [take_snoc h, List.flatMap_append, List.take_length]
  simp [fullP]
theorem partP_zero (g : Nat → Nat → Option Nat) (xs ys : List Nat) (i x : Nat) : partP g xs ys i 0 x = fullP g xs ys i := by simp [partP]
theorem partP_succ {g : Nat → Nat → Option Nat} {xs ys : List Nat} {i k x y : Nat} (h : ys[k]? = some y) : partP g xs ys i (k + 1) x = partP g xs ys i k x ++ [g x y] := by
  unfold partP
  rw [take_snoc h]; simp
theorem fullP_zero (g : Nat → Nat → Option Nat) (xs ys : List Nat) : fullP g xs ys 0 = [] := rfl
theorem absL_len2 (xs : List Nat) : (absL xs).length = xs.length := by simp [absL]
theorem fullP_len (g : Nat → Nat → Option Nat) (xs ys : List Nat) : ∀ i, i ≤ xs.length → (fullP g xs ys i).length = i * ys.length := by
  intro i
  induction i with
  | zero => intro _; simp [fullP]
  | succ i ih =>
    intro h
    obtain ⟨x, hx⟩ := get_of_lt (xs := xs) (k := i) (by omega)
    rw [fullP_succ hx]
    unfold partP
    rw [List.length_append, ih (by omega), List.length_map, List.take_length, Nat.succ_mul]
theorem partP_le (g : Nat → Nat → Option Nat) (xs ys : List Nat) {i k x : Nat} (h1 : xs.length ≤ 64) (h2 : ys.length ≤ 64) (hi : i ≤ xs.length) : (partP g xs ys i k x).length ≤ 4200 := by
  unfold partP
  rw [List.length_append, fullP_len g xs ys i hi, List.length_map, List.length_take]
  have := Nat.mul_le_mul (Nat.le_trans hi h1) h2
  omega
theorem absl_app (a b : List Nat) : absL (a ++ b) = absL a ++ absL b := by simp [absL]
def mulW (a b : Nat) : Option Nat := opF .mul .f32 (absF .f32 a) (absF .f32 b)
def addW (a b : Nat) : Option Nat := opF .add .f32 (absF .f32 a) (absF .f32 b)
def grW (a b : Nat) : Nat := if FloatKind.f32.format.order b a == some .gt then b else a
def combG (x0 x1 x2 x3 : List Nat) : Bool := shareB x0 x1 && shareB x2 x3
def combV (g : Nat → Nat → Option Nat) (x0 x2 : List Nat) : List Nat := gatW (fullP g x0 x2 x0.length)
def combC (x1 x3 : List Nat) : List (Option Nat) := fullP mulW x1 x3 x1.length
def combOk (g : Nat → Nat → Option Nat) (x0 x1 x2 x3 : List Nat) : Bool := combG x0 x1 x2 x3 && gatOk (combV g x0 x2) (combC x1 x3)
def RetComb (g : Nat → Nat → Option Nat) (x0 x1 x2 x3 : List Nat) (w : World) (e : Ending) (w' : World) : Prop :=
  RetSh (combOk g x0 x1 x2 x3) (absL ((gatS (combV g x0 x2) (combC x1 x3)).map Prod.fst)) ((gatS (combV g x0 x2) (combC x1 x3)).map Prod.snd) w e w'
theorem combOk_f {g : Nat → Nat → Option Nat} {x0 x1 x2 x3 : List Nat} (h : combG x0 x1 x2 x3 = false) : combOk g x0 x1 x2 x3 = false := by unfold combOk; rw [h]; rfl
theorem combOk_t {g : Nat → Nat → Option Nat} {x0 x1 x2 x3 : List Nat} (h : combG x0 x1 x2 x3 = true) : combOk g x0 x1 x2 x3 = gatOk (combV g x0 x2) (combC x1 x3) := by unfold combOk; rw [h]; rfl
theorem share_fin {x0 x1 : List Nat} (h : shareB x0 x1 = true) : x0.all finB = true ∧ x1.all finB = true := by
  unfold shareB at h
  simp only [Bool.and_eq_true] at h
  refine ⟨h.1.1.2, ?_⟩
  rw [List.all_eq_true]
  intro x hx
  have := List.all_eq_true.1 h.2.1 x hx
  unfold leastB at this
  rw [Bool.and_eq_true] at this
  exact this.1

set_option maxHeartbeats 6400000 in
set_option maxRecDepth 100000 in
theorem implCombine_any (g : Nat → Nat → Option Nat) (r : Nat → Nat → Nat) (K : Nat) (hK : ∀ (args : Array Value) (w : World), (callFunc K args).run Tryz.prog w = .ok (.enter K args) w)
    (hKc : ∀ a b w, finB a = true → finB b = true → Calls Tryz.prog K #[fV a, fV b] w fun e w' => e = .returned (fV (r a b)) ∧ w = w') (habs : ∀ a b, finB a = true → finB b = true → absF .f32 (r a b) = g a b)
    (s0 : Value) (x0 : List Nat) (s1 : Value) (x1 : List Nat) (s2 : Value) (x2 : List Nat) (s3 : Value) (x3 : List Nat) (hn0 : x0.length ≤ 1099511627776) (hn1 : x1.length ≤ 1099511627776) (hn2 : x2.length ≤ 1099511627776) (hn3 : x3.length ≤ 1099511627776) (w : World) (hr0 : Rd fV w s0 x0) (hr1 : Rd fV w s1 x1) (hr2 : Rd fV w s2 x2) (hr3 : Rd fV w s3 x3) :
    Calls Tryz.prog 29 #[shV s0 s1, shV s2 s3, .func (.func K) #[] #[]] w (RetComb g x0 x1 x2 x3 w) := by
  have HR0 := Lib.hid hr0
  obtain ⟨A0, cap0, rfl, hcap0, hA0⟩ := hr0
  have HA0 := Lib.hid hA0
  clear hA0
  have HR1 := Lib.hid hr1
  obtain ⟨A1, cap1, rfl, hcap1, hA1⟩ := hr1
  have HA1 := Lib.hid hA1
  clear hA1
  have HR2 := Lib.hid hr2
  obtain ⟨A2, cap2, rfl, hcap2, hA2⟩ := hr2
  have HA2 := Lib.hid hA2
  clear hA2
  have HR3 := Lib.hid hr3
  obtain ⟨A3, cap3, rfl, hcap3, hA3⟩ := hr3
  have HA3 := Lib.hid hA3
  clear hA3
  have HKC := Lib.hid hKc
  have HABS := Lib.hid habs
  clear hKc habs
  go_enter Tryz.func29, Tryz.ntmps29
  go_wp2_with fail
  have B0 : BoxAt (((w.alloc (.cells ([.slice A0 x0.length cap0, .slice A1 x1.length cap1] : List Value).toArray 26)).alloc (.cells ([.slice A2 x2.length cap2, .slice A3 x3.length cap3] : List Value).toArray 26)).alloc (.cells ([.slice none 0 0, .slice none 0 0] : List Value).toArray 26)) w.heap.size [.slice A0 x0.length cap0, .slice A1 x1.length cap1] := ((BoxAt.new w _ _).alloc _).alloc _
  have B2 : BoxAt (((w.alloc (.cells ([.slice A0 x0.length cap0, .slice A1 x1.length cap1] : List Value).toArray 26)).alloc (.cells ([.slice A2 x2.length cap2, .slice A3 x3.length cap3] : List Value).toArray 26)).alloc (.cells ([.slice none 0 0, .slice none 0 0] : List Value).toArray 26)) (w.heap.size + 1) [.slice A2 x2.length cap2, .slice A3 x3.length cap3] := by
    have := (BoxAt.new (w.alloc (.cells ([.slice A0 x0.length cap0, .slice A1 x1.length cap1] : List Value).toArray 26)) [.slice A2 x2.length cap2, .slice A3 x3.length cap3] 26).alloc (.cells ([.slice none 0 0, .slice none 0 0] : List Value).toArray 26)
    rwa [size_alloc] at this
  have B1 : BoxAt (((w.alloc (.cells ([.slice A0 x0.length cap0, .slice A1 x1.length cap1] : List Value).toArray 26)).alloc (.cells ([.slice A2 x2.length cap2, .slice A3 x3.length cap3] : List Value).toArray 26)).alloc (.cells ([.slice none 0 0, .slice none 0 0] : List Value).toArray 26)) (w.heap.size + 2) [.slice none 0 0, .slice none 0 0] := by
    have := BoxAt.new ((w.alloc (.cells ([.slice A0 x0.length cap0, .slice A1 x1.length cap1] : List Value).toArray 26)).alloc (.cells ([.slice A2 x2.length cap2, .slice A3 x3.length cap3] : List Value).toArray 26)) [.slice none 0 0, .slice none 0 0] 26
    rwa [size_alloc, size_alloc] at this
  have hT : Below w.heap.size w (((w.alloc (.cells ([.slice A0 x0.length cap0, .slice A1 x1.length cap1] : List Value).toArray 26)).alloc (.cells ([.slice A2 x2.length cap2, .slice A3 x3.length cap3] : List Value).toArray 26)).alloc (.cells ([.slice none 0 0, .slice none 0 0] : List Value).toArray 26)) := (((Below.refl _ _).alloc (Nat.le_refl _) _).alloc (by simp) _).alloc (by simp; omega) _
  generalize hg : ((w.alloc _).alloc _).alloc _ = W0 at *
  clear hg
  refine (implValidShare_any _ x0 _ x1 hn0 hn1 _ (HR0.out.below hT) (HR1.out.below hT)).mono ?_
  rintro e w1 ⟨rfl, hb⟩
  replace B0 := B0.below hb
  replace B2 := B2.below hb
  replace B1 := B1.below hb
  replace hT := below_to hT hb hT.size
  clear hb
  cases hs : shareB x0 x1
  · have Ho := Lib.hid (combOk_f (g := g) (show combG x0 x1 x2 x3 = false by unfold combG; rw [hs]; rfl))
    clear hs
    have d0 := B1.cell 0 _ rfl
    have d1 := B1.cell 1 _ rfl
    have f0 := B1.free 0
    have f1 := B1.free 1
    have HT := Lib.hid hT
    clear hT
    go_wp2
    refine bodyPost_ret (v := .tuple #[shV (.slice none 0 0) (.slice none 0 0), .bool false]) (by simp [results, Tryz.results29, go_sem, *]) rfl ?_
    unfold RetComb
    rw [Ho.out]
    exact RetSh.none ((HT.out.setCell (by first | (simp; done) | (simp; omega)) _).setCell (by first | (simp; done) | (simp; omega)) _)
  have Hs := Lib.hid hs
  clear hs
  have m0 := B2.cell 0 _ rfl
  have m1 := B2.cell 1 _ rfl
  go_wp2_with fail
  refine (implValidShare_any _ x2 _ x3 hn2 hn3 _ (HR2.out.below hT) (HR3.out.below hT)).mono ?_
  rintro e w2 ⟨rfl, hb⟩
  replace B0 := B0.below hb
  replace B2 := B2.below hb
  replace B1 := B1.below hb
  replace hT := below_to hT hb hT.size
  clear hb
  clear m0 m1
  cases hs2 : shareB x2 x3
  · have Ho := Lib.hid (combOk_f (g := g) (show combG x0 x1 x2 x3 = false by unfold combG; rw [hs2]; simp))
    clear hs2
    have d0 := B1.cell 0 _ rfl
    have d1 := B1.cell 1 _ rfl
    have f0 := B1.free 0
    have f1 := B1.free 1
    have HT := Lib.hid hT
    clear hT
    go_wp2
    refine bodyPost_ret (v := .tuple #[shV (.slice none 0 0) (.slice none 0 0), .bool false]) (by simp [results, Tryz.results29, go_sem, *]) rfl ?_
    unfold RetComb
    rw [Ho.out]
    exact RetSh.none ((HT.out.setCell (by first | (simp; done) | (simp; omega)) _).setCell (by first | (simp; done) | (simp; omega)) _)
  have Hok := Lib.hid (combOk_t (g := g) (show combG x0 x1 x2 x3 = true by unfold combG; rw [Hs.out, hs2]; rfl))
  have hl := shareB_len Hs.out
  have hl2 := shareB_len hs2
  have F0 := Lib.hid (share_fin Hs.out)
  have F2 := Lib.hid (share_fin hs2)
  have HLEN := Lib.hid hl.2
  have HLEN2 := Lib.hid hl2.2
  have h64 : x0.length ≤ 64 := hl.1.2
  have h1 : 1 ≤ x0.length := hl.1.1
  have h642 : x2.length ≤ 64 := hl2.1.2
  have h12 : 1 ≤ x2.length := hl2.1.1
  clear hs2 hl hl2
  have d0 := B0.cell 0 _ rfl
  have hlt0 := B0.lt
  have hlt2 := B2.lt
  have hlt1 := B1.lt
  have HT2 := Lib.hid hT
  have hTz := hT.size
  go_wp2
  go_loopw [8, 9, 28] (fun so sc si wr => ∃ (i : Nat) (zs cs : List Nat), i ≤ x0.length ∧ si = .int .i64 i ∧ Own fV 28 wr w2.heap.size so zs ∧ Own fV 28 wr w2.heap.size sc cs ∧ (so.ownBlock = none ∨ so.ownBlock ≠ sc.ownBlock) ∧ Hid (absL zs = fullP g x0 x2 i ∧ absL cs = fullP mulW x1 x3 i) ∧ Below w2.heap.size w2 wr) (fun _ _ si _ => x0.length - (intOf si).toNat)
  case atStart =>
    refine ⟨0, [], [], by omega, rfl, (own_nil_new fV _ _).alloc _, ?_, .inr (by simp [Value.ownBlock]), ⟨rfl, rfl⟩, ((Below.refl _ _).alloc (Nat.le_refl _) _).alloc (by simp) _⟩
    have h := own_nil_new fV (w2.alloc (.cells #[] 28)) 28
    rw [size_alloc] at h
    exact h.base_ (by omega)
  case round =>
    obtain ⟨i, zs, cs, hi, rfl, hO0, hO1, hap, hz, hb⟩ := hrel
    clear d0
    by_cases hlt : i < x0.length
    · obtain ⟨x, hx⟩ := get_of_lt hlt
      obtain ⟨xc, hxc⟩ := get_of_lt (xs := x1) (k := i) (by rw [HLEN.out]; exact hlt)
      obtain ⟨ad0, rfl, hbl0, hcell0⟩ := HA0.out i x hx
      obtain ⟨ad1, rfl, hbl1, hcell1⟩ := HA1.out i xc hxc
      have hTr : Below w.heap.size w wr := hT.trans (hb.mono hTz)
      have e0 : wr.cell? (ad0.add i) = some (fV x) := by rw [hTr.cell (by rw [add_block]; exact hbl0)]; exact hcell0
      have HC1 := Lib.hid hcell1
      have HX := Lib.hid hx
      have HXC := Lib.hid hxc
      have hi0 : (0 : Int) ≤ (i : Int) := by omega
      have hi1 : (i : Int) < (x0.length : Int) := by omega
      have hi2 : (i : Int) < (x1.length : Int) := by rw [HLEN.out]; omega
      have hBr2 := B2.below hb
      have m0 := hBr2.cell 0 _ rfl
      have HZ := Lib.hid hz
      clear hx hxc hcell0 hcell1 hBr2 hz
      go_wp2
      go_loopw [8, 9, 36] (fun so sc sk wr => ∃ (k : Nat) (zs cs : List Nat), k ≤ x2.length ∧ sk = .int .i64 k ∧ Own fV 28 wr w2.heap.size so zs ∧ Own fV 28 wr w2.heap.size sc cs ∧ (so.ownBlock = none ∨ so.ownBlock ≠ sc.ownBlock) ∧ Hid (absL zs = partP g x0 x2 i k x ∧ absL cs = partP mulW x1 x3 i k xc) ∧ Below w2.heap.size w2 wr) (fun _ _ sk _ => x2.length - (intOf sk).toNat)
      case atStart => exact ⟨0, zs, cs, by omega, rfl, hO0, hO1, hap, ⟨by rw [partP_zero]; exact HZ.out.1, by rw [partP_zero]; exact HZ.out.2⟩, hb⟩
      case round =>
        clear hO0 hO1 hap HZ hb m0 e0 hTr
        obtain ⟨k, zs, cs, hk, rfl, hO0, hO1, hap, hz, hb⟩ := hrel
        have hzl : zs.length ≤ 4200 := by rw [← absL_len2, hz.out.1]; exact partP_le _ _ _ h64 h642 hi
        have hcl : cs.length ≤ 4200 := by rw [← absL_len2, hz.out.2]; exact partP_le _ _ _ (by rw [HLEN.out]; exact h64) (by rw [HLEN2.out]; exact h642) (by rw [HLEN.out]; exact hi)
        by_cases hlk : k < x2.length
        · obtain ⟨y, hy⟩ := get_of_lt hlk
          obtain ⟨yc, hyc⟩ := get_of_lt (xs := x3) (k := k) (by rw [HLEN2.out]; exact hlk)
          obtain ⟨ad2, rfl, hbl2, hcell2⟩ := HA2.out k y hy
          obtain ⟨ad3, rfl, hbl3, hcell3⟩ := HA3.out k yc hyc
          have hTr : Below w.heap.size w wr := hT.trans (hb.mono hTz)
          have e2 : wr.cell? (ad2.add k) = some (fV y) := by rw [hTr.cell (by rw [add_block]; exact hbl2)]; exact hcell2
          have ec : wr.drew.cell? (ad1.add i) = some (fV xc) := by show wr.cell? _ = _; rw [hTr.cell (by rw [add_block]; exact hbl1)]; exact HC1.out
          have ed : wr.drew.cell? (ad3.add k) = some (fV yc) := by show wr.cell? _ = _; rw [hTr.cell (by rw [add_block]; exact hbl3)]; exact hcell3
          have HFX := Lib.hid (List.all_eq_true.1 F0.out.1 x (List.mem_of_getElem? HX.out))
          have HFY := Lib.hid (List.all_eq_true.1 F2.out.1 y (List.mem_of_getElem? hy))
          have hfxc := List.all_eq_true.1 F0.out.2 xc (List.mem_of_getElem? HXC.out)
          have hfyc := List.all_eq_true.1 F2.out.2 yc (List.mem_of_getElem? hyc)
          obtain ⟨q, hqb⟩ := fin_mul hfxc hfyc
          have HQB := Lib.hid hqb
          have HQA : Hid (absF .f32 q = mulW xc yc) := abs_bits hqb
          have HZA : Hid (absF .f32 (r x y) = g x y) := HABS.out x y HFX.out HFY.out
          have HSV := Lib.hid (partP_succ (g := g) (xs := x0) (i := i) (x := x) hy)
          have HSC := Lib.hid (partP_succ (g := mulW) (xs := x1) (i := i) (x := xc) hyc)
          have hBr0 := B0.below hb
          have hBr2 := B2.below hb
          have s1 : wr.drew.cell? ⟨w.heap.size, 1, none⟩ = some (.slice (some ad1) x1.length cap1) := hBr0.cell 1 _ rfl
          have s2 : wr.drew.cell? ⟨w.heap.size + 1, 1, none⟩ = some (.slice (some ad3) x3.length cap3) := hBr2.cell 1 _ rfl
          have hk0 : (0 : Int) ≤ (k : Int) := by omega
          have hk1 : (k : Int) < (x2.length : Int) := by omega
          have hk2 : (k : Int) < (x3.length : Int) := by rw [HLEN2.out]; omega
          have hbq0 : (ad1.add i).block < w2.heap.size := by rw [add_block]; omega
          have hbq1 : (ad3.add k).block < w2.heap.size := by rw [add_block]; omega
          have hwz := hb.size
          obtain ⟨E0, ca0, rfl, -, -⟩ := hO0.rd
          obtain ⟨E1, ca1, rfl, -, -⟩ := hO1.rd
          have HO : Hid (Own fV 28 wr w2.heap.size (.slice E0 zs.length ca0) zs ∧ Own fV 28 wr w2.heap.size (.slice E1 cs.length ca1) cs) := ⟨hO0, hO1⟩
          clear hO0 hO1 hy hyc hcell2 hcell3 hfxc hfyc hqb hBr0 hBr2 hTr
          go_wp2_with fail
          obtain ⟨wb, hwb⟩ : ∃ wb, wb = wr := ⟨_, rfl⟩
          rw [← hwb] at HO e2 ec ed s1 s2 hwz hb ⊢
          clear hwb
          as_aux_lemma =>
            refine wp_region_T (S4 ⟨w.heap.size, 1, none⟩ ⟨w.heap.size + 1, 1, none⟩ (ad1.add i) (ad3.add k) (.slice (some ad1) x1.length cap1) (.slice (some ad3) x3.length cap3) (fV xc) (fV yc)) [] (by kernel_rfl) (⟨s1, s2, ec, ed⟩) (fun hS1 => ?_)
            simp only [List.size_toArray, List.length_cons, List.length_nil, Nat.reduceAdd]
            refine wpAnyT_takeY (i := 0) (v := ?_) rfl (by kernel_rfl) (by kernel_rfl) (by kernel_rfl) (fun _ _ _ h => h) (Or.inl ⟨by rfl, ?_⟩) ?_
            rotate_left
            · intro wq; first | (go_simp; done) | (go_simp; with_reducible rfl)
            repeat (first | simp only [List.getElem_toArray] | simp only [List.getElem_cons_succ] | simp only [List.getElem_cons_zero] | simp only [Act.put] | simp only [List.setIfInBounds_toArray] | simp only [List.set_cons_succ] | simp only [List.set_cons_zero])
            refine wpAnyT_takeY (i := 1) (v := ?_) rfl (by kernel_rfl) (by kernel_rfl) (by kernel_rfl) (fun _ _ _ h => h) (Or.inl ⟨by rfl, ?_⟩) ?_
            rotate_left
            · intro wq; first | (go_simp; done) | (go_simp; with_reducible rfl)
            repeat (first | simp only [List.getElem_toArray] | simp only [List.getElem_cons_succ] | simp only [List.getElem_cons_zero] | simp only [Act.put] | simp only [List.setIfInBounds_toArray] | simp only [List.set_cons_succ] | simp only [List.set_cons_zero])
            refine wpAnyT_takeY (i := 2) (v := ?_) rfl (by kernel_rfl) (by kernel_rfl) (by kernel_rfl) (fun _ _ _ h => h) (Or.inl ⟨by rfl, ?_⟩) ?_
            rotate_left
            · intro wq; first | (go_simp; done) | (go_simp; with_reducible rfl)
            repeat (first | simp only [List.getElem_toArray] | simp only [List.getElem_cons_succ] | simp only [List.getElem_cons_zero] | simp only [Act.put] | simp only [List.setIfInBounds_toArray] | simp only [List.set_cons_succ] | simp only [List.set_cons_zero])
            refine wpAnyT_takeY (i := 3) (v := ?_) rfl (by kernel_rfl) (by kernel_rfl) (by kernel_rfl) (fun _ _ _ h => h) (Or.inl ⟨by rfl, ?_⟩) ?_
            rotate_left
            · intro wq; first | (go_simp; done) | (go_simp; with_reducible rfl)
            repeat (first | simp only [List.getElem_toArray] | simp only [List.getElem_cons_succ] | simp only [List.getElem_cons_zero] | simp only [Act.put] | simp only [List.setIfInBounds_toArray] | simp only [List.set_cons_succ] | simp only [List.set_cons_zero])
            refine wpAnyT_takeY (i := 7) (v := ?_) rfl (by kernel_rfl) (by kernel_rfl) (by kernel_rfl) (fun _ _ _ h => h) (Or.inl ⟨by rfl, ?_⟩) ?_
            rotate_left
            · intro wq; first | (go_simp; done) | (go_simp; with_reducible rfl)
            repeat (first | simp only [List.getElem_toArray] | simp only [List.getElem_cons_succ] | simp only [List.getElem_cons_zero] | simp only [Act.put] | simp only [List.setIfInBounds_toArray] | simp only [List.set_cons_succ] | simp only [List.set_cons_zero])
            refine wpAnyT_takeY (i := 8) (v := ?_) rfl (by kernel_rfl) (by kernel_rfl) (by kernel_rfl) (fun _ _ _ h => h) (Or.inl ⟨by rfl, ?_⟩) ?_
            rotate_left
            · intro wq; first | (go_simp; done) | (go_simp; with_reducible rfl)
            repeat (first | simp only [List.getElem_toArray] | simp only [List.getElem_cons_succ] | simp only [List.getElem_cons_zero] | simp only [Act.put] | simp only [List.setIfInBounds_toArray] | simp only [List.set_cons_succ] | simp only [List.set_cons_zero])
            refine wpAnyT_take (i := 9) (v := (.slice (some ad1) x1.length cap1)) rfl (by kernel_rfl) (by kernel_rfl) (by kernel_rfl) (by kernel_rfl) (by kernel_rfl) (fun _ _ _ h => h) (Or.inl ⟨by rfl, ?_⟩) hS1 ?_
            · intro wq hq; have q0 := hq.c0; have q1 := hq.c1; have q2 := hq.c2; have q3 := hq.c3; clear hq; go_simp
            repeat (first | simp only [List.getElem_toArray] | simp only [List.getElem_cons_succ] | simp only [List.getElem_cons_zero] | simp only [Act.put] | simp only [List.setIfInBounds_toArray] | simp only [List.set_cons_succ] | simp only [List.set_cons_zero])
            refine wpAnyT_takeY (i := 10) (v := ?_) rfl (by kernel_rfl) (by kernel_rfl) (by kernel_rfl) (fun _ _ _ h => h) (Or.inl ⟨by rfl, ?_⟩) ?_
            rotate_left
            · intro wq; first | (go_simp; done) | (go_simp; with_reducible rfl)
            repeat (first | simp only [List.getElem_toArray] | simp only [List.getElem_cons_succ] | simp only [List.getElem_cons_zero] | simp only [Act.put] | simp only [List.setIfInBounds_toArray] | simp only [List.set_cons_succ] | simp only [List.set_cons_zero])
            refine wpAnyT_takeY (i := 11) (v := ?_) rfl (by kernel_rfl) (by kernel_rfl) (by kernel_rfl) (fun _ _ _ h => h) (Or.inl ⟨by rfl, ?_⟩) ?_
            rotate_left
            · intro wq; first | (go_simp; done) | (go_simp; with_reducible rfl)
            repeat (first | simp only [List.getElem_toArray] | simp only [List.getElem_cons_succ] | simp only [List.getElem_cons_zero] | simp only [Act.put] | simp only [List.setIfInBounds_toArray] | simp only [List.set_cons_succ] | simp only [List.set_cons_zero])
            refine wpAnyT_take (i := 12) (v := (fV xc)) rfl (by kernel_rfl) (by kernel_rfl) (by kernel_rfl) (by kernel_rfl) (by kernel_rfl) (fun _ _ _ h => h) (Or.inl ⟨by rfl, ?_⟩) hS1 ?_
            · intro wq hq; have q0 := hq.c0; have q1 := hq.c1; have q2 := hq.c2; have q3 := hq.c3; clear hq; go_simp
            repeat (first | simp only [List.getElem_toArray] | simp only [List.getElem_cons_succ] | simp only [List.getElem_cons_zero] | simp only [Act.put] | simp only [List.setIfInBounds_toArray] | simp only [List.set_cons_succ] | simp only [List.set_cons_zero])
            refine wpAnyT_takeY (i := 13) (v := ?_) rfl (by kernel_rfl) (by kernel_rfl) (by kernel_rfl) (fun _ _ _ h => h) (Or.inl ⟨by rfl, ?_⟩) ?_
            rotate_left
            · intro wq; first | (go_simp; done) | (go_simp; with_reducible rfl)
            repeat (first | simp only [List.getElem_toArray] | simp only [List.getElem_cons_succ] | simp only [List.getElem_cons_zero] | simp only [Act.put] | simp only [List.setIfInBounds_toArray] | simp only [List.set_cons_succ] | simp only [List.set_cons_zero])
            refine wpAnyT_take (i := 14) (v := (.slice (some ad3) x3.length cap3)) rfl (by kernel_rfl) (by kernel_rfl) (by kernel_rfl) (by kernel_rfl) (by kernel_rfl) (fun _ _ _ h => h) (Or.inl ⟨by rfl, ?_⟩) hS1 ?_
            · intro wq hq; have q0 := hq.c0; have q1 := hq.c1; have q2 := hq.c2; have q3 := hq.c3; clear hq; go_simp
            repeat (first | simp only [List.getElem_toArray] | simp only [List.getElem_cons_succ] | simp only [List.getElem_cons_zero] | simp only [Act.put] | simp only [List.setIfInBounds_toArray] | simp only [List.set_cons_succ] | simp only [List.set_cons_zero])
            refine wpAnyT_takeY (i := 15) (v := ?_) rfl (by kernel_rfl) (by kernel_rfl) (by kernel_rfl) (fun _ _ _ h => h) (Or.inl ⟨by rfl, ?_⟩) ?_
            rotate_left
            · intro wq; first | (go_simp; done) | (go_simp; with_reducible rfl)
            repeat (first | simp only [List.getElem_toArray] | simp only [List.getElem_cons_succ] | simp only [List.getElem_cons_zero] | simp only [Act.put] | simp only [List.setIfInBounds_toArray] | simp only [List.set_cons_succ] | simp only [List.set_cons_zero])
            refine wpAnyT_takeY (i := 16) (v := ?_) rfl (by kernel_rfl) (by kernel_rfl) (by kernel_rfl) (fun _ _ _ h => h) (Or.inl ⟨by rfl, ?_⟩) ?_
            rotate_left
            · intro wq; first | (go_simp; done) | (go_simp; with_reducible rfl)
            repeat (first | simp only [List.getElem_toArray] | simp only [List.getElem_cons_succ] | simp only [List.getElem_cons_zero] | simp only [Act.put] | simp only [List.setIfInBounds_toArray] | simp only [List.set_cons_succ] | simp only [List.set_cons_zero])
            refine wpAnyT_take (i := 17) (v := (fV yc)) rfl (by kernel_rfl) (by kernel_rfl) (by kernel_rfl) (by kernel_rfl) (by kernel_rfl) (fun _ _ _ h => h) (Or.inl ⟨by rfl, ?_⟩) hS1 ?_
            · intro wq hq; have q0 := hq.c0; have q1 := hq.c1; have q2 := hq.c2; have q3 := hq.c3; clear hq; go_simp
            repeat (first | simp only [List.getElem_toArray] | simp only [List.getElem_cons_succ] | simp only [List.getElem_cons_zero] | simp only [Act.put] | simp only [List.setIfInBounds_toArray] | simp only [List.set_cons_succ] | simp only [List.set_cons_zero])
            refine wpAnyT_takeY (i := 18) (v := (fV q)) rfl (by kernel_rfl) (by kernel_rfl) (by kernel_rfl) (fun _ _ _ h => h) (Or.inl ⟨by rfl, ?_⟩) ?_
            · intro wq; (go_simp; try simp only [flR_someT HQB.out, flN_some HQB.out, World.drewN_zero, and_self])
            repeat (first | simp only [List.getElem_toArray] | simp only [List.getElem_cons_succ] | simp only [List.getElem_cons_zero] | simp only [Act.put] | simp only [List.setIfInBounds_toArray] | simp only [List.set_cons_succ] | simp only [List.set_cons_zero])
            have GO0 := Own.drew1 HO.out.1
            have GO1 := Own.drew1 HO.out.2
            have BW : Below w2.heap.size wb wb.drew := (Below.refl _ _).drew
            have zb : wb.heap.size ≤ wb.drew.heap.size := Nat.le_refl _
            clear hS1
            generalize wb.drew = wd at GO0 GO1 BW zb ⊢
            refine wpAnyT_ready (rs := [4, 19]) (by kernel_rfl) (by simp) ?_
            refine AllT.cons rfl (fun K hK => ?_) ?_
            · skip
              go_simp
              refine (HKC.out x y _ HFX.out HFY.out).mono ?_; rintro e wz ⟨rfl, rfl⟩
              refine hK.out _ _ (fun h _ => h) ?_
              clear hK K
              repeat (first | simp only [List.getElem_toArray] | simp only [List.getElem_cons_succ] | simp only [List.getElem_cons_zero] | simp only [Act.put] | simp only [List.setIfInBounds_toArray] | simp only [List.set_cons_succ] | simp only [List.set_cons_zero])
              refine wpAnyT_ready (rs := [5, 19]) (by kernel_rfl) (by simp) ?_
              refine AllT.cons rfl (fun K hK => ?_) ?_
              · skip
                go_simp
                refine hK.out _ _ (fun h _ => h.below' (below_alloc wd _) (by dsimp only; omega) (by dsimp only; omega) (by omega) (by omega)) ?_
                clear hK K
                repeat (first | simp only [List.getElem_toArray] | simp only [List.getElem_cons_succ] | simp only [List.getElem_cons_zero] | simp only [Act.put] | simp only [List.setIfInBounds_toArray] | simp only [List.set_cons_succ] | simp only [List.set_cons_zero])
                have LA := own_one wd (w2.heap.size) (r x y) (by omega)
                obtain ⟨lA, hlA⟩ : ∃ l, l = wd.heap.size := ⟨_, rfl⟩
                rw [← hlA] at LA ⊢
                have qA : wb.heap.size ≤ lA := by omega
                replace GO0 := GO0.alloc (.cells #[fV (r x y)] 28)
                replace GO1 := GO1.alloc (.cells #[fV (r x y)] 28)
                replace BW := BW.alloc (by omega) (.cells #[fV (r x y)] 28)
                replace zb : wb.heap.size ≤ (wd.alloc (.cells #[fV (r x y)] 28)).heap.size := by rw [size_alloc]; omega
                clear hlA
                generalize wd.alloc (.cells #[fV (r x y)] 28) = wd2 at *
                refine wpAnyT_ready (rs := [6, 19]) (by kernel_rfl) (by simp) ?_
                refine AllT.cons rfl (fun K hK => ?_) ?_
                · skip
                  refine elF_.app_step (f := fV) (fun _ => rfl) _ (by rfl) _ _ (by rfl) (w2.heap.size) (.slice E0 zs.length ca0) zs (by rfl) GO0 _ [(r x y)] (by rfl) LA.rd (by omega) (by simp; omega) (by omega) ?_
                  intro v' wd3 ho hg hbb hp
                  obtain ⟨g', c', rfl, -, -, -⟩ := ho.form (by simp)
                  refine hK.out _ _ (fun h _ => h.below' hbb (by dsimp only; omega) (by dsimp only; omega) (by omega) (by omega)) ?_
                  clear hK K
                  repeat (first | simp only [List.getElem_toArray] | simp only [List.getElem_cons_succ] | simp only [List.getElem_cons_zero] | simp only [Act.put] | simp only [List.setIfInBounds_toArray] | simp only [List.set_cons_succ] | simp only [List.set_cons_zero])
                  have OO := GO1.kept hg (apart_symm hap)
                  replace BW := BW.trans hbb
                  replace zb : wb.heap.size ≤ wd3.heap.size := Nat.le_trans zb hg.size
                  have hmid := Below.refl wd3.heap.size wd3
                  clear hbb
                  refine wpAnyT_ready (rs := [19]) (by kernel_rfl) (by simp) ?_
                  refine AllT.cons rfl (fun K hK => ?_) ?_
                  · skip
                    go_simp
                    refine hK.out _ _ (fun h _ => h.below' (below_alloc wd3 _) (by dsimp only; omega) (by dsimp only; omega) (by omega) (by omega)) ?_
                    clear hK K
                    repeat (first | simp only [List.getElem_toArray] | simp only [List.getElem_cons_succ] | simp only [List.getElem_cons_zero] | simp only [Act.put] | simp only [List.setIfInBounds_toArray] | simp only [List.set_cons_succ] | simp only [List.set_cons_zero])
                    have LB := own_one wd3 (w2.heap.size) q (by omega)
                    obtain ⟨lB, hlB⟩ : ∃ l, l = wd3.heap.size := ⟨_, rfl⟩
                    rw [← hlB] at LB ⊢
                    have qB : wb.heap.size ≤ lB := by omega
                    replace LA := LA.alloc (.cells #[fV q] 28)
                    replace OO := OO.alloc (.cells #[fV q] 28)
                    replace hmid := hmid.alloc hmid.size (.cells #[fV q] 28)
                    replace BW := BW.alloc (by omega) (.cells #[fV q] 28)
                    replace zb : wb.heap.size ≤ (wd3.alloc (.cells #[fV q] 28)).heap.size := by rw [size_alloc]; omega
                    clear hlB
                    generalize wd3.alloc (.cells #[fV q] 28) = wd4 at *
                    refine wpAnyT_ready (rs := [20]) (by kernel_rfl) (by simp) ?_
                    refine AllT.cons rfl (fun K hK => ?_) ?_
                    · skip
                      refine elF_.app_step (f := fV) (fun _ => rfl) _ (by rfl) _ _ (by rfl) (w2.heap.size) (.slice E1 cs.length ca1) cs (by rfl) OO _ [q] (by rfl) LB.rd (by omega) (by simp; omega) (by omega) ?_
                      intro v'' wd5 ho2 hg2 hbb2 hp2
                      obtain ⟨g'', c'', rfl, -, -, -⟩ := ho2.form (by simp)
                      refine hK.out _ _ (fun h _ => h.below' hbb2 (by dsimp only; omega) (by dsimp only; omega) (by omega) (by omega)) ?_
                      clear hK K
                      repeat (first | simp only [List.getElem_toArray] | simp only [List.getElem_cons_succ] | simp only [List.getElem_cons_zero] | simp only [Act.put] | simp only [List.setIfInBounds_toArray] | simp only [List.set_cons_succ] | simp only [List.set_cons_zero])
                      replace BW := BW.trans hbb2
                      clear hbb2
                      have hFG := rows_two GO0 GO1 hap ho hg hp hmid ho2 hg2 hp2
                      refine wpAnyT_takeY (i := 21) (v := ?_) rfl (by kernel_rfl) (by kernel_rfl) (by kernel_rfl) (fun _ _ _ h => h) (Or.inl ⟨by rfl, ?_⟩) ?_
                      rotate_left
                      · intro wq; first | (go_simp; done) | (go_simp; with_reducible rfl)
                      repeat (first | simp only [List.getElem_toArray] | simp only [List.getElem_cons_succ] | simp only [List.getElem_cons_zero] | simp only [Act.put] | simp only [List.setIfInBounds_toArray] | simp only [List.set_cons_succ] | simp only [List.set_cons_zero])
                      refine wpAnyT_takeY (i := 22) (v := ?_) rfl (by kernel_rfl) (by kernel_rfl) (by kernel_rfl) (fun _ _ _ h => h) (Or.inl ⟨by rfl, ?_⟩) ?_
                      rotate_left
                      · intro wq; first | (go_simp; done) | (go_simp; with_reducible rfl)
                      repeat (first | simp only [List.getElem_toArray] | simp only [List.getElem_cons_succ] | simp only [List.getElem_cons_zero] | simp only [Act.put] | simp only [List.setIfInBounds_toArray] | simp only [List.set_cons_succ] | simp only [List.set_cons_zero])
                      refine wpAnyT_done (by kernel_rfl) ?_ _
                      clear hmid zb
                      have HFG := Lib.hid hFG
                      have HO2 := Lib.hid ho2
                      clear hFG ho2 ho hg hp hg2 hp2 OO GO0 GO1
                      go_wp2
                      go_roundw
                      case rel => exact ⟨k + 1, zs ++ [r x y], cs ++ [q], by omega, by go_num, (by have h := HFG.out.1; rw [List.length_append] at h; exact h), (by have h := HO2.out; rw [List.length_append] at h; exact h), HFG.out.2, ⟨by rw [absl_app, hz.out.1, HSV.out]; simp [absL, HZA.out], by rw [absl_app, hz.out.2, HSC.out]; simp [absL, HQA.out]⟩, hb.trans BW⟩
                      case measure => simp [intOf]; omega
                    exact AllT.nil
                  exact AllT.nil
                refine AllT.cons rfl (fun K hK => ?_) ?_
                · skip
                  go_simp
                  refine hK.out _ _ (fun h _ => h.below' (below_alloc wd2 _) (by dsimp only; omega) (by dsimp only; omega) (by omega) (by omega)) ?_
                  clear hK K
                  repeat (first | simp only [List.getElem_toArray] | simp only [List.getElem_cons_succ] | simp only [List.getElem_cons_zero] | simp only [Act.put] | simp only [List.setIfInBounds_toArray] | simp only [List.set_cons_succ] | simp only [List.set_cons_zero])
                  have LB := own_one wd2 (w2.heap.size) q (by omega)
                  obtain ⟨lB, hlB⟩ : ∃ l, l = wd2.heap.size := ⟨_, rfl⟩
                  rw [← hlB] at LB ⊢
                  have qB : wb.heap.size ≤ lB := by omega
                  replace LA := LA.alloc (.cells #[fV q] 28)
                  replace GO0 := GO0.alloc (.cells #[fV q] 28)
                  replace GO1 := GO1.alloc (.cells #[fV q] 28)
                  replace BW := BW.alloc (by omega) (.cells #[fV q] 28)
                  replace zb : wb.heap.size ≤ (wd2.alloc (.cells #[fV q] 28)).heap.size := by rw [size_alloc]; omega
                  clear hlB
                  generalize wd2.alloc (.cells #[fV q] 28) = wd6 at *
                  refine wpAnyT_ready (rs := [6]) (by kernel_rfl) (by simp) ?_
                  refine AllT.cons rfl (fun K hK => ?_) ?_
                  · skip
                    refine elF_.app_step (f := fV) (fun _ => rfl) _ (by rfl) _ _ (by rfl) (w2.heap.size) (.slice E0 zs.length ca0) zs (by rfl) GO0 _ [(r x y)] (by rfl) LA.rd (by omega) (by simp; omega) (by omega) ?_
                    intro v' wd7 ho hg hbb hp
                    obtain ⟨g', c', rfl, -, -, -⟩ := ho.form (by simp)
                    refine hK.out _ _ (fun h _ => h.below' hbb (by dsimp only; omega) (by dsimp only; omega) (by omega) (by omega)) ?_
                    clear hK K
                    repeat (first | simp only [List.getElem_toArray] | simp only [List.getElem_cons_succ] | simp only [List.getElem_cons_zero] | simp only [Act.put] | simp only [List.setIfInBounds_toArray] | simp only [List.set_cons_succ] | simp only [List.set_cons_zero])
                    have OO := GO1.kept hg (apart_symm hap)
                    replace LB := LB.kept hg (.inr (fun e => (by have h9 := (HO.out.1.lt _ e.symm).2; simp at h9; omega)))
                    replace BW := BW.trans hbb
                    replace zb : wb.heap.size ≤ wd7.heap.size := Nat.le_trans zb hg.size
                    have hmid := Below.refl wd7.heap.size wd7
                    clear hbb
                    refine wpAnyT_ready (rs := [20]) (by kernel_rfl) (by simp) ?_
                    refine AllT.cons rfl (fun K hK => ?_) ?_
                    · skip
                      refine elF_.app_step (f := fV) (fun _ => rfl) _ (by rfl) _ _ (by rfl) (w2.heap.size) (.slice E1 cs.length ca1) cs (by rfl) OO _ [q] (by rfl) LB.rd (by omega) (by simp; omega) (by omega) ?_
                      intro v'' wd8 ho2 hg2 hbb2 hp2
                      obtain ⟨g'', c'', rfl, -, -, -⟩ := ho2.form (by simp)
                      refine hK.out _ _ (fun h _ => h.below' hbb2 (by dsimp only; omega) (by dsimp only; omega) (by omega) (by omega)) ?_
                      clear hK K
                      repeat (first | simp only [List.getElem_toArray] | simp only [List.getElem_cons_succ] | simp only [List.getElem_cons_zero] | simp only [Act.put] | simp only [List.setIfInBounds_toArray] | simp only [List.set_cons_succ] | simp only [List.set_cons_zero])
                      replace BW := BW.trans hbb2
                      clear hbb2
                      have hFG := rows_two GO0 GO1 hap ho hg hp hmid ho2 hg2 hp2
                      refine wpAnyT_takeY (i := 21) (v := ?_) rfl (by kernel_rfl) (by kernel_rfl) (by kernel_rfl) (fun _ _ _ h => h) (Or.inl ⟨by rfl, ?_⟩) ?_
                      rotate_left
                      · intro wq; first | (go_simp; done) | (go_simp; with_reducible rfl)
                      repeat (first | simp only [List.getElem_toArray] | simp only [List.getElem_cons_succ] | simp only [List.getElem_cons_zero] | simp only [Act.put] | simp only [List.setIfInBounds_toArray] | simp only [List.set_cons_succ] | simp only [List.set_cons_zero])
                      refine wpAnyT_takeY (i := 22) (v := ?_) rfl (by kernel_rfl) (by kernel_rfl) (by kernel_rfl) (fun _ _ _ h => h) (Or.inl ⟨by rfl, ?_⟩) ?_
                      rotate_left
                      · intro wq; first | (go_simp; done) | (go_simp; with_reducible rfl)
                      repeat (first | simp only [List.getElem_toArray] | simp only [List.getElem_cons_succ] | simp only [List.getElem_cons_zero] | simp only [Act.put] | simp only [List.setIfInBounds_toArray] | simp only [List.set_cons_succ] | simp only [List.set_cons_zero])
                      refine wpAnyT_done (by kernel_rfl) ?_ _
                      clear hmid zb
                      have HFG := Lib.hid hFG
                      have HO2 := Lib.hid ho2
                      clear hFG ho2 ho hg hp hg2 hp2 OO GO0 GO1
                      go_wp2
                      go_roundw
                      case rel => exact ⟨k + 1, zs ++ [r x y], cs ++ [q], by omega, by go_num, (by have h := HFG.out.1; rw [List.length_append] at h; exact h), (by have h := HO2.out; rw [List.length_append] at h; exact h), HFG.out.2, ⟨by rw [absl_app, hz.out.1, HSV.out]; simp [absL, HZA.out], by rw [absl_app, hz.out.2, HSC.out]; simp [absL, HQA.out]⟩, hb.trans BW⟩
                      case measure => simp [intOf]; omega
                    exact AllT.nil
                  exact AllT.nil
                exact AllT.nil
              refine AllT.cons rfl (fun K hK => ?_) ?_
              · skip
                go_simp
                refine hK.out _ _ (fun h _ => h.below' (below_alloc wd _) (by dsimp only; omega) (by dsimp only; omega) (by omega) (by omega)) ?_
                clear hK K
                repeat (first | simp only [List.getElem_toArray] | simp only [List.getElem_cons_succ] | simp only [List.getElem_cons_zero] | simp only [Act.put] | simp only [List.setIfInBounds_toArray] | simp only [List.set_cons_succ] | simp only [List.set_cons_zero])
                have LB := own_one wd (w2.heap.size) q (by omega)
                obtain ⟨lB, hlB⟩ : ∃ l, l = wd.heap.size := ⟨_, rfl⟩
                rw [← hlB] at LB ⊢
                have qB : wb.heap.size ≤ lB := by omega
                replace GO0 := GO0.alloc (.cells #[fV q] 28)
                replace GO1 := GO1.alloc (.cells #[fV q] 28)
                replace BW := BW.alloc (by omega) (.cells #[fV q] 28)
                replace zb : wb.heap.size ≤ (wd.alloc (.cells #[fV q] 28)).heap.size := by rw [size_alloc]; omega
                clear hlB
                generalize wd.alloc (.cells #[fV q] 28) = wd9 at *
                refine wpAnyT_ready (rs := [5]) (by kernel_rfl) (by simp) ?_
                refine AllT.cons rfl (fun K hK => ?_) ?_
                · skip
                  go_simp
                  refine hK.out _ _ (fun h _ => h.below' (below_alloc wd9 _) (by dsimp only; omega) (by dsimp only; omega) (by omega) (by omega)) ?_
                  clear hK K
                  repeat (first | simp only [List.getElem_toArray] | simp only [List.getElem_cons_succ] | simp only [List.getElem_cons_zero] | simp only [Act.put] | simp only [List.setIfInBounds_toArray] | simp only [List.set_cons_succ] | simp only [List.set_cons_zero])
                  have LA := own_one wd9 (w2.heap.size) (r x y) (by omega)
                  obtain ⟨lA, hlA⟩ : ∃ l, l = wd9.heap.size := ⟨_, rfl⟩
                  rw [← hlA] at LA ⊢
                  have qA : wb.heap.size ≤ lA := by omega
                  replace LB := LB.alloc (.cells #[fV (r x y)] 28)
                  replace GO0 := GO0.alloc (.cells #[fV (r x y)] 28)
                  replace GO1 := GO1.alloc (.cells #[fV (r x y)] 28)
                  replace BW := BW.alloc (by omega) (.cells #[fV (r x y)] 28)
                  replace zb : wb.heap.size ≤ (wd9.alloc (.cells #[fV (r x y)] 28)).heap.size := by rw [size_alloc]; omega
                  clear hlA
                  generalize wd9.alloc (.cells #[fV (r x y)] 28) = wd10 at *
                  refine wpAnyT_ready (rs := [6]) (by kernel_rfl) (by simp) ?_
                  refine AllT.cons rfl (fun K hK => ?_) ?_
                  · skip
                    refine elF_.app_step (f := fV) (fun _ => rfl) _ (by rfl) _ _ (by rfl) (w2.heap.size) (.slice E0 zs.length ca0) zs (by rfl) GO0 _ [(r x y)] (by rfl) LA.rd (by omega) (by simp; omega) (by omega) ?_
                    intro v' wd11 ho hg hbb hp
                    obtain ⟨g', c', rfl, -, -, -⟩ := ho.form (by simp)
                    refine hK.out _ _ (fun h _ => h.below' hbb (by dsimp only; omega) (by dsimp only; omega) (by omega) (by omega)) ?_
                    clear hK K
                    repeat (first | simp only [List.getElem_toArray] | simp only [List.getElem_cons_succ] | simp only [List.getElem_cons_zero] | simp only [Act.put] | simp only [List.setIfInBounds_toArray] | simp only [List.set_cons_succ] | simp only [List.set_cons_zero])
                    have OO := GO1.kept hg (apart_symm hap)
                    replace LB := LB.kept hg (.inr (fun e => (by have h9 := (HO.out.1.lt _ e.symm).2; simp at h9; omega)))
                    replace BW := BW.trans hbb
                    replace zb : wb.heap.size ≤ wd11.heap.size := Nat.le_trans zb hg.size
                    have hmid := Below.refl wd11.heap.size wd11
                    clear hbb
                    refine wpAnyT_ready (rs := [20]) (by kernel_rfl) (by simp) ?_
                    refine AllT.cons rfl (fun K hK => ?_) ?_
                    · skip
                      refine elF_.app_step (f := fV) (fun _ => rfl) _ (by rfl) _ _ (by rfl) (w2.heap.size) (.slice E1 cs.length ca1) cs (by rfl) OO _ [q] (by rfl) LB.rd (by omega) (by simp; omega) (by omega) ?_
                      intro v'' wd12 ho2 hg2 hbb2 hp2
                      obtain ⟨g'', c'', rfl, -, -, -⟩ := ho2.form (by simp)
                      refine hK.out _ _ (fun h _ => h.below' hbb2 (by dsimp only; omega) (by dsimp only; omega) (by omega) (by omega)) ?_
                      clear hK K
                      repeat (first | simp only [List.getElem_toArray] | simp only [List.getElem_cons_succ] | simp only [List.getElem_cons_zero] | simp only [Act.put] | simp only [List.setIfInBounds_toArray] | simp only [List.set_cons_succ] | simp only [List.set_cons_zero])
                      replace BW := BW.trans hbb2
                      clear hbb2
                      have hFG := rows_two GO0 GO1 hap ho hg hp hmid ho2 hg2 hp2
                      refine wpAnyT_takeY (i := 21) (v := ?_) rfl (by kernel_rfl) (by kernel_rfl) (by kernel_rfl) (fun _ _ _ h => h) (Or.inl ⟨by rfl, ?_⟩) ?_
                      rotate_left
                      · intro wq; first | (go_simp; done) | (go_simp; with_reducible rfl)
                      repeat (first | simp only [List.getElem_toArray] | simp only [List.getElem_cons_succ] | simp only [List.getElem_cons_zero] | simp only [Act.put] | simp only [List.setIfInBounds_toArray] | simp only [List.set_cons_succ] | simp only [List.set_cons_zero])
                      refine wpAnyT_takeY (i := 22) (v := ?_) rfl (by kernel_rfl) (by kernel_rfl) (by kernel_rfl) (fun _ _ _ h => h) (Or.inl ⟨by rfl, ?_⟩) ?_
                      rotate_left
                      · intro wq; first | (go_simp; done) | (go_simp; with_reducible rfl)
                      repeat (first | simp only [List.getElem_toArray] | simp only [List.getElem_cons_succ] | simp only [List.getElem_cons_zero] | simp only [Act.put] | simp only [List.setIfInBounds_toArray] | simp only [List.set_cons_succ] | simp only [List.set_cons_zero])
                      refine wpAnyT_done (by kernel_rfl) ?_ _
                      clear hmid zb
                      have HFG := Lib.hid hFG
                      have HO2 := Lib.hid ho2
                      clear hFG ho2 ho hg hp hg2 hp2 OO GO0 GO1
                      go_wp2
                      go_roundw
                      case rel => exact ⟨k + 1, zs ++ [r x y], cs ++ [q], by omega, by go_num, (by have h := HFG.out.1; rw [List.length_append] at h; exact h), (by have h := HO2.out; rw [List.length_append] at h; exact h), HFG.out.2, ⟨by rw [absl_app, hz.out.1, HSV.out]; simp [absL, HZA.out], by rw [absl_app, hz.out.2, HSC.out]; simp [absL, HQA.out]⟩, hb.trans BW⟩
                      case measure => simp [intOf]; omega
                    exact AllT.nil
                  exact AllT.nil
                exact AllT.nil
              exact AllT.nil
            refine AllT.cons rfl (fun K hK => ?_) ?_
            · skip
              go_simp
              refine hK.out _ _ (fun h _ => h.below' (below_alloc wd _) (by dsimp only; omega) (by dsimp only; omega) (by omega) (by omega)) ?_
              clear hK K
              repeat (first | simp only [List.getElem_toArray] | simp only [List.getElem_cons_succ] | simp only [List.getElem_cons_zero] | simp only [Act.put] | simp only [List.setIfInBounds_toArray] | simp only [List.set_cons_succ] | simp only [List.set_cons_zero])
              have LB := own_one wd (w2.heap.size) q (by omega)
              obtain ⟨lB, hlB⟩ : ∃ l, l = wd.heap.size := ⟨_, rfl⟩
              rw [← hlB] at LB ⊢
              have qB : wb.heap.size ≤ lB := by omega
              replace GO0 := GO0.alloc (.cells #[fV q] 28)
              replace GO1 := GO1.alloc (.cells #[fV q] 28)
              replace BW := BW.alloc (by omega) (.cells #[fV q] 28)
              replace zb : wb.heap.size ≤ (wd.alloc (.cells #[fV q] 28)).heap.size := by rw [size_alloc]; omega
              clear hlB
              generalize wd.alloc (.cells #[fV q] 28) = wd13 at *
              refine wpAnyT_ready (rs := [4]) (by kernel_rfl) (by simp) ?_
              refine AllT.cons rfl (fun K hK => ?_) ?_
              · skip
                go_simp
                refine (HKC.out x y _ HFX.out HFY.out).mono ?_; rintro e wz ⟨rfl, rfl⟩
                refine hK.out _ _ (fun h _ => h) ?_
                clear hK K
                repeat (first | simp only [List.getElem_toArray] | simp only [List.getElem_cons_succ] | simp only [List.getElem_cons_zero] | simp only [Act.put] | simp only [List.setIfInBounds_toArray] | simp only [List.set_cons_succ] | simp only [List.set_cons_zero])
                refine wpAnyT_ready (rs := [5]) (by kernel_rfl) (by simp) ?_
                refine AllT.cons rfl (fun K hK => ?_) ?_
                · skip
                  go_simp
                  refine hK.out _ _ (fun h _ => h.below' (below_alloc wd13 _) (by dsimp only; omega) (by dsimp only; omega) (by omega) (by omega)) ?_
                  clear hK K
                  repeat (first | simp only [List.getElem_toArray] | simp only [List.getElem_cons_succ] | simp only [List.getElem_cons_zero] | simp only [Act.put] | simp only [List.setIfInBounds_toArray] | simp only [List.set_cons_succ] | simp only [List.set_cons_zero])
                  have LA := own_one wd13 (w2.heap.size) (r x y) (by omega)
                  obtain ⟨lA, hlA⟩ : ∃ l, l = wd13.heap.size := ⟨_, rfl⟩
                  rw [← hlA] at LA ⊢
                  have qA : wb.heap.size ≤ lA := by omega
                  replace LB := LB.alloc (.cells #[fV (r x y)] 28)
                  replace GO0 := GO0.alloc (.cells #[fV (r x y)] 28)
                  replace GO1 := GO1.alloc (.cells #[fV (r x y)] 28)
                  replace BW := BW.alloc (by omega) (.cells #[fV (r x y)] 28)
                  replace zb : wb.heap.size ≤ (wd13.alloc (.cells #[fV (r x y)] 28)).heap.size := by rw [size_alloc]; omega
                  clear hlA
                  generalize wd13.alloc (.cells #[fV (r x y)] 28) = wd15 at *
                  refine wpAnyT_ready (rs := [6]) (by kernel_rfl) (by simp) ?_
                  refine AllT.cons rfl (fun K hK => ?_) ?_
                  · skip
                    refine elF_.app_step (f := fV) (fun _ => rfl) _ (by rfl) _ _ (by rfl) (w2.heap.size) (.slice E0 zs.length ca0) zs (by rfl) GO0 _ [(r x y)] (by rfl) LA.rd (by omega) (by simp; omega) (by omega) ?_
                    intro v' wd16 ho hg hbb hp
                    obtain ⟨g', c', rfl, -, -, -⟩ := ho.form (by simp)
                    refine hK.out _ _ (fun h _ => h.below' hbb (by dsimp only; omega) (by dsimp only; omega) (by omega) (by omega)) ?_
                    clear hK K
                    repeat (first | simp only [List.getElem_toArray] | simp only [List.getElem_cons_succ] | simp only [List.getElem_cons_zero] | simp only [Act.put] | simp only [List.setIfInBounds_toArray] | simp only [List.set_cons_succ] | simp only [List.set_cons_zero])
                    have OO := GO1.kept hg (apart_symm hap)
                    replace LB := LB.kept hg (.inr (fun e => (by have h9 := (HO.out.1.lt _ e.symm).2; simp at h9; omega)))
                    replace BW := BW.trans hbb
                    replace zb : wb.heap.size ≤ wd16.heap.size := Nat.le_trans zb hg.size
                    have hmid := Below.refl wd16.heap.size wd16
                    clear hbb
                    refine wpAnyT_ready (rs := [20]) (by kernel_rfl) (by simp) ?_
                    refine AllT.cons rfl (fun K hK => ?_) ?_
                    · skip
                      refine elF_.app_step (f := fV) (fun _ => rfl) _ (by rfl) _ _ (by rfl) (w2.heap.size) (.slice E1 cs.length ca1) cs (by rfl) OO _ [q] (by rfl) LB.rd (by omega) (by simp; omega) (by omega) ?_
                      intro v'' wd17 ho2 hg2 hbb2 hp2
                      obtain ⟨g'', c'', rfl, -, -, -⟩ := ho2.form (by simp)
                      refine hK.out _ _ (fun h _ => h.below' hbb2 (by dsimp only; omega) (by dsimp only; omega) (by omega) (by omega)) ?_
                      clear hK K
                      repeat (first | simp only [List.getElem_toArray] | simp only [List.getElem_cons_succ] | simp only [List.getElem_cons_zero] | simp only [Act.put] | simp only [List.setIfInBounds_toArray] | simp only [List.set_cons_succ] | simp only [List.set_cons_zero])
                      replace BW := BW.trans hbb2
                      clear hbb2
                      have hFG := rows_two GO0 GO1 hap ho hg hp hmid ho2 hg2 hp2
                      refine wpAnyT_takeY (i := 21) (v := ?_) rfl (by kernel_rfl) (by kernel_rfl) (by kernel_rfl) (fun _ _ _ h => h) (Or.inl ⟨by rfl, ?_⟩) ?_
                      rotate_left
                      · intro wq; first | (go_simp; done) | (go_simp; with_reducible rfl)
                      repeat (first | simp only [List.getElem_toArray] | simp only [List.getElem_cons_succ] | simp only [List.getElem_cons_zero] | simp only [Act.put] | simp only [List.setIfInBounds_toArray] | simp only [List.set_cons_succ] | simp only [List.set_cons_zero])
                      refine wpAnyT_takeY (i := 22) (v := ?_) rfl (by kernel_rfl) (by kernel_rfl) (by kernel_rfl) (fun _ _ _ h => h) (Or.inl ⟨by rfl, ?_⟩) ?_
                      rotate_left
                      · intro wq; first | (go_simp; done) | (go_simp; with_reducible rfl)
                      repeat (first | simp only [List.getElem_toArray] | simp only [List.getElem_cons_succ] | simp only [List.getElem_cons_zero] | simp only [Act.put] | simp only [List.setIfInBounds_toArray] | simp only [List.set_cons_succ] | simp only [List.set_cons_zero])
                      refine wpAnyT_done (by kernel_rfl) ?_ _
                      clear hmid zb
                      have HFG := Lib.hid hFG
                      have HO2 := Lib.hid ho2
                      clear hFG ho2 ho hg hp hg2 hp2 OO GO0 GO1
                      go_wp2
                      go_roundw
                      case rel => exact ⟨k + 1, zs ++ [r x y], cs ++ [q], by omega, by go_num, (by have h := HFG.out.1; rw [List.length_append] at h; exact h), (by have h := HO2.out; rw [List.length_append] at h; exact h), HFG.out.2, ⟨by rw [absl_app, hz.out.1, HSV.out]; simp [absL, HZA.out], by rw [absl_app, hz.out.2, HSC.out]; simp [absL, HQA.out]⟩, hb.trans BW⟩
                      case measure => simp [intOf]; omega
                    exact AllT.nil
                  exact AllT.nil
                exact AllT.nil
              exact AllT.nil
            exact AllT.nil
        · have hke : k = x2.length := by omega
          subst hke
          have HS0 := Lib.hid (fullP_succ (g := g) (ys := x2) HX.out)
          have HS1 := Lib.hid (fullP_succ (g := mulW) (ys := x3) HXC.out)
          have HL3 := Lib.hid HLEN2.out
          go_wp2
          go_roundw
          case rel => exact ⟨i + 1, zs, cs, by omega, by go_num, hO0, hO1, hap, ⟨by rw [HS0.out]; exact hz.out.1, by rw [HS1.out, HLEN2.out]; exact hz.out.2⟩, hb⟩
          case measure => simp [intOf]; omega
    · have hie : i = x0.length := by omega
      subst hie
      have HZ : Hid (absL zs = fullP g x0 x2 x0.length) := hz.out.1
      have HCS : Hid (absL cs = combC x1 x3) := by unfold Hid combC; rw [HLEN.out]; exact hz.out.2
      have hzl : zs.length = x0.length * x2.length := by rw [← absL_len2, HZ.out]; exact fullP_len _ _ _ _ (Nat.le_refl _)
      have hcl : cs.length = zs.length := by rw [hzl, ← absL_len2, hz.out.2, fullP_len _ _ _ _ (by rw [HLEN.out]; exact Nat.le_refl _), HLEN2.out]
      have hz1 : 1 ≤ zs.length := by rw [hzl]; exact Nat.mul_pos h1 h12
      have hz2 : zs.length ≤ 65536 := by rw [hzl]; exact Nat.le_trans (Nat.mul_le_mul h64 h642) (by decide)
      have HZL := Lib.hid hzl
      have HCL := Lib.hid hcl
      replace B1 := B1.below hb
      replace hT := below_to hT hb hT.size
      obtain ⟨EZ, cz, rfl, -, -⟩ := hO0.rd
      obtain ⟨EC, cc, rfl, -, -⟩ := hO1.rd
      have HRZ := Lib.hid hO0.rd
      have HRC := Lib.hid hO1.rd
      clear hO0 hO1 hap hz hb B0 B2 hlt0 hlt1 hlt2 HT2 hTz hzl hcl
      go_wp2_with fail
      refine (implGather_any _ _ zs cs hz1 hz2 HCL.out _ HRZ.out HRC.out).mono ?_
      rw [gat_words HZ.out, HCS.out]
      rintro e w6 ⟨u0, z0, u1, z1, rfl, o0, o1, ap, l0, l1, a0, a1, hb6⟩
      have hB := B1.below hb6
      have hT6 := below_to hT hb6 hT.size
      have hlt6 := B1.lt
      obtain ⟨E0, c0, rfl, -, -⟩ := o0.rd
      obtain ⟨E1, c1, rfl, -, -⟩ := o1.rd
      have HF := Lib.hid (fun u v => retSh_stored (w := w) (b := w.heap.size + 2) o0 o1 ap l0 l1 a0 a1 hT6 (by omega) hlt6 hT.size u v)
      clear o0 o1 ap a0 a1 l0 l1 hb6 hT6 B1 hT hlt6
      have r0 := hB.cell 0 _ rfl
      have r1 := hB.cell 1 _ rfl
      have f0 := hB.free 0
      have f1 := hB.free 1
      have HB := Lib.hid hB
      clear hB
      go_wp2
      refine bodyPost_ret (v := .tuple #[shV (.slice E0 z0.length c0) (.slice E1 z1.length c1), .bool (gatOk (gatW (fullP g x0 x2 x0.length)) (combC x1 x3))]) (by simp [results, Tryz.results29, go_sem, *]) rfl ?_
      unfold RetComb
      rw [Hok.out]
      exact HF.out _ _
end Go.Proofs.YtjajlddnhmbekaaGreat
