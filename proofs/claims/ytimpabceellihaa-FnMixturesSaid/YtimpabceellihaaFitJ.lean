/-
  Fitted mixtures: the walk of impl.fitRound.
-/
import Derived.Test.YtimpabceellihaaFitC
import Derived.Deep.DeepCutAuto
import Derived.Deep.RegionHeld3
namespace Go.Proofs.Ytimpabceellihaa
open Go.RowKit
attribute [local go_sem] run_fl_add run_fl_sub run_fl_mul run_fl_quo run_up_
/-- A cell that may be stored to. -/
structure Okst (w : World) (p : Addr) : Prop where
  cell : ∃ u, w.cell? p = some u
  free : w.frozen? p = false
theorem run_store_okst (P : Program) (w : World) (a : Addr) (m : Mode) (k : FloatKind) (b : Nat) (h : Okst w a) : (store a (.float k b) m).run P w = Result.ok () (w.setCell a (.float k b)) := by
  obtain ⟨⟨u, hu⟩, hf⟩ := h
  rw [run_store_float]
  unfold stored
  rw [hu, hf]
  rfl
attribute [local go_sem] run_store_okst
theorem okst_drew {w : World} {p : Addr} (h : Okst w p) : Okst w.drew p := ⟨h.cell, h.free⟩
theorem okst_drewN {w : World} {p : Addr} {n : Nat} (h : Okst w p) : Okst (w.drewN n) p := ⟨h.cell, h.free⟩
theorem okst_set {w : World} {p q : Addr} {u : Value} (h : Okst w p) : Okst (w.setCell q u) p := by
  obtain ⟨⟨x, hx⟩, hf⟩ := h
  refine ⟨?_, by rw [World.frozen?_setCell]; exact hf⟩
  by_cases e : q = p
  · subst e; exact ⟨_, World.cell?_setCell_same _ _ _ hx⟩
  · exact ⟨x, by rw [World.cell?_setCell_other _ _ _ _ e]; exact hx⟩

theorem elFF_ : Elem Try.prog 63 22 (.slice none 0 0) 24 := ⟨Try.underlying63, by kernel_rfl, rfl⟩
/-- The first j entries are made anew. -/
def updTo (f : Nat → Option Nat) (l : List (Option Nat)) (j : Nat) : List (Option Nat) := (List.range j).map f ++ l.drop j
theorem updTo_zero (f : Nat → Option Nat) (l : List (Option Nat)) : updTo f l 0 = l := by simp [updTo]
theorem updTo_end (f : Nat → Option Nat) {l : List (Option Nat)} {n : Nat} (h : l.length = n) : updTo f l n = fL f n := by
  subst h
  simp [updTo, fL]
theorem updTo_set (f : Nat → Option Nat) {l : List (Option Nat)} {j : Nat} (h : j < l.length) : (updTo f l j).set j (f j) = updTo f l (j + 1) := by
  unfold updTo
  rw [List.set_append_right _ _ (by simp)]
  simp only [List.length_map, List.length_range, Nat.sub_self]
  obtain ⟨x, t, e⟩ : ∃ x t, l.drop j = x :: t := by
    cases hd : l.drop j with
    | nil => rw [List.drop_eq_nil_iff] at hd; omega
    | cons x t => exact ⟨x, t, rfl⟩
  have e2 : l.drop (j + 1) = t := by rw [← List.drop_drop, e]; rfl
  rw [e, e2, List.set_cons_zero, List.range_succ]
  simp
theorem updTo_keep (f : Nat → Option Nat) {l : List (Option Nat)} {j : Nat} (h : l[j]? = some (f j)) : updTo f l (j + 1) = updTo f l j := by
  unfold updTo
  have hj := lt_of_get h
  have e : l.drop j = f j :: l.drop (j + 1) := by rw [List.drop_eq_getElem_cons hj]; rw [List.getElem?_eq_getElem hj] at h; rw [Option.some.inj h]
  rw [e, List.range_succ]
  simp

def nxt (j k i : Nat) : Nat := if k < j then i + 1 else i
theorem own_at {w : World} {base g n c : Nat} {ys : List Nat} (h : Own fV 39 w base (.slice (some ⟨g, 0, none⟩) n c) ys) {j y : Nat} (hy : ys[j]? = some y) : w.cell? ⟨g, j, none⟩ = some (fV y) := by
  obtain ⟨A, cap, e, _, hA⟩ := h.rd
  obtain ⟨ad, e2, _, hc⟩ := hA j y hy
  cases e
  cases e2
  rw [Addr.add_lit, Nat.zero_add] at hc
  exact hc
theorem own_free {w : World} {base g n c : Nat} {ys : List Nat} (h : Own fV 39 w base (.slice (some ⟨g, 0, none⟩) n c) ys) (j : Nat) : w.frozen? ⟨g, j, none⟩ = false := by
  obtain ⟨A, cap, e, -, -⟩ := h.rd
  cases e
  exact World.ownsRow.frozenAt (show w.ownsRow base 39 1 (.slice (some ⟨g, 0, none⟩) ys.length c) ys.length (ys.map fV) from h) j
theorem cols_next {x0 x1 x2 xs : List Nat} {cs : List (List Nat)} {i j y q : Nat} {c : List Nat} (h : ∀ (k : Nat) (c : List Nat), cs[k]? = some c → absL c = fCol x0 x1 x2 xs k (nxt j k i)) (hc : cs[j]? = some c) (hy : xs[i]? = some y) (hq : absF .f32 q = fShr x0 x1 x2 j y) :
    ∀ (k : Nat) (d : List Nat), (cs.set j (c ++ [q]))[k]? = some d → absL d = fCol x0 x1 x2 xs k (nxt (j + 1) k i) := by
  intro k d hd
  rw [List.getElem?_set] at hd
  by_cases e : j = k
  · subst e
    rw [if_pos rfl, if_pos (lt_of_get hc)] at hd
    cases hd
    have h0 := h j c hc
    unfold nxt at h0 ⊢
    rw [if_neg (by omega)] at h0
    rw [if_pos (by omega), absL_append', h0, fCol_succ hy]
    simp [absL, hq]
  · rw [if_neg e] at hd
    have h0 := h k d hd
    unfold nxt at h0 ⊢
    by_cases hk : k < j
    · rw [if_pos hk] at h0; rw [if_pos (by omega)]; exact h0
    · rw [if_neg hk] at h0; rw [if_neg (by omega)]; exact h0

theorem own_put {w : World} {base g n c : Nat} {ys : List Nat} (h : Own fV 39 w base (.slice (some ⟨g, 0, none⟩) n c) ys) (i x : Nat) : Own fV 39 (w.setCell ⟨g, i, none⟩ (fV x)) base (.slice (some ⟨g, 0, none⟩) n c) (ys.set i x) := by
  obtain ⟨A, cap, e, -, -⟩ := h.rd
  cases e
  have h' : w.ownsRow base 39 1 (.slice (some ⟨g, 0, none⟩) ys.length c) ys.length (ys.map fV) := h
  have h2 := (World.ownsRow.stored (w := w) h' i (fV x)).1
  rw [← List.map_set] at h2
  show World.ownsRow _ base 39 1 (.slice (some ⟨g, 0, none⟩) ys.length c) (ys.set i x).length ((ys.set i x).map fV)
  rw [List.length_set]
  exact h2
theorem Cols.put {w : World} {base G : Nat} {vs : List Value} {cs : List (List Nat)} {k g n c : Nat} {ys : List Nat} (h : Cols w base G vs cs) (hv : vs[k]? = some (.slice (some ⟨g, 0, none⟩) n c)) (hc : cs[k]? = some ys) (i x : Nat) :
    Cols (w.setCell ⟨g, i, none⟩ (fV x)) base G vs (cs.set k (ys.set i x)) := by
  have hn : g ≠ G := fun e => h.nb k _ hv (by rw [e]; rfl)
  refine ⟨h.box.other hn _, by rw [List.length_set]; exact h.len, fun j v d h1 h2 => ?_, h.nb, h.ap⟩
  rw [List.getElem?_set] at h2
  by_cases e : k = j
  · subst e
    rw [if_pos rfl, if_pos (lt_of_get hc)] at h2
    cases h2
    rw [hv] at h1
    cases h1
    exact own_put (h.own k _ _ hv hc) i x
  · rw [if_neg e] at h2
    refine Own.other (h.own j v d h1 h2) (fun e2 => ?_) _
    rcases h.ap k j _ v e hv h1 with h3 | h3
    · cases h3
    · exact h3 e2.symm
section
variable {x0 x1 x2 xs cj : List Nat} {j n : Nat}
theorem absl_set (xs : List Nat) (i x : Nat) : absL (xs.set i x) = (absL xs).set i (absF .f32 x) := by simp [absL, List.map_set]
theorem part_big (hn : absF .f32 n = fN x0 x1 x2 xs j xs.length) {b : Bool} (h : (FloatKind.f32.format.order n 981668463 == some .gt) = b) : fBig x0 x1 x2 xs j = b := by
  unfold fBig bigA
  rw [← hn, ← ord_abs]
  exact h
theorem part_W {q : Nat} (hn : absF .f32 n = fN x0 x1 x2 xs j xs.length) (h : fBig x0 x1 x2 xs j = true) (hq : absF .f32 q = ptW (absF .f32 n) xs.length) : absF .f32 q = fW x0 x1 x2 xs j := by
  unfold fW
  rw [if_pos h, hq, hn]
theorem part_M {q : Nat} (hc : absL cj = fCol x0 x1 x2 xs j xs.length) (hn : absF .f32 n = fN x0 x1 x2 xs j xs.length) (h : fBig x0 x1 x2 xs j = true) (hq : absF .f32 q = ptM (dotTo cj xs xs.length) (absF .f32 n)) : absF .f32 q = fM x0 x1 x2 xs j := by
  unfold fM fMean
  rw [if_pos h, hq, hn, col_dot hc _ (Nat.le_refl _)]
theorem part_S {q : Nat} (hc : absL cj = fCol x0 x1 x2 xs j xs.length) (hn : absF .f32 n = fN x0 x1 x2 xs j xs.length) (h : fBig x0 x1 x2 xs j = true) (hq : absF .f32 q = ptS (wideTo cj xs (ptM (dotTo cj xs xs.length) (absF .f32 n)) xs.length) (absF .f32 n)) : absF .f32 q = fS x0 x1 x2 xs j := by
  have hm : ptM (dotTo cj xs xs.length) (absF .f32 n) = fMean x0 x1 x2 xs j := by unfold fMean; rw [hn, col_dot hc _ (Nat.le_refl _)]
  unfold fS
  rw [if_pos h, hq, hm, hn, col_wide hc _ (Nat.le_refl _)]
theorem upd_keep {l ys : List Nat} {f : Nat → Option Nat} (h : absL ys = updTo f (absL l) j) (hj : j < l.length) (hf : f j = absF .f32 (l.getD j 0)) : absL ys = updTo f (absL l) (j + 1) := by
  obtain ⟨x, hx⟩ := get_of_lt hj
  rw [h]
  refine (updTo_keep f ?_).symm
  unfold absL
  rw [List.getElem?_map, hx, hf, getD_of hx]
  rfl
theorem upd_put {l ys : List Nat} {f : Nat → Option Nat} {q : Nat} (h : absL ys = updTo f (absL l) j) (hj : j < l.length) (hq : absF .f32 q = f j) : absL (ys.set j q) = updTo f (absL l) (j + 1) := by
  rw [absl_set, h, hq]
  exact updTo_set f (by simpa [absL] using hj)
end
def RetRound (x0 x1 x2 xs : List Nat) (w : World) (e : Ending) (w' : World) : Prop :=
  ∃ A0 c0 A1 c1 A2 c2 y0 y1 y2, e = .returned (.tuple #[mxV (.slice A0 y0.length c0) (.slice A1 y1.length c1) (.slice A2 y2.length c2), .bool (fOk x0 x1 x2 xs)]) ∧
    Own fV 39 w' w.heap.size (.slice A0 y0.length c0) y0 ∧ Own fV 39 w' w.heap.size (.slice A1 y1.length c1) y1 ∧ Own fV 39 w' w.heap.size (.slice A2 y2.length c2) y2 ∧
    (∀ (i j : Nat) (u v : Value), i ≠ j → [Value.slice A0 y0.length c0, .slice A1 y1.length c1, .slice A2 y2.length c2][i]? = some u → [Value.slice A0 y0.length c0, .slice A1 y1.length c1, .slice A2 y2.length c2][j]? = some v → u.ownBlock = none ∨ u.ownBlock ≠ v.ownBlock) ∧
    (fOk x0 x1 x2 xs = true → absL y0 = fVs x0 x1 x2 xs ∧ absL y1 = fMs x0 x1 x2 xs ∧ absL y2 = fSs x0 x1 x2 xs) ∧ Below w.heap.size w w'
theorem ret_round_no {x0 x1 x2 xs : List Nat} {w w' : World} (h : fOk x0 x1 x2 xs = false) (hb : Below w.heap.size w w') : RetRound x0 x1 x2 xs w (.returned (.tuple #[mxV (.slice none 0 0) (.slice none 0 0) (.slice none 0 0), .bool false])) w' :=
  ⟨none, 0, none, 0, none, 0, [], [], [], by rw [h]; rfl, Own.nil, Own.nil, Own.nil, fun i j u v hij hi _ => by rcases i with _ | _ | _ | i <;> simp at hi <;> subst hi <;> exact .inl rfl, fun e => (by rw [h] at e; cases e), hb⟩

set_option maxRecDepth 10000 in
set_option maxHeartbeats 3200000 in
theorem fitRound_any (s0 : Value) (x0 : List Nat) (s1 : Value) (x1 : List Nat) (s2 : Value) (x2 : List Nat) (v : Value) (xs : List Nat) (hmx : mixB x0 x1 x2 = true) (hsx : sampB xs 2 = true) (w : World) (hr0 : Rd fV w s0 x0) (hr1 : Rd fV w s1 x1) (hr2 : Rd fV w s2 x2) (hr3 : Rd fV w v xs) :
    Calls Try.prog 33 #[mxV s0 s1 s2, v] w (RetRound x0 x1 x2 xs w) := by
  obtain ⟨hk, hl1, hl2⟩ := mixB_len hmx
  obtain ⟨hx2, hx256⟩ := samp_len hsx
  have HMX := Lib.hid hmx
  have HSX := Lib.hid hsx
  have HL1 := Lib.hid hl1
  have HL2 := Lib.hid hl2
  have hk1 : 1 ≤ x0.length := hk.1
  have hk8 : x0.length ≤ 8 := hk.2
  clear hmx hsx hk
  have HR0 := Lib.hid hr0
  obtain ⟨A0, cap0, rfl, hcap0, hA0⟩ := hr0
  have HA0 := Lib.hid hA0
  clear hA0
  have HR1 := Lib.hid hr1
  obtain ⟨A1, cap1, rfl, hcap1, hA1⟩ := hr1
  have HA1 := Lib.hid hA1
  clear hA1
  have HR2 := Lib.hid hr2
  obtain ⟨A2, cap2, rfl, hcap2, hA2⟩ := hr2
  have HA2 := Lib.hid hA2
  clear hA2
  have HR3 := Lib.hid hr3
  obtain ⟨A3, cap3, rfl, hcap3, hA3⟩ := hr3
  have HA3 := Lib.hid hA3
  clear hA3
  rw [hl1] at hcap1 HR1
  rw [hl2] at hcap2 HR2
  rw [hl1, hl2]
  clear hl1 hl2
  have hmk := fun W => elFF_.mk_eq x0.length (x0.length : Int) rfl (by omega) (by omega) W
  go_enter Try.func33, Try.ntmps33
  go_upto_region 1 with fail
  have B0 : BoxAt ((w.alloc (.cells ([.slice A0 x0.length cap0, .slice A1 x0.length cap1, .slice A2 x0.length cap2] : List Value).toArray 26)).alloc (.cells ([.slice none 0 0, .slice none 0 0, .slice none 0 0] : List Value).toArray 26)) w.heap.size [.slice A0 x0.length cap0, .slice A1 x0.length cap1, .slice A2 x0.length cap2] := (BoxAt.new w _ _).alloc _
  have B1 : BoxAt ((w.alloc (.cells ([.slice A0 x0.length cap0, .slice A1 x0.length cap1, .slice A2 x0.length cap2] : List Value).toArray 26)).alloc (.cells ([.slice none 0 0, .slice none 0 0, .slice none 0 0] : List Value).toArray 26)) (w.heap.size + 1) [.slice none 0 0, .slice none 0 0, .slice none 0 0] := by
    have := BoxAt.new (w.alloc (.cells ([.slice A0 x0.length cap0, .slice A1 x0.length cap1, .slice A2 x0.length cap2] : List Value).toArray 26)) [.slice none 0 0, .slice none 0 0, .slice none 0 0] 26
    rwa [size_alloc] at this
  have hT : Below w.heap.size w ((w.alloc (.cells ([.slice A0 x0.length cap0, .slice A1 x0.length cap1, .slice A2 x0.length cap2] : List Value).toArray 26)).alloc (.cells ([.slice none 0 0, .slice none 0 0, .slice none 0 0] : List Value).toArray 26)) := ((Below.refl _ _).alloc (Nat.le_refl _) _).alloc (by simp) _
  have hz : w.heap.size + 2 ≤ ((w.alloc (.cells ([.slice A0 x0.length cap0, .slice A1 x0.length cap1, .slice A2 x0.length cap2] : List Value).toArray 26)).alloc (.cells ([.slice none 0 0, .slice none 0 0, .slice none 0 0] : List Value).toArray 26)).heap.size := by simp
  generalize hg : (w.alloc _).alloc _ = W0 at *
  clear hg
  have c0 := B0.cell 0 _ rfl
  have c1 := B0.cell 1 _ rfl
  have c2 := B0.cell 2 _ rfl
  go_upto_region 2 with fail
  clear c0 c1 c2 hmk
  have HC : Hid (Cols (W0.alloc (.cells (Array.replicate x0.length (.slice none 0 0)) 22)) (w.heap.size + 2) W0.heap.size (List.replicate x0.length (.slice none 0 0)) (List.replicate x0.length [])) := (Cols.new W0 x0.length 22).base_ (by omega)
  replace B0 := B0.alloc (.cells (Array.replicate x0.length (.slice none 0 0)) 22)
  replace B1 := B1.alloc (.cells (Array.replicate x0.length (.slice none 0 0)) 22)
  replace hT := hT.alloc hT.size (.cells (Array.replicate x0.length (.slice none 0 0)) 22)
  have hz1 : W0.heap.size < (W0.alloc (.cells (Array.replicate x0.length (.slice none 0 0)) 22)).heap.size := by simp
  obtain ⟨G, hG⟩ : ∃ G, G = W0.heap.size := ⟨_, rfl⟩
  rw [← hG] at hz hz1 HC ⊢
  clear hG
  generalize W0.alloc (.cells (Array.replicate x0.length (.slice none 0 0)) 22) = W1 at *
  go_wp2
  go_loopw [22] (fun si wr => ∃ (i : Nat) (vs : List Value) (cs : List (List Nat)), i ≤ xs.length ∧ si = .int .i64 i ∧ cs.length = x0.length ∧ Hid (Cols wr (w.heap.size + 2) G vs cs) ∧ Hid (∀ (k : Nat) (c : List Nat), cs[k]? = some c → absL c = fCol x0 x1 x2 xs k i) ∧ Hid (fUp x0 x1 x2 xs i = true) ∧ BoxAt wr w.heap.size [.slice A0 x0.length cap0, .slice A1 x0.length cap1, .slice A2 x0.length cap2] ∧ BoxAt wr (w.heap.size + 1) [.slice none 0 0, .slice none 0 0, .slice none 0 0] ∧ Below w.heap.size w wr ∧ G < wr.heap.size) (fun si _ => xs.length - (intOf si).toNat)
  case atStart =>
    refine ⟨0, _, _, by omega, rfl, by simp, HC.out, ?_, rfl, B0, B1, hT, hz1⟩
    intro k c hc
    rw [(List.mem_replicate.1 (List.mem_of_getElem? hc)).2]
    simp [absL, fCol]
  case round =>
    clear B0 B1 hT hz1 HC
    obtain ⟨i, vs, cs, hi, rfl, hcl, hC, hcol, hup, B0, B1, hT, hG⟩ := hrel
    by_cases hlt : i < xs.length
    · obtain ⟨y, hy⟩ := get_of_lt hlt
      obtain ⟨ad, rfl, hbl, hcell⟩ := HA3.out i y hy
      have e0 : wr.cell? (ad.add i) = some (fV y) := by rw [hT.cell (by rw [add_block]; exact hbl)]; exact hcell
      have HY := Lib.hid hy
      have HD := Lib.hid (denseOk_of HMX.out (samp_fin HSX.out hy))
      clear hy hcell
      have d0 := B0.cell 0 _ rfl
      have d1 := B0.cell 1 _ rfl
      have d2 := B0.cell 2 _ rfl
      go_wp2_with fail
      refine (densities_any _ x0 _ x1 _ x2 (by omega) y HD.out _ (HR0.out.below hT) (HR1.out.below hT) (HR2.out.below hT)).mono ?_
      rintro e w2 ⟨dv, ds, rfl, oD, hdl, hds, hb⟩
      have hSd := hC.out.side oD
      obtain ⟨g, cd, rfl, -, -, -⟩ := oD.form (by omega)
      have hRD := oD.rd
      rw [hdl] at oD hSd hRD ⊢
      have HOD := Lib.hid oD
      have HRD := Lib.hid hRD
      have HDL := Lib.hid hdl
      have HSD := Lib.hid hSd
      clear oD hSd hRD d0 d1 d2 e0
      go_wp2_with fail
      refine (sum_any _ ds (by rw [HDL.out]; omega) _ HRD.out).mono ?_
      rintro e w3 ⟨b, rfl, hsum, n3, rfl⟩
      have HS : Hid (absF .f32 b = mixS x0 x1 x2 y) := Lib.hid (by rw [hsum, hds]; rfl)
      have HDS := Lib.hid hds
      clear hsum hds hdl HRD
      go_wp2_with fail
      refine (arePositive_any _ [b] (by simp) _ (rd_one fV _ b 39)).mono ?_
      rintro e w4 ⟨rfl, n4, rfl⟩
      have hb4 : Below w2.heap.size w2 (((w2.drewN n3).alloc (.cells #[fV b] 39)).drewN n4) := below_drewN_ ((below_drewN_ (Below.refl _ _)).alloc (Nat.le_refl _) _)
      replace HOD := Lib.hid (HOD.out.below hb4)
      have hb5 := below_to hb hb4 hb.size
      clear hb4 hb
      replace hC := Lib.hid (hC.out.below hb5)
      replace B0 := B0.below hb5
      replace B1 := B1.below hb5
      replace hT := below_to hT hb5 hT.size
      replace hG := Nat.lt_of_lt_of_le hG hb5.size
      clear hb5
      generalize ((w2.drewN n3).alloc (.cells #[fV b] 39)).drewN n4 = w4 at *
      cases hab : [b].all aboveB
      · have Ho := Lib.hid (fUp_no HY.out (by rw [← HS.out, ← above_abs]; simpa using hab))
        clear hab
        have d0 := B1.cell 0 _ rfl
        have d1 := B1.cell 1 _ rfl
        have d2 := B1.cell 2 _ rfl
        have f0 := B1.free 0
        have f1 := B1.free 1
        have f2 := B1.free 2
        have HT := Lib.hid hT
        clear hT
        go_wp2
        refine bodyPost_ret (v := .tuple #[mxV (.slice none 0 0) (.slice none 0 0) (.slice none 0 0), .bool false]) (by simp [results, Try.results33, go_sem, *]) rfl ?_
        exact ret_round_no Ho.out (((HT.out.setCell (by simp) _).setCell (by simp) _).setCell (by simp) _)
      have HAB : Hid (aboveA (mixS x0 x1 x2 y) = true) := Lib.hid (by rw [← HS.out, ← above_abs]; simpa using hab)
      clear hab
      have hcol0 : Hid (∀ (k : Nat) (c : List Nat), cs[k]? = some c → absL c = fCol x0 x1 x2 xs k (nxt 0 k i)) := hcol
      clear hcol
      go_wp2
      go_loopw [38] (fun sj wq => ∃ (j : Nat) (vs : List Value) (cs : List (List Nat)), j ≤ x0.length ∧ sj = .int .i64 j ∧ cs.length = x0.length ∧ Hid (Cols wq (w.heap.size + 2) G vs cs) ∧ Hid (∀ (k : Nat) (c : List Nat), cs[k]? = some c → absL c = fCol x0 x1 x2 xs k (nxt j k i)) ∧ Hid (Own fV 39 wq wr.heap.size (.slice (some ⟨g, 0, none⟩) x0.length cd) ds) ∧ Hid (Side vs G (.slice (some ⟨g, 0, none⟩) x0.length cd)) ∧ BoxAt wq w.heap.size [.slice A0 x0.length cap0, .slice A1 x0.length cap1, .slice A2 x0.length cap2] ∧ BoxAt wq (w.heap.size + 1) [.slice none 0 0, .slice none 0 0, .slice none 0 0] ∧ Below w.heap.size w wq ∧ G < wq.heap.size) (fun sj _ => x0.length - (intOf sj).toNat)
      case atStart => exact ⟨0, vs, cs, by omega, rfl, hcl, hC, hcol0, HOD, HSD, B0, B1, hT, hG⟩
      case round =>
        clear B0 B1 hT hG hC hcol0 HOD HSD
        obtain ⟨j, vs, cs, hj, rfl, hcl, hC, hcol, HOD, HSD, B0, B1, hT, hG⟩ := hrel
        by_cases hlj : j < x0.length
        · obtain ⟨d, hd⟩ := get_of_lt (xs := ds) (k := j) (by rw [HDL.out]; exact hlj)
          have e0 := own_at HOD.out hd
          have HDD : Hid (absF .f32 d = dAt x0 x1 x2 y j) := Lib.hid (by
            have h1 : (absL ds)[j]? = some (absF .f32 d) := by unfold absL; rw [List.getElem?_map, hd]; rfl
            rw [HDS.out] at h1
            unfold dList at h1
            rw [List.getElem?_map, List.getElem?_range hlj] at h1
            exact (Option.some.inj h1).symm)
          clear hd
          obtain ⟨vj, cj, hvj, hcj, oj, e1⟩ := hC.out.at_ (j := j) (by omega)
          have HVJ := Lib.hid hvj
          have HCJ := Lib.hid hcj
          have HOJ := Lib.hid oj
          have hcl2 : cj.length ≤ 256 := by
            have h1 := congrArg List.length (hcol.out j cj hcj)
            unfold nxt at h1
            rw [if_neg (by omega), fCol_len hi] at h1
            have : cj.length = i := by simpa [absL] using h1
            omega
          clear hvj hcj oj
          have hzq := hT.size
          have hzB := B1.lt
          go_wp2_with (at_builtin; go_loud (refine elF_.app (fun _ => rfl) _ rfl _ _ rfl (w.heap.size + 2) _ cj rfl (Own.alloc HOJ.out _) _ _ rfl (rd_one fV _ _ _) (by omega) (by simp; omega) (by simp; omega) ?_))
          intro v' w' ho hg hbb hp
          obtain ⟨E', cE, rfl, -, -⟩ := ho.rd
          have hbn : Below wr.heap.size wr (wr.drewN (flN .quo .f32 d b)) := below_drewN_ (Below.refl _ _)
          have HC2 := Lib.hid (hC.out.below hbn)
          have HOD2 := Lib.hid (HOD.out.below hbn)
          have hzn : (wr.drewN (flN .quo .f32 d b)).heap.size = wr.heap.size := rfl
          generalize wr.drewN (flN .quo .f32 d b) = wn at *
          generalize hqq : flR .quo .f32 d b _ = q at *
          have hqa : absF .f32 q = fShr x0 x1 x2 j y := by rw [← hqq, abs_flR .quo rfl, HDD.out, HS.out]; rfl
          have HN := Lib.hid (cols_next hcol.out HCJ.out HY.out hqa)
          have k1 := HC2.out.below (below_alloc wn (.cells #[fV q] 39))
          rw [← hzn, ← size_alloc wn (.cells #[fV q] 39)] at hp
          have HC' := Lib.hid (k1.app HVJ.out HCJ.out ho hg hp)
          have HO' := Lib.hid (HSD.out.kept (v' := .slice E' (cj ++ [q]).length cE) (Own.alloc HOD2.out (.cells #[fV q] 39)) HVJ.out hg)
          have HS' := Lib.hid (HSD.out.app (w := wn.alloc (.cells #[fV q] 39)) (Own.alloc HOD2.out (.cells #[fV q] 39)) HVJ.out hp)
          have kb := k1.box.kept hg (k1.nb j vj HVJ.out)
          have e2 := kb.cell j vj HVJ.out
          have f2 := kb.free j
          have hBB : Below (w.heap.size + 2) wr (w'.setCell ⟨G, j, none⟩ (.slice E' (cj ++ [q]).length cE)) := (((hbn.mono (by omega)).trans ((below_alloc wn (.cells #[fV q] 39)).mono (by omega))).trans hbb).setCell (p := ⟨G, j, none⟩) hz _
          have HBB := Lib.hid hBB
          clear hg hp ho kb k1 hbb hBB e0 hqq hqa e1 hbn HC2 HOD2 hzn
          simp only [List.length_append, List.length_cons, List.length_nil, Nat.zero_add] at *
          go_wp2
          go_roundw
          case rel => exact ⟨j + 1, _, _, by omega, by go_num, by simp [hcl], HC'.out, HN.out, HO'.out, HS'.out, B0.below' HBB.out (by omega) (by omega), B1.below' HBB.out (by omega) (by omega), hT.trans (HBB.out.mono (by omega)), Nat.lt_of_lt_of_le hG HBB.out.size⟩
          case measure => simp [intOf]; omega
        · have hje : j = x0.length := by omega
          have HN : Hid (∀ (k : Nat) (c : List Nat), cs[k]? = some c → absL c = fCol x0 x1 x2 xs k (i + 1)) := fun k c hc => by
            have h1 := hcol.out k c hc
            unfold nxt at h1
            rw [if_pos (by have := lt_of_get hc; omega)] at h1
            exact h1
          have HU := Lib.hid (show fUp x0 x1 x2 xs (i + 1) = true by rw [fUp_succ HY.out, hup.out, HAB.out]; rfl)
          clear hje
          go_wp2
          go_roundw
          case rel => exact ⟨i + 1, vs, cs, by omega, by go_num, hcl, hC, HN, HU, B0, B1, hT, hG⟩
          case measure => simp [intOf]; omega
    · have hie : i = xs.length := by omega
      subst hie
      have d0 := B0.cell 0 _ rfl
      have d1 := B0.cell 1 _ rfl
      have d2 := B0.cell 2 _ rfl
      have hlt0 := B0.lt
      go_upto_region 15 with fail
      go_cut [13] (fun sp wx => Made x0 x1 x2 wr wx sp)
      case first =>
        go_region_held3 (fun w' => w'.cell? ⟨w.heap.size, 0, none⟩ = some (.slice A0 x0.length cap0) ∧ w'.cell? ⟨w.heap.size, 1, none⟩ = some (.slice A1 x0.length cap1) ∧ w'.cell? ⟨w.heap.size, 2, none⟩ = some (.slice A2 x0.length cap2))
          (first
            | go_keep
            | (refine ⟨?_, ?_, ?_⟩ <;> (rw [Below.cell (hcC.alloc hcC.size _) (by dsimp only; omega)]; assumption))
            | (refine ⟨?_, ?_, ?_⟩ <;> (rw [Below.cell (hcC) (by dsimp only; omega)]; assumption))
            | (refine ⟨?_, ?_, ?_⟩ <;> (rw [Below.cell (hcB.alloc hcB.size _) (by dsimp only; omega)]; assumption))
            | (refine ⟨?_, ?_, ?_⟩ <;> (rw [Below.cell (hcB) (by dsimp only; omega)]; assumption))
            | (refine ⟨?_, ?_, ?_⟩ <;> (rw [Below.cell (hcA.alloc hcA.size _) (by dsimp only; omega)]; assumption))
            | (refine ⟨?_, ?_, ?_⟩ <;> (rw [Below.cell (hcA) (by dsimp only; omega)]; assumption))
            | (refine ⟨?_, ?_, ?_⟩ <;> (rw [Below.cell (((hcC.setCell (p := ⟨wr.heap.size, 0, none⟩) (Nat.le_refl _) _).setCell (p := ⟨wr.heap.size, 1, none⟩) (Nat.le_refl _) _).setCell (p := ⟨wr.heap.size, 2, none⟩) (Nat.le_refl _) _) (by dsimp only; omega)]; assumption))
            | (refine ⟨?_, ?_, ?_⟩ <;> (rw [Below.cell (((hcC.setCell (p := ⟨wA.heap.size, 0, none⟩) (hcA.size) _).setCell (p := ⟨wA.heap.size, 1, none⟩) (hcA.size) _).setCell (p := ⟨wA.heap.size, 2, none⟩) (hcA.size) _) (by dsimp only; omega)]; assumption))
            | (refine ⟨?_, ?_, ?_⟩ <;> (rw [Below.cell (((hcC.setCell (p := ⟨wB.heap.size, 0, none⟩) (hcB.size) _).setCell (p := ⟨wB.heap.size, 1, none⟩) (hcB.size) _).setCell (p := ⟨wB.heap.size, 2, none⟩) (hcB.size) _) (by dsimp only; omega)]; assumption)))
          (first
            | (go_at_call 32; refine (clone_any _ x0 (by omega) _ ?_).mono ?_; (exact HR0.out.below (by first | exact hT.drew | exact (hT.alloc hT.size _).drew | exact hT.drew.alloc hT.size _)); rintro e wA ⟨vA, rfl, oA, hbA⟩; obtain ⟨gA, kA, rfl, -, -⟩ := oA.rd; have hcA : Below wr.heap.size wr wA := (by first | exact below_to (Below.refl wr.heap.size wr).drew hbA (by simp) | exact below_to ((Below.refl wr.heap.size wr).alloc (Nat.le_refl _) _).drew hbA (by simp)); (try have KA : BoxAt wA wr.heap.size [.slice none 0 0, .slice none 0 0, .slice none 0 0] := ((BoxAt.new wr _ _).below (Below.refl _ _).drew).below hbA))
            | (go_at_call 32; refine (clone_any _ x1 (by have := HL1.out; omega) _ ?_).mono ?_; (exact HR1.out.below (by first | exact hT.trans (hcA.mono hT.size) | exact (hT.trans (hcA.mono hT.size)).alloc (by have := hT.size; have := hcA.size; omega) _)); rintro e wB ⟨vB, rfl, oB, hbB⟩; obtain ⟨gB, kB, rfl, -, -⟩ := oB.rd; have hcB : Below wr.heap.size wr wB := (by first | exact below_to hcA hbB hcA.size | exact below_to (hcA.alloc hcA.size _) hbB (by have := hcA.size; simp; omega)); have hdB : Below wA.heap.size wA wB := (by first | exact hbB | exact below_to (below_alloc wA _) hbB (by simp)); (try first | (have KB := KA.below hbB) | (have KB : BoxAt wB wA.heap.size [.slice none 0 0, .slice none 0 0, .slice none 0 0] := (BoxAt.new wA _ _).below hbB)))
            | (go_at_call 32; refine (clone_any _ x2 (by have := HL2.out; omega) _ ?_).mono ?_; (exact HR2.out.below (by first | exact hT.trans (hcB.mono hT.size) | exact (hT.trans (hcB.mono hT.size)).alloc (by have := hT.size; have := hcB.size; omega) _)); rintro e wC ⟨vC, rfl, oC, hbC⟩; obtain ⟨gC, kC, rfl, -, -⟩ := oC.rd; have hcC : Below wr.heap.size wr wC := (by first | exact below_to hcB hbC hcB.size | exact below_to (hcB.alloc hcB.size _) hbC (by have := hcB.size; simp; omega)); have hdC : Below wB.heap.size wB wC := (by first | exact hbC | exact below_to (below_alloc wB _) hbC (by simp)); (try first | (have KC := KB.below hbC) | (have KC : BoxAt wC wB.heap.size [.slice none 0 0, .slice none 0 0, .slice none 0 0] := (BoxAt.new wB _ _).below hbC)); (try (have k0 := KC.cell 0 _ rfl; have k1 := KC.cell 1 _ rfl; have k2 := KC.cell 2 _ rfl; have k3 := KC.free 0; have k4 := KC.free 1; have k5 := KC.free 2))))
        all_goals (go_wp2_with fail)
        all_goals go_meet
        all_goals
          first
          | exact made_set (S := wr.heap.size) KC oA oB oC hdB hdC (by first | exact Nat.le_refl _ | (simp; done) | (simp; omega)) (by first | exact Nat.le_refl _ | (simp; done) | (simp; omega)) (by first | exact Nat.le_refl _ | (simp; done) | (simp; omega)) hcA.size hcC (Nat.le_refl _) (.inl ⟨by simp, KA.lt⟩)
          | exact made_set (S := wA.heap.size) KC oA oB oC hdB hdC (by first | exact Nat.le_refl _ | (simp; done) | (simp; omega)) (by first | exact Nat.le_refl _ | (simp; done) | (simp; omega)) (by first | exact Nat.le_refl _ | (simp; done) | (simp; omega)) hcA.size hcC (hcA.size) (.inr (.inl ⟨Nat.le_refl _, by simp, KB.lt⟩))
          | exact made_set (S := wB.heap.size) KC oA oB oC hdB hdC (by first | exact Nat.le_refl _ | (simp; done) | (simp; omega)) (by first | exact Nat.le_refl _ | (simp; done) | (simp; omega)) (by first | exact Nat.le_refl _ | (simp; done) | (simp; omega)) hcA.size hcC (hcB.size) (.inr (.inr ⟨Nat.le_refl _, by simp⟩))
          | exact made_last _ oA oB oC hdB hdC (by first | exact Nat.le_refl _ | (simp; done) | (simp; omega)) (by first | exact Nat.le_refl _ | (simp; done) | (simp; omega)) (by first | exact Nat.le_refl _ | (simp; done) | (simp; omega)) hcA.size hcC
      obtain ⟨w3, hwc⟩ : ∃ W, W = wc := ⟨_, rfl⟩
      subst hwc
      obtain ⟨S, ra, rb, rc, rfl, hM, hb, hS⟩ := hcut
      clear d0 d1 d2 hlt0
      have HLT : Hid (∀ (j : Nat) (u : Value), vs[j]? = some u → ∀ b, u.ownBlock = some b → b < wr.heap.size) := fun j u hu b hub => by
        obtain ⟨c, hc⟩ := get_of_lt (xs := cs) (k := j) (by rw [← hC.out.len]; exact lt_of_get hu)
        exact ((hC.out.own j u c hu hc).lt b hub).2
      replace hC := Lib.hid (hC.out.below hb)
      have hB1l := B1.lt
      replace B1 := B1.below hb
      replace hT := below_to hT hb hT.size
      have hDz := hb.size
      clear hb B0
      obtain ⟨D, hD⟩ : ∃ D, D = wr.heap.size := ⟨_, rfl⟩
      rw [← hD] at hM hS HLT hB1l hG hDz
      clear hD
      obtain ⟨ga, ca, rfl, -, hga, -⟩ := (hM.own 0 _ _ rfl rfl).form (by omega)
      obtain ⟨gb, cb, rfl, -, hgb, -⟩ := (hM.own 1 _ _ rfl rfl).form (by rw [HL1.out]; omega)
      obtain ⟨gc, cc, rfl, -, hgc, -⟩ := (hM.own 2 _ _ rfl rfl).form (by rw [HL2.out]; omega)
      rw [HL1.out, HL2.out] at hM
      have HM := Lib.hid hM
      clear hM
      go_wp2
      go_loopw [69] (fun sj wq => ∃ (j : Nat) (ya yb yc : List Nat), j ≤ x0.length ∧ sj = .int .i64 j ∧ Hid (Cols wq D S [.slice (some ⟨ga, 0, none⟩) x0.length ca, .slice (some ⟨gb, 0, none⟩) x0.length cb, .slice (some ⟨gc, 0, none⟩) x0.length cc] [ya, yb, yc]) ∧ Hid (ya.length = x0.length ∧ yb.length = x0.length ∧ yc.length = x0.length) ∧
        Hid (absL ya = updTo (fW x0 x1 x2 xs) (absL x0) j ∧ absL yb = updTo (fM x0 x1 x2 xs) (absL x1) j ∧ absL yc = updTo (fS x0 x1 x2 xs) (absL x2) j) ∧ Hid (Cols wq (w.heap.size + 2) G vs cs) ∧ BoxAt wq (w.heap.size + 1) [.slice none 0 0, .slice none 0 0, .slice none 0 0] ∧ Below w.heap.size w wq ∧ D ≤ wq.heap.size) (fun sj _ => x0.length - (intOf sj).toNat)
      case atStart => exact ⟨0, x0, x1, x2, by omega, rfl, HM.out, ⟨rfl, HL1.out, HL2.out⟩, ⟨(updTo_zero _ _).symm, (updTo_zero _ _).symm, (updTo_zero _ _).symm⟩, hC, B1, hT, hDz⟩
      case round =>
        clear B1 hT hDz hC HM
        obtain ⟨j, ya, yb, yc, hj, rfl, hM, hlen, habs, hC, B1, hT, hDz⟩ := hrel
        by_cases hlj : j < x0.length
        · obtain ⟨vj, cj, hvj, hcj, oj, e1⟩ := hC.out.at_ (j := j) (by omega)
          have hcolj := hcol.out j cj hcj
          have hcjl : cj.length = xs.length := by
            have h1 := congrArg List.length hcolj
            rw [fCol_len (Nat.le_refl _)] at h1
            simpa [absL] using h1
          have HVJ := Lib.hid hvj
          have HCJL := Lib.hid hcjl
          have HCOLJ := Lib.hid hcolj
          have HRJ := Lib.hid oj.rd
          clear hvj hcj oj hcolj hcjl
          go_wp2_with fail
          refine (sum_any _ cj (by rw [HCJL.out]; omega) _ HRJ.out).mono ?_
          rintro e w5 ⟨n, rfl, hn, m5, rfl⟩
          have HN : Hid (absF .f32 n = fN x0 x1 x2 xs j xs.length) := Lib.hid (by rw [hn, HCOLJ.out]; rfl)
          clear hn
          have hb5 : Below wr.heap.size wr (wr.drewN m5) := below_drewN_ (Below.refl _ _)
          replace hM := Lib.hid (hM.out.below hb5)
          replace hC := Lib.hid (hC.out.below hb5)
          replace HRJ := Lib.hid (HRJ.out.below hb5)
          replace B1 := B1.below hb5
          replace hT := below_to hT hb5 hT.size
          replace hDz := Nat.le_trans hDz hb5.size
          clear hb5 e1
          generalize wr.drewN m5 = w5 at *
          have e1 := hC.out.box.cell j vj HVJ.out
          cases hg : (FloatKind.f32.format.order n 981668463 == some .gt)
          · have HBG := Lib.hid (part_big HN.out hg)
            go_wp2
            go_roundw
            case rel =>
              refine ⟨j + 1, ya, yb, yc, by omega, by go_num, hM, hlen, ⟨upd_keep habs.out.1 hlj ?_, upd_keep habs.out.2.1 (by rw [HL1.out]; exact hlj) ?_, upd_keep habs.out.2.2 (by rw [HL2.out]; exact hlj) ?_⟩, hC, B1, hT, hDz⟩
              · unfold fW; rw [HBG.out]; rfl
              · unfold fM; rw [HBG.out]; rfl
              · unfold fS; rw [HBG.out]; rfl
            case measure => simp [intOf]; omega
          · have a0 := hM.out.box.cell 0 _ rfl
            have a1 := hM.out.box.cell 1 _ rfl
            have a2 := hM.out.box.cell 2 _ rfl
            have sa : ga ≠ S := fun e => hM.out.nb 0 _ rfl (by rw [e]; rfl)
            have sb : gb ≠ S := fun e => hM.out.nb 1 _ rfl (by rw [e]; rfl)
            have sc : gc ≠ S := fun e => hM.out.nb 2 _ rfl (by rw [e]; rfl)
            obtain ⟨za, hza⟩ := get_of_lt (xs := ya) (k := j) (by rw [hlen.out.1]; exact hlj)
            obtain ⟨zb, hzb⟩ := get_of_lt (xs := yb) (k := j) (by rw [hlen.out.2.1]; exact hlj)
            obtain ⟨zc, hzc⟩ := get_of_lt (xs := yc) (k := j) (by rw [hlen.out.2.2]; exact hlj)
            have ka : Okst w5 ⟨ga, j, none⟩ := ⟨⟨_, own_at (hM.out.own 0 _ _ rfl rfl) hza⟩, own_free (hM.out.own 0 _ _ rfl rfl) j⟩
            have kb : Okst w5 ⟨gb, j, none⟩ := ⟨⟨_, own_at (hM.out.own 1 _ _ rfl rfl) hzb⟩, own_free (hM.out.own 1 _ _ rfl rfl) j⟩
            have kc : Okst w5 ⟨gc, j, none⟩ := ⟨⟨_, own_at (hM.out.own 2 _ _ rfl rfl) hzc⟩, own_free (hM.out.own 2 _ _ rfl rfl) j⟩
            clear hza hzb hzc
            go_upto_region 21 with fail
            go_region_held3 (fun w' => w'.cell? ⟨S, 0, none⟩ = some (.slice (some ⟨ga, 0, none⟩) x0.length ca) ∧ w'.cell? ⟨S, 1, none⟩ = some (.slice (some ⟨gb, 0, none⟩) x0.length cb) ∧ w'.cell? ⟨S, 2, none⟩ = some (.slice (some ⟨gc, 0, none⟩) x0.length cc) ∧ w'.cell? ⟨G, j, none⟩ = some vj ∧ Okst w' ⟨ga, j, none⟩ ∧ Okst w' ⟨gb, j, none⟩ ∧ Okst w' ⟨gc, j, none⟩)
              (first
                | (go_split_ands; refine ⟨?_, ?_, ?_, ?_, ?_, ?_, ?_⟩ <;> first | assumption | exact okst_set (by assumption) | exact okst_drew (by assumption) | exact okst_drewN (by assumption) | go_keep | (rw [World.cell?_setCell_other _ _ _ _ (by intro h; injection h with h1 h2; omega)]; assumption))
                | go_keep)
              (first
                | (go_at_call 52; refine (fitPart_any _ _ cj xs (by omega) HCJL.out n _ ?_ ?_).mono ?_; (exact HRJ.out.drew1); (exact HR3.out.below hT.drew); rintro e w6 ⟨qa, qb, qc, rfl, hqa, hqb, hqc, m6, rfl⟩)
                )
            have HBG := Lib.hid (part_big HN.out hg)
            have HQA := Lib.hid (part_W HN.out HBG.out hqa)
            have HQB := Lib.hid (part_M HCOLJ.out HN.out HBG.out hqb)
            have HQC := Lib.hid (part_S HCOLJ.out HN.out HBG.out hqc)
            clear hqa hqb hqc a0 a1 a2 e1 ka kb kc
            have hb7 : Below w5.heap.size w5 (w5.drewN (1 + m6)) := below_drewN_ (Below.refl _ _)
            have hM7 := (((hM.out.below hb7).put (k := 0) rfl rfl j qa).put (k := 1) rfl rfl j qb).put (k := 2) rfl rfl j qc
            have hC7 := (((hC.out.below hb7).other (p := ⟨ga, j, none⟩) (by show ga ≠ G; omega) (fun i u hu e => by have := HLT.out i u hu _ e; simp at this; omega) (fV qa)).other (p := ⟨gb, j, none⟩) (by show gb ≠ G; omega) (fun i u hu e => by have := HLT.out i u hu _ e; simp at this; omega) (fV qb)).other (p := ⟨gc, j, none⟩) (by show gc ≠ G; omega) (fun i u hu e => by have := HLT.out i u hu _ e; simp at this; omega) (fV qc)
            have hb8 : Below D w5 ((((w5.drewN (1 + m6)).setCell ⟨ga, j, none⟩ (fV qa)).setCell ⟨gb, j, none⟩ (fV qb)).setCell ⟨gc, j, none⟩ (fV qc)) := (((hb7.mono hDz).setCell (p := ⟨ga, j, none⟩) hga _).setCell (p := ⟨gb, j, none⟩) hgb _).setCell (p := ⟨gc, j, none⟩) hgc _
            go_wp2_with fail
            go_roundw
            case rel =>
              exact ⟨j + 1, _, _, _, by omega, by go_num, hM7, ⟨by rw [List.length_set]; exact hlen.out.1, by rw [List.length_set]; exact hlen.out.2.1, by rw [List.length_set]; exact hlen.out.2.2⟩,
                ⟨upd_put habs.out.1 hlj HQA.out, upd_put habs.out.2.1 (by rw [HL1.out]; exact hlj) HQB.out, upd_put habs.out.2.2 (by rw [HL2.out]; exact hlj) HQC.out⟩, hC7, B1.below' hb8 hDz (by omega), hT.trans (hb8.mono (by omega)), Nat.le_trans hDz hb8.size⟩
            case measure => simp [intOf]; omega
        · have hje : j = x0.length := by omega
          subst hje
          have HV0 : Hid (absL ya = fVs x0 x1 x2 xs) := Lib.hid (by rw [habs.out.1, updTo_end _ (by simp [absL])]; rfl)
          have HV1 : Hid (absL yb = fMs x0 x1 x2 xs) := Lib.hid (by rw [habs.out.2.1, updTo_end _ (by simp [absL]; exact HL1.out)]; rfl)
          have HV2 : Hid (absL yc = fSs x0 x1 x2 xs) := Lib.hid (by rw [habs.out.2.2, updTo_end _ (by simp [absL]; exact HL2.out)]; rfl)
          have HOK : Hid (mixB ya yb yc = fOk x0 x1 x2 xs) := Lib.hid (by unfold fOk; rw [hup.out, mixB_abs, HV0.out, HV1.out, HV2.out]; rfl)
          have a0 := hM.out.box.cell 0 _ rfl
          have a1 := hM.out.box.cell 1 _ rfl
          have a2 := hM.out.box.cell 2 _ rfl
          have d0 := B1.cell 0 _ rfl
          have d1 := B1.cell 1 _ rfl
          have d2 := B1.cell 2 _ rfl
          have f0 := B1.free 0
          have f1 := B1.free 1
          have f2 := B1.free 2
          have hwS := hM.out.box.lt
          have hB1z := B1.lt
          go_upto_region 23 with fail
          go_region_held3 (fun w' => w'.cell? ⟨S, 0, none⟩ = some (.slice (some ⟨ga, 0, none⟩) x0.length ca) ∧ w'.cell? ⟨S, 1, none⟩ = some (.slice (some ⟨gb, 0, none⟩) x0.length cb) ∧ w'.cell? ⟨S, 2, none⟩ = some (.slice (some ⟨gc, 0, none⟩) x0.length cc))
            (first
              | (go_split_ands; refine ⟨?_, ?_, ?_⟩ <;> first | assumption | (rw [hb10.cell (by dsimp only; omega)]; assumption) | (repeat rw [World.cell?_setCell_other _ _ _ _ (by intro h; injection h with h1 h2; omega)]); assumption | (repeat rw [World.cell?_setCell_other _ _ _ _ (by intro h; injection h with h1 h2; omega)]); rw [hb10.cell (by dsimp only; omega)]; assumption)
              | go_keep)
            (first
              | (go_at_call 19; refine (implValidMixture_any _ ya _ yb _ yc (by rw [hlen.out.1]; omega) (by rw [hlen.out.2.1]; omega) (by rw [hlen.out.2.2]; omega) _ ?_ ?_ ?_).mono ?_; (exact (hM.out.own 0 _ _ rfl rfl).rd.drew1); (exact (hM.out.own 1 _ _ rfl rfl).rd.drew1); (exact (hM.out.own 2 _ _ rfl rfl).rd.drew1); rintro e w9 ⟨rfl, hb9⟩; have hb10 : Below wr.heap.size wr w9 := below_to (Below.refl wr.heap.size wr).drew hb9 (by simp); have B9 := B1.below hb10; have t0 := B9.cell 0 _ rfl; have t1 := B9.cell 1 _ rfl; have t2 := B9.cell 2 _ rfl; have t3 := B9.free 0; have t4 := B9.free 1; have t5 := B9.free 2))
          all_goals (go_wp2_with fail)
          rename_i hh
          clear hh
          have HM9 := Lib.hid (hM.out.below hb10)
          have HT9 := Lib.hid (below_to hT hb10 hT.size)
          clear hM hC B1 hT hb9 hb10 B9 a0 a1 a2 d0 d1 d2 f0 f1 f2
          refine bodyPost_ret (v := .tuple #[mxV (.slice (some ⟨ga, 0, none⟩) x0.length ca) (.slice (some ⟨gb, 0, none⟩) x0.length cb) (.slice (some ⟨gc, 0, none⟩) x0.length cc), .bool (mixB ya yb yc)]) (by simp [results, Try.results33, go_sem, *]) rfl ?_
          obtain ⟨l0, l1, l2⟩ := hlen.out
          have n0 : ∀ (i : Nat) (u : Value), [Value.slice (some ⟨ga, 0, none⟩) x0.length ca, .slice (some ⟨gb, 0, none⟩) x0.length cb, .slice (some ⟨gc, 0, none⟩) x0.length cc][i]? = some u → u.ownBlock ≠ some (w.heap.size + 1) := fun i u hu e => by
            rcases i with _ | _ | _ | i <;> simp at hu <;> subst hu <;> injection e with e1 <;> dsimp only at e1 <;> omega
          have HF := ((HM9.out.other (p := ⟨w.heap.size + 1, 0, none⟩) (by show w.heap.size + 1 ≠ S; omega) n0 (.slice (some ⟨ga, 0, none⟩) x0.length ca)).other (p := ⟨w.heap.size + 1, 1, none⟩) (by show w.heap.size + 1 ≠ S; omega) n0 (.slice (some ⟨gb, 0, none⟩) x0.length cb)).other (p := ⟨w.heap.size + 1, 2, none⟩) (by show w.heap.size + 1 ≠ S; omega) n0 (.slice (some ⟨gc, 0, none⟩) x0.length cc)
          have HE := ((HT9.out.setCell (p := ⟨w.heap.size + 1, 0, none⟩) (by simp) (.slice (some ⟨ga, 0, none⟩) x0.length ca)).setCell (p := ⟨w.heap.size + 1, 1, none⟩) (by simp) (.slice (some ⟨gb, 0, none⟩) x0.length cb)).setCell (p := ⟨w.heap.size + 1, 2, none⟩) (by simp) (.slice (some ⟨gc, 0, none⟩) x0.length cc)
          generalize ((World.setCell w9 _ _).setCell _ _).setCell _ _ = wf at HF HE ⊢
          have q0 := HF.own 0 _ _ rfl rfl
          have q1 := HF.own 1 _ _ rfl rfl
          have q2 := HF.own 2 _ _ rfl rfl
          refine ⟨some ⟨ga, 0, none⟩, ca, some ⟨gb, 0, none⟩, cb, some ⟨gc, 0, none⟩, cc, ya, yb, yc, by rw [l0, l1, l2, HOK.out], ?_, ?_, ?_, ?_, fun _ => ⟨HV0.out, HV1.out, HV2.out⟩, HE⟩
          · rw [l0]; exact q0.base_ (by omega)
          · rw [l1]; exact q1.base_ (by omega)
          · rw [l2]; exact q2.base_ (by omega)
          · rw [l0, l1, l2]; exact HF.ap
end Go.Proofs.Ytimpabceellihaa
