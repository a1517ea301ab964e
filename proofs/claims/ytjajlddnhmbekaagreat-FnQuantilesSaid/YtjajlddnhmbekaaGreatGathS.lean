/-
  The walk of spec.l05Gather.
-/
import Derived.Test.YtjajlddnhmbekaaGreatGathP
import Derived.Test.YtjajlddnhmbekaaGreatShRet
import Derived.Test.YtjajlddnhmbekaaGreatF32s
import Derived.Deep.DeepCutAuto
import Derived.Deep.CutBlock
namespace Go.Proofs.YtjajlddnhmbekaaGreat
open Go.RowKit
attribute [local go_sem] run_fl_add run_fl_sub run_fl_mul run_fl_quo run_up_ run_store_float

/-- What the reference has gathered of the first i values. -/
def sTo (xs : List Nat) (C : List (Option Nat)) (i : Nat) : List (Nat × Option Nat) := gAt xs C (List.range i)
theorem sTo_zero (xs : List Nat) (C : List (Option Nat)) : sTo xs C 0 = [] := rfl
theorem sTo_succ {xs : List Nat} {C : List (Option Nat)} {i x : Nat} {c : Option Nat} (hx : xs[i]? = some x) (hc : C[i]? = some c) : sTo xs C (i + 1) = gIn x c (sTo xs C i) := by
  unfold sTo
  rw [List.range_succ, gAt_snoc hx hc]
theorem sTo_end (xs : List Nat) (C : List (Option Nat)) : sTo xs C xs.length = gatS xs C := rfl
theorem sTo_len (xs : List Nat) (C : List (Option Nat)) (i : Nat) : (sTo xs C i).length ≤ i := by
  have := gAt_len (xs := xs) (C := C) (List.range i)
  rwa [List.length_range] at this
theorem sTo_mono (xs : List Nat) (C : List (Option Nat)) {i j : Nat} (h : i ≤ j) : (sTo xs C i).length ≤ (sTo xs C j).length := by
  obtain ⟨d, rfl⟩ : ∃ d, j = i + d := ⟨j - i, by omega⟩
  unfold sTo gAt
  rw [List.range_add, List.map_append, insL_app]
  exact (insL_len _ _).1
theorem sTo_fin {xs : List Nat} {C : List (Option Nat)} {i : Nat} (hi : i ≤ xs.length) (hf : (xs.take i).all finB = true) : ∀ p ∈ sTo xs C i, finB p.1 = true := by
  intro p hp
  obtain ⟨j, hj, e⟩ := gAt_mem hp
  have hjn := List.mem_range.1 hj
  obtain ⟨y, hy⟩ := get_of_lt (xs := xs) (k := j) (by omega)
  rw [hy] at e
  simp at e
  rw [← e]
  refine List.all_eq_true.1 hf y ?_
  refine List.mem_of_getElem? (i := j) ?_
  rw [List.getElem?_take, if_pos hjn]
  exact hy
theorem gatOk_many {xs : List Nat} {C : List (Option Nat)} {i : Nat} (hi : i ≤ xs.length) (h : 65 ≤ (sTo xs C i).length) : gatOk xs C = false := by
  have h2 := sTo_mono xs C hi
  rw [sTo_end] at h2
  unfold gatOk shareAB
  rw [decide_eq_false (by rw [List.length_map]; omega)]
  simp
theorem lt_ord {a b : Nat} (ha : finB a = true) (hb : finB b = true) : (FloatKind.f32.format.order a b == some .lt) = decide (val a < val b) := by
  rw [Bool.eq_iff_iff, beq_iff_eq, decide_eq_true_eq]
  exact lt_val ha hb
theorem eq_ord {a b : Nat} (ha : finB a = true) (hb : finB b = true) : (FloatKind.f32.format.order a b == some .eq) = decide (val a = val b) := by
  rw [Bool.eq_iff_iff, beq_iff_eq, decide_eq_true_eq]
  exact eq_val ha hb
/-- The place at which x stands or would stand. -/
def Place (V : List Nat) (x at_ : Nat) : Prop := ∀ p v, p < at_ → V[p]? = some v → val v < val x
theorem absg' {xs : List Nat} {i : Nat} {a : Option Nat} (h : (absL xs)[i]? = some a) : ∃ x, xs[i]? = some x ∧ absF .f32 x = a := by
  unfold absL at h
  rw [List.getElem?_map] at h
  cases hx : xs[i]? with
  | none => rw [hx] at h; cases h
  | some x => rw [hx] at h; exact ⟨x, rfl, by simpa using h⟩
theorem set_same {α : Type} {l : List α} {k : Nat} {v : α} (h : l[k]? = some v) : l.set k v = l := by
  apply List.ext_getElem?
  intro i
  rw [List.getElem?_set]
  by_cases e : k = i
  · subst e
    rw [if_pos rfl, if_pos (lt_of_get h), h]
  · rw [if_neg e]
section
variable {s : List (Nat × Option Nat)} {V Y : List Nat} {x k : Nat} {c : Option Nat}
theorem place_old (hV : V = s.map Prod.fst) (hY : absL Y = s.map Prod.snd) (hp : Place V x k) {v y0 : Nat} (hv : V[k]? = some v) (hy : Y[k]? = some y0) (he : val v = val x) : V = (gIn x c s).map Prod.fst ∧ (absL Y).set k (addA (absF .f32 y0) c) = (gIn x c s).map Prod.snd := by
  have hkl : k < s.length := by have := lt_of_get hv; rw [hV, List.length_map] at this; exact this
  obtain ⟨p, hpk⟩ := get_of_lt hkl
  have hp1 : p.1 = v := by rw [hV, List.getElem?_map, hpk] at hv; simpa using hv
  have hp2 : absF .f32 y0 = p.2 := by
    have h : (absL Y)[k]? = some (absF .f32 y0) := by simp [absL, hy]
    rw [hY, List.getElem?_map, hpk] at h
    simpa using h.symm
  obtain ⟨g1, _⟩ := insG_at (key := val) (add := addA) (z := some 0) (x := x) (c := c) (s := s) (k := k) (fun i q hi hq => hp i q.1 hi (by rw [hV, List.getElem?_map, hq]; rfl)) (fun q hq => by rw [hpk] at hq; cases hq; rw [hp1, he]; exact Rat.lt_irrefl) (by omega)
  have h := g1 p hpk (by rw [hp1]; exact he)
  unfold gIn
  rw [h]
  constructor
  · rw [List.map_set, ← hV, hp1]
    exact (set_same hv).symm
  · rw [List.map_set, ← hY, hp2]
theorem place_new (hV : V = s.map Prod.fst) (hY : absL Y = s.map Prod.snd) (hp : Place V x k) (hk : k ≤ V.length) (hn : ∀ v, V[k]? = some v → ¬ val v < val x ∧ val v ≠ val x) {b : Nat} (hb : absF .f32 b = addA (some 0) c) : V.take k ++ x :: V.drop k = (gIn x c s).map Prod.fst ∧ absL (Y.take k ++ b :: Y.drop k) = (gIn x c s).map Prod.snd := by
  obtain ⟨_, g2⟩ := insG_at (key := val) (add := addA) (z := some 0) (x := x) (c := c) (s := s) (k := k) (fun i q hi hq => hp i q.1 hi (by rw [hV, List.getElem?_map, hq]; rfl)) (fun q hq => (hn q.1 (by rw [hV, List.getElem?_map, hq]; rfl)).1) (by rw [hV, List.length_map] at hk; exact hk)
  have h := g2 (fun q hq => (hn q.1 (by rw [hV, List.getElem?_map, hq]; rfl)).2)
  unfold gIn
  rw [h]
  constructor
  · rw [hV]; simp [List.map_take, List.map_drop]
  · have e : absL (Y.take k ++ b :: Y.drop k) = (absL Y).take k ++ absF .f32 b :: (absL Y).drop k := by simp [absL, List.map_take, List.map_drop]
    rw [e, hY, hb]
    simp [List.map_take, List.map_drop]
/-- A row into which a place is being made. -/
theorem shift_set (l : List Nat) (e : Nat) {k z : Nat} (hk : k + 1 ≤ l.length) (hz : l[k]? = some z) : (l.take (k + 1) ++ e :: l.drop (k + 1)).set (k + 1) z = l.take k ++ z :: l.drop k := by
  have hl : (l.take (k + 1)).length = k + 1 := by simp; omega
  have e1 : (l.take (k + 1) ++ e :: l.drop (k + 1)).set (k + 1) z = l.take (k + 1) ++ z :: l.drop (k + 1) := by
    rw [List.set_append_right _ _ (by omega), hl, Nat.sub_self, List.set_cons_zero]
  rw [e1, take_snoc hz]
  have hd : l.drop k = z :: l.drop (k + 1) := by
    rw [List.drop_eq_getElem_cons (by omega)]
    congr 1
    rw [List.getElem?_eq_getElem (by omega)] at hz
    exact Option.some.inj hz
  rw [hd]; simp
theorem shift_at (l : List Nat) (e : Nat) {k z : Nat} (hz : l[k]? = some z) : (l.take (k + 1) ++ e :: l.drop (k + 1))[k]? = some z := by
  have := lt_of_get hz
  rw [List.getElem?_append_left (by simp; omega), List.getElem?_take, if_pos (by omega)]
  exact hz
theorem shift_here (l : List Nat) (e : Nat) {k : Nat} (hk : k ≤ l.length) : (l.take k ++ e :: l.drop k)[k]? = some e := by
  have hl : (l.take k).length = k := by simp; omega
  rw [List.getElem?_append_right (by omega), hl, Nat.sub_self]
  rfl
theorem shift_len (l : List Nat) (e : Nat) {k : Nat} (hk : k ≤ l.length) : (l.take k ++ e :: l.drop k).length = l.length + 1 := by simp; omega
theorem shift_put (l : List Nat) (e z : Nat) {k : Nat} (hk : k ≤ l.length) : (l.take k ++ e :: l.drop k).set k z = l.take k ++ z :: l.drop k := by
  have hl : (l.take k).length = k := by simp; omega
  rw [List.set_append_right _ _ (by omega), hl, Nat.sub_self, List.set_cons_zero]
end

set_option maxHeartbeats 6400000 in
set_option maxRecDepth 100000 in
theorem l05Gather_any (v c : Value) (xs ys : List Nat) (hn : xs.length ≤ 65536) (hl : ys.length = xs.length) (w : World) (hr : Rd fV w v xs) (hs : Rd fV w c ys) :
    Calls Tryz.prog 74 #[v, c] w (RetGather xs (absL ys) w) := by
  have HR := Lib.hid hr
  have HS := Lib.hid hs
  have HL := Lib.hid hl
  obtain ⟨A0, cap0, rfl, hcap0, hA0⟩ := hr
  have HA0 := Lib.hid hA0
  obtain ⟨A1, cap1, rfl, hcap1, hA1⟩ := hs
  have HA1 := Lib.hid hA1
  clear hA0 hA1 hl
  go_enter Tryz.func74, Tryz.ntmps74
  go_wp2
  have B1 : BoxAt ((w.alloc (.cells ([.slice none 0 0, .slice none 0 0] : List Value).toArray 26)).alloc (.cells #[.slice none 0 0, .slice none 0 0] 26)) w.heap.size [.slice none 0 0, .slice none 0 0] := (BoxAt.new w _ _).alloc _
  have G0 : Grow ((w.alloc (.cells #[.slice none 0 0, .slice none 0 0] 26)).alloc (.cells #[.slice none 0 0, .slice none 0 0] 26)) ((w.alloc (.cells #[.slice none 0 0, .slice none 0 0] 26)).heap.size + 1) (w.alloc (.cells #[.slice none 0 0, .slice none 0 0] 26)).heap.size (.slice none 0 0) (.slice none 0 0) [] [] :=
    ⟨BoxAt.new _ [.slice none 0 0, .slice none 0 0] 26, Own.nil, Own.nil, by simp [Value.ownBlock], by simp [Value.ownBlock], .inl rfl⟩
  rw [size_alloc] at G0
  have hT0 : Below w.heap.size w ((w.alloc (.cells #[.slice none 0 0, .slice none 0 0] 26)).alloc (.cells #[.slice none 0 0, .slice none 0 0] 26)) := ((Below.refl _ _).alloc (Nat.le_refl _) _).alloc (by simp) _
  have hz3 : ((w.alloc (.cells #[.slice none 0 0, .slice none 0 0] 26)).alloc (.cells #[.slice none 0 0, .slice none 0 0] 26)).heap.size = w.heap.size + 1 + 1 := by simp
  obtain ⟨W3, hW3⟩ : ∃ W3, W3 = (w.alloc (.cells #[.slice none 0 0, .slice none 0 0] 26)).alloc (.cells #[.slice none 0 0, .slice none 0 0] 26) := ⟨_, rfl⟩
  have B1' : BoxAt W3 w.heap.size [.slice none 0 0, .slice none 0 0] := by rw [hW3]; exact B1
  clear B1
  rw [← hW3] at G0 hT0 hz3 ⊢
  obtain ⟨S, hS⟩ : ∃ S, S = w.heap.size + 1 := ⟨_, rfl⟩
  rw [← hS] at G0 hz3 ⊢
  have hSw : w.heap.size < S := by omega
  clear hS hW3
  go_loopw [13] (fun si wr => ∃ (i : Nat) (v0 v1 : Value) (V Y : List Nat), i ≤ xs.length ∧ si = .int .i64 i ∧ Grow wr (S + 1) S v0 v1 V Y ∧ Hid (V = (sTo xs (absL ys) i).map Prod.fst ∧ absL Y = (sTo xs (absL ys) i).map Prod.snd ∧ (xs.take i).all finB = true) ∧ V.length ≤ 64 ∧ Below S W3 wr) (fun si _ => xs.length - (intOf si).toNat)
  case atStart => exact ⟨0, _, _, [], [], by omega, rfl, G0, ⟨rfl, rfl, rfl⟩, by simp, Below.refl _ _⟩
  case round =>
    obtain ⟨i, v0, v1, V, Y, hi, rfl, hG, hVY, hV64, hb⟩ := hrel
    clear G0
    have hB1 := B1'.below' hb (by omega) (by omega)
    have hT : Below w.heap.size w wr := hT0.trans (hb.mono (by omega))
    have hYl : Y.length = V.length := by rw [hVY.out.1, List.length_map, ← List.length_map (f := Prod.snd), ← hVY.out.2.1]; simp [absL]
    have HYL := Lib.hid hYl
    clear hYl
    by_cases hlt : i < xs.length
    · obtain ⟨x, hx⟩ := get_of_lt hlt
      obtain ⟨y, hy⟩ := get_of_lt (xs := ys) (k := i) (by rw [HL.out]; exact hlt)
      obtain ⟨ad0, rfl, hbl0, hcell0⟩ := HA0.out i x hx
      obtain ⟨ad1, rfl, hbl1, hcell1⟩ := HA1.out i y hy
      have e0 : wr.cell? (ad0.add i) = some (fV x) := by rw [hT.cell (by rw [add_block]; exact hbl0)]; exact hcell0
      have HC0 := Lib.hid hcell0
      have HC1 := Lib.hid hcell1
      have HX := Lib.hid hx
      have HS1 := Lib.hid (sTo_succ (C := absL ys) (c := absF .f32 y) hx (by simp [absL, hy]))
      have hi0 : (0 : Int) ≤ (i : Int) := by omega
      have hi1 : (i : Int) < (xs.length : Int) := by omega
      have hi2 : (i : Int) < (ys.length : Int) := by rw [HL.out]; omega
      clear hx hy hcell0 hcell1
      have hGH := Lib.hid hG
      have HBb := Lib.hid hb
      have HB1 := Lib.hid hB1
      clear hG hb hB1
      go_wp2_with fail
      refine (l01Finite_any _ _).mono ?_
      rintro e w2 ⟨rfl, n2, rfl⟩
      replace hGH := Lib.hid (hGH.out.drewN n2)
      replace HBb := Lib.hid (below_drewN_ (n := n2) HBb.out)
      replace HB1 := Lib.hid (HB1.out.below (below_drewN_ (n := n2) (Below.refl _ _)))
      replace hT := below_drewN_ (n := n2) hT
      replace e0 : (wr.drewN n2).cell? (ad0.add i) = some (fV x) := e0
      generalize wr.drewN n2 = wq at hGH HBb HB1 hT e0 ⊢
      cases hfx : finB x
      · have Ho := Lib.hid (show gatOk xs (absL ys) = false from gatOk_f (by
          rw [Bool.eq_false_iff]
          intro h
          have := List.all_eq_true.1 h x (List.mem_of_getElem? HX.out)
          rw [hfx] at this; cases this))
        have hB := HB1.out
        have d0 := hB.cell 0 _ rfl
        have d1 := hB.cell 1 _ rfl
        have f0 := hB.free 0
        have f1 := hB.free 1
        have HT := Lib.hid hT
        clear hT hB hfx
        go_wp2
        refine bodyPost_ret (v := .tuple #[shV (.slice none 0 0) (.slice none 0 0), .bool false]) (by simp [results, Tryz.results74, go_sem, *]) rfl ?_
        unfold RetGather
        rw [Ho.out]
        exact RetSh.none ((HT.out.setCell (by simp) _).setCell (by simp) _)
      have HFX := Lib.hid hfx
      have HFT : Hid ((xs.take (i + 1)).all finB = true) := by
        unfold Hid
        rw [take_snoc HX.out, List.all_append, hVY.out.2.2]
        simp [hfx]
      have HVF : Hid (∀ (p u : Nat), V[p]? = some u → finB u = true) := by
        intro p u hu
        have h := sTo_fin (C := absL ys) (Nat.le_of_lt hlt) hVY.out.2.2
        rw [hVY.out.1, List.getElem?_map] at hu
        cases hq : (sTo xs (absL ys) i)[p]? with
        | none => rw [hq] at hu; cases hu
        | some q =>
          rw [hq] at hu
          simp at hu
          rw [← hu]
          exact h q (List.mem_of_getElem? hq)
      clear hfx
      have hgl := sTo_len xs (absL ys) i
      have HVl : V.length ≤ i := by rw [hVY.out.1, List.length_map]; exact hgl
      clear hgl
      obtain ⟨E0, ca0, rfl, -, -⟩ := hGH.out.o0.rd
      obtain ⟨E1, ca1, rfl, -, -⟩ := hGH.out.o1.rd
      go_upto_block 2 with fail
      go_cut [8] (fun s8 wx => ∃ a : Nat, s8 = .int .i64 a ∧ a ≤ V.length ∧ Place V x a ∧ (∀ u, V[a]? = some u → ¬ val u < val x) ∧ ∃ m, wx = wq.drewN m)
      case first =>
        go_wp2
        go_loopw [8] (fun sa wr => ∃ a : Nat, a ≤ V.length ∧ sa = .int .i64 a ∧ Hid (Place V x a) ∧ Hid (∃ m, wr = wq.drewN m)) (fun sa _ => V.length - (intOf sa).toNat)
        case atStart => exact ⟨0, by omega, rfl, fun p v h => absurd h (by omega), 0, by rw [World.drewN_zero]⟩
        case round =>
          obtain ⟨a, ha, rfl, hpl, hwm⟩ := hrel
          have hGr : Grow wr (S + 1) S (.slice E0 V.length ca0) (.slice E1 Y.length ca1) V Y := by obtain ⟨m, h⟩ := hwm.out; rw [h]; exact hGH.out.drewN m
          have e0' : wr.cell? (ad0.add i) = some (fV x) := by obtain ⟨m, h⟩ := hwm.out; rw [h]; exact e0
          have HWM : Hid (∀ n, ∃ m, wr.drewN n = wq.drewN m) := fun n => by obtain ⟨m, h⟩ := hwm.out; exact ⟨m + n, by rw [h, World.drewN_drewN]⟩
          have d0 := hGr.box.cell 0 _ rfl
          by_cases hav : a < V.length
          · obtain ⟨u, hu⟩ := get_of_lt hav
            obtain ⟨g0, k0, e', _, _, _⟩ := hGH.out.o0.form (by omega)
            cases e'
            have cu := hGr.at0 hu
            clear hGr
            have hord := lt_ord (HVF.out a u hu) HFX.out
            have ha0 : (0 : Int) ≤ (a : Int) := by omega
            have ha1 : (a : Int) < (V.length : Int) := by omega
            have hdl : decide ((a : Int) < (V.length : Int)) = true := decide_eq_true ha1
            have HU := Lib.hid hu
            clear hu
            by_cases hux : val u < val x
            · rw [decide_eq_true hux] at hord
              have HUX := Lib.hid hux
              clear hux
              go_wp2_with fail
              go_quiet (fail)
              go_wp2
              go_roundw
              case rel =>
                refine ⟨a + 1, by omega, by go_num, ?_, HWM.out nq⟩
                intro p v hp hv
                rcases Nat.lt_or_ge p a with h | h
                · exact hpl.out p v h hv
                · rw [show p = a by omega, HU.out] at hv
                  cases hv
                  exact HUX.out
              case measure => simp [intOf]; omega
            · rw [decide_eq_false hux] at hord
              have HUX := Lib.hid hux
              clear hux
              go_wp2_with fail
              go_quiet (fail)
              go_wp2_with fail
              go_meet
              case rel => exact ⟨a, rfl, ha, hpl.out, fun v hv => (by rw [HU.out] at hv; cases hv; exact HUX.out), HWM.out nq⟩
          · have hae : a = V.length := by omega
            have HAE := Lib.hid hae
            have hdl : decide ((a : Int) < (V.length : Int)) = false := decide_eq_false (by omega)
            have hdl' : ¬ (a : Int) < (V.length : Int) := by omega
            clear hae
            go_wp2_with fail
            go_quiet (fail)
            go_wp2_with fail
            go_meet
            case rel => exact ⟨a, rfl, ha, hpl.out, fun v hv => (by have := lt_of_get hv; have := HAE.out; omega), HWM.out nq⟩
      case rest =>
        obtain ⟨a, rfl, ha, hpl, hge, m, hwm⟩ := hcut
        replace hGH := Lib.hid (hGH.out.drewN m)
        replace HBb := Lib.hid (below_drewN_ (n := m) HBb.out)
        replace HB1 := Lib.hid (HB1.out.below (below_drewN_ (n := m) (Below.refl _ _)))
        replace hT := below_drewN_ (n := m) hT
        replace e0 : (wq.drewN m).cell? (ad0.add i) = some (fV x) := e0
        rw [← hwm] at hGH HBb HB1 hT e0
        clear hwm
        obtain ⟨wb, hwb⟩ : ∃ wb, wb = wc := ⟨_, rfl⟩
        rw [← hwb] at hGH HBb HB1 hT e0 ⊢
        clear hwb
        have HPL := Lib.hid hpl
        have HGE := Lib.hid hge
        clear hpl hge
        go_upto_region 10 with fail
        go_cut [58] (fun s58 wx => (∃ q : Bool, s58 = .bool q ∧ (q = true → ∃ u, V[a]? = some u ∧ val u = val x) ∧ (q = false → ∀ u, V[a]? = some u → val u ≠ val x)) ∧ ∃ m, wx = wb.drewN m)
        case first =>
          have d0 := hGH.out.box.cell 0 _ rfl
          by_cases hav : a < V.length
          · obtain ⟨u, hu⟩ := get_of_lt hav
            obtain ⟨g0, k0, e', _, _, _⟩ := hGH.out.o0.form (by omega)
            cases e'
            have cu := hGH.out.at0 hu
            have hord := eq_ord (HVF.out a u hu) HFX.out
            have ha0 : (0 : Int) ≤ (a : Int) := by omega
            have ha1 : (a : Int) < (V.length : Int) := by omega
            have hdl : decide ((a : Int) < (V.length : Int)) = true := decide_eq_true ha1
            have HU := Lib.hid hu
            clear hu
            by_cases hux : val u = val x
            · rw [decide_eq_true hux] at hord
              have HUX := Lib.hid hux
              clear hux
              go_wp2_with fail
              go_quiet (fail)
              go_wp2_with fail
              go_meet
              case rel => exact ⟨⟨true, by first | rfl | (rw [hord]), fun _ => ⟨u, HU.out, HUX.out⟩, fun h => (by cases h)⟩, _, rfl⟩
            · rw [decide_eq_false hux] at hord
              have HUX := Lib.hid hux
              clear hux
              go_wp2_with fail
              go_quiet (fail)
              go_wp2_with fail
              go_meet
              case rel => exact ⟨⟨false, by first | rfl | (rw [hord]), fun h => (by cases h), fun _ v hv => (by rw [HU.out] at hv; cases hv; exact HUX.out)⟩, _, rfl⟩
          · have hae : a = V.length := by omega
            have HAE := Lib.hid hae
            have hdl : decide ((a : Int) < (V.length : Int)) = false := decide_eq_false (by omega)
            have hdl' : ¬ (a : Int) < (V.length : Int) := by omega
            clear hae
            go_wp2_with fail
            go_quiet (fail)
            go_wp2_with fail
            go_meet
            case rel => exact ⟨⟨false, rfl, fun h => (by cases h), fun _ v hv => (by have := lt_of_get hv; have := HAE.out; omega)⟩, _, rfl⟩
        case rest =>
          obtain ⟨⟨q, rfl, hq1, hq2⟩, m, hwm⟩ := hcut
          replace hGH := Lib.hid (hGH.out.drewN m)
          replace HBb := Lib.hid (below_drewN_ (n := m) HBb.out)
          replace HB1 := Lib.hid (HB1.out.below (below_drewN_ (n := m) (Below.refl _ _)))
          replace hT := below_drewN_ (n := m) hT
          replace e0 : (wb.drewN m).cell? (ad0.add i) = some (fV x) := e0
          rw [← hwm] at hGH HBb HB1 hT e0
          clear hwm
          obtain ⟨wd, hwd⟩ : ∃ wd, wd = wc := ⟨_, rfl⟩
          rw [← hwd] at hGH HBb HB1 hT e0 ⊢
          clear hwd
          cases q
          · have HNE := Lib.hid (hq2 rfl)
            clear hq1 hq2
            have HPN : Hid (∀ b, absF .f32 b = addA (some 0) (absF .f32 y) → V.take a ++ x :: V.drop a = (gIn x (absF .f32 y) (sTo xs (absL ys) i)).map Prod.fst ∧ absL (Y.take a ++ b :: Y.drop a) = (gIn x (absF .f32 y) (sTo xs (absL ys) i)).map Prod.snd) := fun b hb' =>
              place_new hVY.out.1 hVY.out.2.1 HPL.out ha (fun u hu => ⟨HGE.out u hu, HNE.out u hu⟩) hb'
            have hSl := hGH.out.box.lt
            have hsz := HBb.out.size
            by_cases h64 : V.length = 64
            · have Ho : Hid (gatOk xs (absL ys) = false) := by
                refine gatOk_many (i := i + 1) (by omega) ?_
                have h := (HPN.out (flR .add .f32 0 y wd) (by rw [abs_flR .add rfl]; rfl)).1
                have h2 := congrArg List.length h
                rw [HS1.out, ← List.length_map (f := Prod.fst), ← h]
                simp; omega
              have d0 := hGH.out.box.cell 0 _ rfl
              have hB := HB1.out
              have c0 := hB.cell 0 _ rfl
              have c1 := hB.cell 1 _ rfl
              have f0 := hB.free 0
              have f1 := hB.free 1
              have HT := Lib.hid hT
              have h64z : (V.length : Int) = 64 := by omega
              clear hT hB h64
              go_wp2
              refine bodyPost_ret (v := .tuple #[shV (.slice none 0 0) (.slice none 0 0), .bool false]) (by simp [results, Tryz.results74, go_sem, *]) rfl ?_
              unfold RetGather
              rw [Ho.out]
              exact RetSh.none ((HT.out.setCell (by simp) _).setCell (by simp) _)
            · have h64z : ¬ (V.length : Int) = 64 := by omega
              have h63 : V.length ≤ 63 := by omega
              have d0 := hGH.out.box.cell 0 _ rfl
              have hzw : S + 1 ≤ wd.heap.size := hSl
              clear h64
              go_wp2_with (at_builtin; go_loud (refine elF_.app (fun _ => rfl) _ rfl _ _ rfl (S + 1) _ V rfl (hGH.out.alloc _).o0 _ [0] rfl (rd_one fV _ _ _) (by omega) (by simp; omega) (by simp; omega) ?_))
              intro v' w' ho hg hbb hp
              have hG2 := (hGH.out.alloc (.cells #[fV 0] 28)).app0 ho hg (by rw [size_alloc]; exact hp)
              have f0 := ((hGH.out.alloc (.cells #[fV 0] 28)).box.kept hg hGH.out.n0).free 0
              have e0' := ((hGH.out.alloc (.cells #[fV 0] 28)).box.kept hg hGH.out.n0).cell 0 _ rfl
              have hb2 : Below S W3 w' := (HBb.out.alloc (by omega) _).trans (hbb.mono (by omega))
              have hsz2 := hbb.size
              rw [size_alloc] at hsz2
              obtain ⟨g0, c0, rfl, _, hg0, _⟩ := ho.form (by simp)
              have hg0S : S ≤ g0 := by omega
              rw [show (V ++ [0] : List Nat).length = V.length + 1 from by simp] at hG2 ⊢
              have d1 := hG2.box.cell 1 _ rfl
              have hb3 := hb2.setCell (p := ⟨S, 0, none⟩) (Nat.le_refl _) (.slice (some ⟨g0, 0, none⟩) (V.length + 1) c0)
              have hsz3 := size_st w' ⟨S, 0, none⟩ (.slice (some ⟨g0, 0, none⟩) (V.length + 1) c0)
              have hGH2 := Lib.hid hG2
              have HB2 := Lib.hid hb3
              have hrd := rd_one fV (w'.setCell ⟨S, 0, none⟩ (.slice (some ⟨g0, 0, none⟩) (V.length + 1) c0)) 0 28
              rw [size_st] at hrd
              have HRD := Lib.hid hrd
              clear hG2 ho hg hp hGH d0 hb2 hb3 hbb HBb HB1 hT e0 hrd
              go_wp2_with (at_builtin; go_loud (refine elF_.app (fun _ => rfl) _ rfl _ _ rfl (S + 1) _ Y rfl (hGH2.out.alloc _).o1 _ [0] rfl HRD.out (by omega) (by have := HYL.out; simp; omega) (by rw [size_alloc, size_st]; omega) ?_))
              intro v'' w'' ho hg hbb hp
              have hG3 := (hGH2.out.alloc (.cells #[fV 0] 28)).app1 ho hg (by rw [size_alloc, size_st]; exact hp)
              have q0 := ((hGH2.out.alloc (.cells #[fV 0] 28)).box.kept hg hGH2.out.n1).free 1
              have q1 := ((hGH2.out.alloc (.cells #[fV 0] 28)).box.kept hg hGH2.out.n1).cell 1 _ rfl
              have hb4 : Below S W3 w'' := (HB2.out.alloc (by rw [size_st]; omega) _).trans (hbb.mono (by omega))
              obtain ⟨g1, c1, rfl, _, hg1, _⟩ := ho.form (by simp)
              have hg1S : S ≤ g1 := by omega
              rw [show (Y ++ [0] : List Nat).length = V.length + 1 from by rw [List.length_append, HYL.out]; rfl] at hG3 ⊢
              have hb5 := hb4.setCell (p := ⟨S, 1, none⟩) (Nat.le_refl _) (.slice (some ⟨g1, 0, none⟩) (V.length + 1) c1)
              have hGH3 : Hid (Grow (w''.setCell ⟨S, 1, none⟩ (.slice (some ⟨g1, 0, none⟩) (V.length + 1) c1)) (S + 1) S (.slice (some ⟨g0, 0, none⟩) (V.length + 1) c0) (.slice (some ⟨g1, 0, none⟩) (V.length + 1) c1) (V.take V.length ++ 0 :: V.drop V.length) (Y.take V.length ++ 0 :: Y.drop V.length)) := by
                unfold Hid
                rw [List.take_length, List.drop_length, ← HYL.out, List.take_length, List.drop_length]
                rw [HYL.out]
                exact hG3
              have HB5 := Lib.hid hb5
              have d00 := hG3.box.cell 0 _ rfl
              clear hG3 ho hg hp hGH2 HRD hbb hb4 hb5 d1 f0 e0' hsz2 hsz3 HB2
              go_wp2
              go_loopw [9] (fun sk wr => ∃ (k e f : Nat), sk = .int .i64 k ∧ a ≤ k ∧ k ≤ V.length ∧ Grow wr (S + 1) S (.slice (some ⟨g0, 0, none⟩) (V.length + 1) c0) (.slice (some ⟨g1, 0, none⟩) (V.length + 1) c1) (V.take k ++ e :: V.drop k) (Y.take k ++ f :: Y.drop k) ∧ Below S W3 wr) (fun sk _ => (intOf sk).toNat)
              case atStart => exact ⟨V.length, 0, 0, by first | rfl | (congr 1; omega), ha, Nat.le_refl _, hGH3.out, HB5.out⟩
              case round =>
                obtain ⟨k, e, f, rfl, hak, hkV, hG, hb⟩ := hrel
                clear hGH3 HB5 q0 q1 d00
                by_cases hgt : a < k
                · obtain ⟨k', rfl⟩ : ∃ k', k = k' + 1 := ⟨k - 1, by omega⟩
                  obtain ⟨z, hz⟩ := get_of_lt (xs := V) (k := k') (by omega)
                  obtain ⟨zy, hzy⟩ := get_of_lt (xs := Y) (k := k') (by rw [HYL.out]; omega)
                  have d0 := hG.box.cell 0 _ rfl
                  have cz := hG.at0 (shift_at V e hz)
                  have fz := hG.free0 (k' + 1)
                  have ce := hG.at0 (shift_here V e hkV)
                  have HZ := Lib.hid hz
                  have HZY := Lib.hid hzy
                  have HGP : Hid (∀ n, Grow ((wr.drewN n).setCell ⟨g0, k' + 1, none⟩ (fV z)) (S + 1) S (.slice (some ⟨g0, 0, none⟩) (V.length + 1) c0) (.slice (some ⟨g1, 0, none⟩) (V.length + 1) c1) (V.take k' ++ z :: V.drop k') (Y.take (k' + 1) ++ f :: Y.drop (k' + 1))) := fun n => by
                    have h := (hG.drewN n).put0 (k' + 1) z
                    rwa [shift_set V e hkV HZ.out] at h
                  have HBK := Lib.hid hb
                  have hgz : (a : Int) < (k' : Int) + 1 := by omega
                  have p0 : (0 : Int) ≤ (k' : Int) + 1 := by omega
                  have p1 : (k' : Int) + 1 < (V.length : Int) + 1 := by omega
                  have p2 : (k' : Int) < (V.length : Int) + 1 := by omega
                  have p3 : ((k' : Int) + 1).toNat = k' + 1 := by omega
                  have p4 : (k' : Int) + 1 - 1 = (k' : Int) := by omega
                  have p5 : (0 : Int) ≤ (k' : Int) := by omega
                  have p6 : IntKind.i64.wrap (k' : Int) = (k' : Int) := IntWalk.i64_in _ (by omega)
                  clear hz hzy hG hb
                  go_wp2
                  refine wp_region_fq 9 (fun _ _ _ => True) (by kernel_rfl) (by kernel_rfl) ?_
                  simp only [List.take, List.drop]
                  repeat (first | (refine wpFq_one (by rfl) ?_; go_big_quiet_step (fail); refine wpQuiet_nil ?_) | (refine wpFq_nilc (by rfl) _ rfl _ (by rfl) ?_; simp only [Act.put, List.setIfInBounds_toArray, List.set_cons_zero, List.set_cons_succ]) | (refine wpFq_fl (by rfl) _ _ _ _ _ rfl (by rfl) _ _ _ (by rfl) (by rfl) ?_; intro fb hfb; simp only [Act.put, List.setIfInBounds_toArray, List.set_cons_zero, List.set_cons_succ]) | (refine wpFq_up (by rfl) _ _ _ rfl (by kernel_rfl) (by kernel_rfl) _ (by rfl) ?_; intro fb hfb; simp only [Act.put, List.setIfInBounds_toArray, List.set_cons_zero, List.set_cons_succ]))
                  refine wpFq_nil ?_
                  intro nq
                  go_wp2_with fail
                  have hG2 := HGP.out nq
                  have hb2 := (below_drewN_ (n := nq) HBK.out).setCell (p := ⟨g0, k' + 1, none⟩) hg0S (fV z)
                  clear d0 cz fz ce HGP HBK
                  generalize (wr.drewN nq).setCell ⟨g0, k' + 1, none⟩ (fV z) = ws at hG2 hb2 ⊢
                  have d1 := hG2.box.cell 1 _ rfl
                  have cz := hG2.at1 (shift_at Y f HZY.out)
                  have fz := hG2.free1 (k' + 1)
                  have ce := hG2.at1 (shift_here Y f (by rw [HYL.out]; exact hkV))
                  have HGP : Hid (∀ n, Grow ((ws.drewN n).setCell ⟨g1, k' + 1, none⟩ (fV zy)) (S + 1) S (.slice (some ⟨g0, 0, none⟩) (V.length + 1) c0) (.slice (some ⟨g1, 0, none⟩) (V.length + 1) c1) (V.take k' ++ z :: V.drop k') (Y.take k' ++ zy :: Y.drop k')) := fun n => by
                    have h := (hG2.drewN n).put1 (k' + 1) zy
                    rwa [shift_set Y f (by rw [HYL.out]; exact hkV) HZY.out] at h
                  have HBK := Lib.hid hb2
                  clear hG2 hb2
                  refine wp_region_fq 9 (fun _ _ _ => True) (by kernel_rfl) (by kernel_rfl) ?_
                  simp only [List.take, List.drop]
                  repeat (first | (refine wpFq_one (by rfl) ?_; go_big_quiet_step (fail); refine wpQuiet_nil ?_) | (refine wpFq_nilc (by rfl) _ rfl _ (by rfl) ?_; simp only [Act.put, List.setIfInBounds_toArray, List.set_cons_zero, List.set_cons_succ]) | (refine wpFq_fl (by rfl) _ _ _ _ _ rfl (by rfl) _ _ _ (by rfl) (by rfl) ?_; intro fb hfb; simp only [Act.put, List.setIfInBounds_toArray, List.set_cons_zero, List.set_cons_succ]) | (refine wpFq_up (by rfl) _ _ _ rfl (by kernel_rfl) (by kernel_rfl) _ (by rfl) ?_; intro fb hfb; simp only [Act.put, List.setIfInBounds_toArray, List.set_cons_zero, List.set_cons_succ]))
                  refine wpFq_nil ?_
                  intro nq
                  go_wp2
                  go_roundw
                  case rel => exact ⟨k', z, zy, by first | rfl | go_num, by omega, by omega, HGP.out _, (below_drewN_ HBK.out).setCell (p := ⟨g1, k' + 1, none⟩) hg1S _⟩
                  case measure => simp [intOf] <;> omega
                · have hka : k = a := by omega
                  subst hka
                  have hT : Below w.heap.size w wr := hT0.trans (hb.mono (by omega))
                  have e0 : wr.cell? (ad0.add i) = some (fV x) := by rw [hT.cell (by rw [add_block]; exact hbl0)]; exact HC0.out
                  have d0 := hG.box.cell 0 _ rfl
                  have fz := hG.free0 k
                  obtain ⟨ee, hee⟩ := get_of_lt (xs := V.take k ++ e :: V.drop k) (k := k) (by rw [shift_len V e hkV]; omega)
                  have cz := hG.at0 hee
                  have HGP : Hid (∀ n, Grow ((wr.drewN n).setCell ⟨g0, k, none⟩ (fV x)) (S + 1) S (.slice (some ⟨g0, 0, none⟩) (V.length + 1) c0) (.slice (some ⟨g1, 0, none⟩) (V.length + 1) c1) (V.take k ++ x :: V.drop k) (Y.take k ++ f :: Y.drop k)) := fun n => by
                    have h := (hG.drewN n).put0 k x
                    rwa [shift_put V e x hkV] at h
                  have HBK := Lib.hid hb
                  have p0 : (0 : Int) ≤ (k : Int) := by omega
                  have p1 : (k : Int) < (V.length : Int) + 1 := by omega
                  clear hG hb hee
                  go_wp2
                  refine wp_region_fq 7 (fun _ _ _ => True) (by kernel_rfl) (by kernel_rfl) ?_
                  simp only [List.take, List.drop]
                  repeat (first | (refine wpFq_one (by rfl) ?_; go_big_quiet_step (fail); refine wpQuiet_nil ?_) | (refine wpFq_nilc (by rfl) _ rfl _ (by rfl) ?_; simp only [Act.put, List.setIfInBounds_toArray, List.set_cons_zero, List.set_cons_succ]) | (refine wpFq_fl (by rfl) _ _ _ _ _ rfl (by rfl) _ _ _ (by rfl) (by rfl) ?_; intro fb hfb; simp only [Act.put, List.setIfInBounds_toArray, List.set_cons_zero, List.set_cons_succ]) | (refine wpFq_up (by rfl) _ _ _ rfl (by kernel_rfl) (by kernel_rfl) _ (by rfl) ?_; intro fb hfb; simp only [Act.put, List.setIfInBounds_toArray, List.set_cons_zero, List.set_cons_succ]))
                  refine wpFq_nil ?_
                  intro nq
                  go_wp2_with fail
                  have hG2 := HGP.out nq
                  have hb2 := (below_drewN_ (n := nq) HBK.out).setCell (p := ⟨g0, k, none⟩) hg0S (fV x)
                  clear d0 cz fz HGP HBK e0 hT
                  generalize (wr.drewN nq).setCell ⟨g0, k, none⟩ (fV x) = ws at hG2 hb2 ⊢
                  have hT : Below w.heap.size w ws := hT0.trans (hb2.mono (by omega))
                  have e1 : ws.cell? (ad1.add i) = some (fV y) := by rw [hT.cell (by rw [add_block]; exact hbl1)]; exact HC1.out
                  have d1 := hG2.box.cell 1 _ rfl
                  have hkY : k ≤ Y.length := by rw [HYL.out]; exact hkV
                  obtain ⟨ff, hff⟩ := get_of_lt (xs := Y.take k ++ f :: Y.drop k) (k := k) (by rw [shift_len Y f hkY]; omega)
                  have cz := hG2.at1 hff
                  have fz := hG2.free1 k
                  have HGP : Hid (∀ n b, Grow ((ws.drewN n).setCell ⟨g1, k, none⟩ (fV b)) (S + 1) S (.slice (some ⟨g0, 0, none⟩) (V.length + 1) c0) (.slice (some ⟨g1, 0, none⟩) (V.length + 1) c1) (V.take k ++ x :: V.drop k) (Y.take k ++ b :: Y.drop k)) := fun n b => by
                    have h := (hG2.drewN n).put1 k b
                    rwa [shift_put Y f b hkY] at h
                  have HBK := Lib.hid hb2
                  clear hG2 hb2 hff
                  refine wp_region_fq 8 (fun _ _ _ => True) (by kernel_rfl) (by kernel_rfl) ?_
                  simp only [List.take, List.drop]
                  repeat (first | (refine wpFq_one (by rfl) ?_; go_big_quiet_step (fail); refine wpQuiet_nil ?_) | (refine wpFq_nilc (by rfl) _ rfl _ (by rfl) ?_; simp only [Act.put, List.setIfInBounds_toArray, List.set_cons_zero, List.set_cons_succ]) | (refine wpFq_fl (by rfl) _ _ _ _ _ rfl (by rfl) _ _ _ (by rfl) (by rfl) ?_; intro fb hfb; simp only [Act.put, List.setIfInBounds_toArray, List.set_cons_zero, List.set_cons_succ]) | (refine wpFq_up (by rfl) _ _ _ rfl (by kernel_rfl) (by kernel_rfl) _ (by rfl) ?_; intro fb hfb; simp only [Act.put, List.setIfInBounds_toArray, List.set_cons_zero, List.set_cons_succ]))
                  refine wpFq_nil ?_
                  intro nq
                  go_wp2
                  go_roundw
                  case rel =>
                    refine ⟨i + 1, _, _, _, _, by omega, by go_num, HGP.out _ _, ⟨?_, ?_, HFT.out⟩, by rw [shift_len V x hkV]; omega, (below_drewN_ HBK.out).setCell (p := ⟨g1, k, none⟩) hg1S _⟩
                    · rw [HS1.out]; exact (HPN.out _ (by rw [hfb]; rfl)).1
                    · rw [HS1.out]; exact (HPN.out _ (by rw [hfb]; rfl)).2
                  case measure => simp [intOf]; omega
          · obtain ⟨u, hu, hux⟩ := hq1 rfl
            have hal := lt_of_get hu
            obtain ⟨y0, hy0⟩ := get_of_lt (xs := Y) (k := a) (by rw [HYL.out]; exact hal)
            have HPO := Lib.hid (place_old (c := absF .f32 y) hVY.out.1 hVY.out.2.1 HPL.out hu hy0 hux)
            obtain ⟨g1, k1, e', _, _, _⟩ := hGH.out.o1.form (by rw [HYL.out]; omega)
            cases e'
            have hgS : S ≤ g1 := by have := (hGH.out.o1.lt g1 rfl).1; omega
            have d1 := hGH.out.box.cell 1 _ rfl
            have cy := hGH.out.at1 hy0
            have fy := hGH.out.free1 a
            have ec : wd.cell? (ad1.add i) = some (fV y) := by rw [hT.cell (by rw [add_block]; exact hbl1)]; exact HC1.out
            have ha0 : (0 : Int) ≤ (a : Int) := by omega
            have ha1 : (a : Int) < (Y.length : Int) := by rw [HYL.out]; omega
            have HGP := Lib.hid (fun b => hGH.out.put1 a b)
            clear hu hux hq1 hq2 hy0
            go_wp2
            refine wp_region_fq 13 (fun _ _ _ => True) (by kernel_rfl) (by kernel_rfl) ?_
            simp only [List.take, List.drop]
            repeat (first | (refine wpFq_one (by rfl) ?_; go_big_quiet_step (fail); refine wpQuiet_nil ?_) | (refine wpFq_nilc (by rfl) _ rfl _ (by rfl) ?_; simp only [Act.put, List.setIfInBounds_toArray, List.set_cons_zero, List.set_cons_succ]) | (refine wpFq_fl (by rfl) _ _ _ _ _ rfl (by rfl) _ _ _ (by rfl) (by rfl) ?_; intro fb hfb; simp only [Act.put, List.setIfInBounds_toArray, List.set_cons_zero, List.set_cons_succ]) | (refine wpFq_up (by rfl) _ _ _ rfl (by kernel_rfl) (by kernel_rfl) _ (by rfl) ?_; intro fb hfb; simp only [Act.put, List.setIfInBounds_toArray, List.set_cons_zero, List.set_cons_succ]))
            refine wpFq_nil ?_
            intro nq
            go_wp2
            go_roundw
            case rel =>
              refine ⟨i + 1, _, _, V, _, by omega, by go_num, (HGP.out _).below (below_drewN_ (Below.refl _ _)), ⟨?_, ?_, HFT.out⟩, hV64, ?_⟩
              · rw [HS1.out]; exact HPO.out.1
              · rw [show ∀ b, absL (Y.set a b) = (absL Y).set a (absF .f32 b) from fun b => by simp [absL, List.map_set], hfb, HS1.out]
                exact HPO.out.2
              · exact (below_drewN_ HBb.out).setCell (p := ⟨g1, a, none⟩) hgS _
            case measure => simp [intOf]; omega
    · have hie : i = xs.length := by omega
      have hV := hVY.out.1
      have hY := hVY.out.2.1
      have hf := hVY.out.2.2
      rw [hie] at hV hY hf
      rw [List.take_length] at hf
      rw [sTo_end] at hV hY
      have hok : shareB V Y = gatOk xs (absL ys) := by rw [gatOk_t hf, shareB_abs, hV, hY]
      have HOK := Lib.hid hok
      have HV := Lib.hid hV
      have HY := Lib.hid hY
      have HIE := Lib.hid hie
      clear hV hY hf hok hVY hie
      obtain ⟨E0, ca0, rfl, -, -⟩ := hG.o0.rd
      obtain ⟨E1, ca1, rfl, -, -⟩ := hG.o1.rd
      have HRD0 := Lib.hid hG.o0.rd
      have HRD1 := Lib.hid hG.o1.rd
      have hGH := Lib.hid hG
      have HB1 := Lib.hid hB1
      have HT := Lib.hid hT
      clear hG hB1 hT
      go_wp2_with fail
      refine (l05Is_any _ _ _ V Y (by omega) (by rw [HYL.out]; omega) _ hGH.out.box HRD0.out HRD1.out).mono ?_
      rintro e w6 ⟨rfl, hb3⟩
      have hG := hGH.out.below hb3
      have hB := HB1.out.below hb3
      replace HT := Lib.hid (below_to HT.out hb3 HT.out.size)
      have hSg := hG.box.lt
      clear hb3 hGH
      have d0 := hG.box.cell 0 _ rfl
      have d1 := hG.box.cell 1 _ rfl
      have c0 := hB.cell 0 _ rfl
      have c1 := hB.cell 1 _ rfl
      have f0 := hB.free 0
      have f1 := hB.free 1
      have hGH := Lib.hid hG
      clear hG
      cases hs' : shareB V Y
      all_goals
        have HS := Lib.hid (HOK.out.symm.trans hs')
        have HS' := Lib.hid hs'
        clear hs'
        go_wp2
      · refine bodyPost_ret (v := .tuple #[shV (.slice none 0 0) (.slice none 0 0), .bool false]) (by simp [results, Tryz.results74, go_sem, *]) rfl ?_
        unfold RetGather
        rw [HS.out]
        exact RetSh.none ((HT.out.setCell (by simp) _).setCell (by simp) _)
      · refine bodyPost_ret (v := .tuple #[shV (.slice E0 V.length ca0) (.slice E1 Y.length ca1), .bool true]) (by simp [results, Tryz.results74, go_sem, *]) rfl ?_
        unfold RetGather
        rw [HS.out]
        have o0 := Own.other (Own.other hGH.out.o0 (p := ⟨w.heap.size, 0, none⟩) (fun e => by have h9 := (hGH.out.o0.lt _ e).1; simp at h9; omega) (.slice E0 V.length ca0)) (p := ⟨w.heap.size, 1, none⟩) (fun e => by have h9 := (hGH.out.o0.lt _ e).1; simp at h9; omega) (.slice E1 Y.length ca1)
        have o1 := Own.other (Own.other hGH.out.o1 (p := ⟨w.heap.size, 0, none⟩) (fun e => by have h9 := (hGH.out.o1.lt _ e).1; simp at h9; omega) (.slice E0 V.length ca0)) (p := ⟨w.heap.size, 1, none⟩) (fun e => by have h9 := (hGH.out.o1.lt _ e).1; simp at h9; omega) (.slice E1 Y.length ca1)
        exact ⟨_, V, _, Y, rfl, o0.base_ (by omega), o1.base_ (by omega), hGH.out.ap, by omega, by rw [HYL.out]; omega, by rw [HV.out]; rfl, by rw [HY.out]; rfl, (HT.out.setCell (by simp) _).setCell (by simp) _⟩
end Go.Proofs.YtjajlddnhmbekaaGreat
