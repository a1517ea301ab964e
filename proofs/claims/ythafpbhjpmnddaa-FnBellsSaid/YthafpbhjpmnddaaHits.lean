/-
  Shares of hits: impl.HitsShare.
-/
import Derived.Test.YthafpbhjpmnddaaShRet
import Derived.Test.YthafpbhjpmnddaaWithin
import Derived.Test.YthafpbhjpmnddaaFq
namespace Go.Proofs.Ythafpbhjpmnddaa
open Go.RowKit
attribute [local go_sem] run_fl_add run_fl_sub run_fl_mul run_fl_quo run_up_ run_store_float

def oneN : Option Nat := some 1065353216
theorem abs_one : absF .f32 1065353216 = oneN := by decide
/-- The chance of i hits in k trials. -/
def hitA (c : Option Nat) : Nat → Nat → Option Nat
  | 0, 0 => oneN
  | 0, _ + 1 => some 0
  | k + 1, 0 => opF .mul .f32 (hitA c k 0) (opF .sub .f32 oneN c)
  | k + 1, i + 1 => if i ≤ k then opF .add .f32 (opF .mul .f32 (hitA c k (i + 1)) (opF .sub .f32 oneN c)) (opF .mul .f32 (hitA c k i) c) else some 0
theorem hitA_over (c : Option Nat) {k i : Nat} (h : k < i) : hitA c k i = some 0 := by
  cases i with
  | zero => omega
  | succ i =>
    cases k with
    | zero => rfl
    | succ k => unfold hitA; rw [if_neg (by omega)]
theorem hitA_step (c : Option Nat) {k i : Nat} (h1 : 1 ≤ i) (h2 : i ≤ k + 1) : hitA c (k + 1) i = opF .add .f32 (opF .mul .f32 (hitA c k i) (opF .sub .f32 oneN c)) (opF .mul .f32 (hitA c k (i - 1)) c) := by
  cases i with
  | zero => omega
  | succ i => show (if i ≤ k then _ else _) = _; rw [if_pos (by omega)]; rfl
/-- Row k, L places long; and in the midst of the turn to row k + 1: the places above j are turned. -/
def hitRow (c : Option Nat) (k L : Nat) : List (Option Nat) := (List.range L).map (hitA c k)
def hitMid (c : Option Nat) (k j L : Nat) : List (Option Nat) := (List.range L).map fun t => if j < t then hitA c (k + 1) t else hitA c k t
theorem hitRow_len (c : Option Nat) (k L : Nat) : (hitRow c k L).length = L := by simp [hitRow]
theorem hitMid_len (c : Option Nat) (k j L : Nat) : (hitMid c k j L).length = L := by simp [hitMid]
theorem hitMid_at (c : Option Nat) (k j L : Nat) {t : Nat} (h : t < L) : (hitMid c k j L)[t]? = some (if j < t then hitA c (k + 1) t else hitA c k t) := by simp [hitMid, List.getElem?_range h]
theorem hitRow_mid (c : Option Nat) (k L : Nat) : hitRow c k L = hitMid c k (k + 1) L := by
  unfold hitRow hitMid
  apply List.map_congr_left
  intro t _
  split
  · rename_i h; rw [hitA_over c (show k < t by omega), hitA_over c h]
  · rfl
theorem hitMid_set (c : Option Nat) {k j L : Nat} (h1 : 1 ≤ j) (h2 : j < L) : (hitMid c k j L).set j (hitA c (k + 1) j) = hitMid c k (j - 1) L := by
  apply List.ext_getElem?
  intro t
  rw [List.getElem?_set]
  by_cases h : t < L
  · rw [hitMid_at _ _ _ _ h, hitMid_at _ _ _ _ h, hitMid_len]
    by_cases e : j = t
    · subst e
      rw [if_pos rfl, if_pos h, if_pos (by omega)]
    · rw [if_neg e]
      by_cases g : j < t
      · rw [if_pos g, if_pos (by omega)]
      · rw [if_neg g, if_neg (by omega)]
  · rw [if_neg (by omega)]
    simp [hitMid, show L ≤ t by omega]
theorem hitMid_zero (c : Option Nat) {k L : Nat} (h : 0 < L) : (hitMid c k 0 L).set 0 (hitA c (k + 1) 0) = hitRow c (k + 1) L := by
  apply List.ext_getElem?
  intro t
  rw [List.getElem?_set]
  by_cases h' : t < L
  · rw [hitMid_at _ _ _ _ h', hitMid_len]
    simp only [hitRow, List.getElem?_map, List.getElem?_range h', Option.map_some]
    by_cases e : 0 = t
    · subst e; rw [if_pos rfl, if_pos h]
    · rw [if_neg e, if_pos (by omega)]
  · rw [if_neg (by omega)]
    simp [hitMid, hitRow, show L ≤ t by omega]
theorem hitRow_zero (c : Option Nat) (L : Nat) : hitRow c 0 (L + 1) = (absL (List.replicate (L + 1) 0)).set 0 oneN := by
  apply List.ext_getElem?
  intro t
  rw [List.getElem?_set]
  by_cases h : t < L + 1
  · simp only [hitRow, List.getElem?_map, List.getElem?_range h, Option.map_some, absL]
    cases t with
    | zero => simp [hitA]
    | succ t => simp [hitA, h, abs_zero]
  · rw [if_neg (by omega)]
    simp [hitRow, absL, show L + 1 ≤ t by omega]
theorem absL_set (xs : List Nat) (i x : Nat) : absL (xs.set i x) = (absL xs).set i (absF .f32 x) := by simp [absL, List.map_set]
theorem absL_len' (xs : List Nat) : (absL xs).length = xs.length := by simp [absL]
theorem absL_get {xs : List Nat} {i : Nat} {a : Option Nat} (h : (absL xs)[i]? = some a) : ∃ x, xs[i]? = some x ∧ absF .f32 x = a := by
  unfold absL at h
  rw [List.getElem?_map] at h
  cases hx : xs[i]? with
  | none => rw [hx] at h; cases h
  | some x => rw [hx] at h; exact ⟨x, rfl, by simpa using h⟩

def hitOk1 (n : Int) (ch : Nat) : Bool := inB n 0 63 && partB ch
def hitC (n : Int) (ch : Nat) : List (Option Nat) := hitRow (absF .f32 ch) n.toNat (n.toNat + 1)
def hitOk (n : Int) (ch : Nat) : Bool := hitOk1 n ch && shareAB (cntL (n.toNat + 1)) (hitC n ch)
def RetHitsShare (n : Int) (ch : Nat) (w : World) (e : Ending) (w' : World) : Prop := RetSh (hitOk n ch) (absL (cntL (n.toNat + 1))) (hitC n ch) w e w'
theorem hitOk_f {n : Int} {ch : Nat} (h : hitOk1 n ch = false) : hitOk n ch = false := by unfold hitOk; rw [h]; rfl
theorem hitOk_t {n : Int} {ch : Nat} (h : hitOk1 n ch = true) : hitOk n ch = shareAB (cntL (n.toNat + 1)) (hitC n ch) := by unfold hitOk; rw [h]; rfl

set_option maxHeartbeats 3200000 in
theorem implHitsShare_any (n : Int) (ch : Nat) (w : World) :
    Calls Try.prog 9 #[.int .i64 n, fV ch] w (RetHitsShare n ch w) := by
  have hall : [ch].all partB = partB ch := by simp
  have HALL := Lib.hid hall
  clear hall
  cases hi : inB n 0 63
  · have Ho := Lib.hid (hitOk_f (ch := ch) (show hitOk1 n ch = false by unfold hitOk1; rw [hi]; rfl))
    have Hi := Lib.hid hi
    clear hi
    go_enter Try.func9, Try.ntmps9
    go_wp2_with (go_at_call 15; refine (within_any _ _ _ _).mono ?_; rintro e w' ⟨rfl, rfl⟩; rw [Hi.out])
    refine bodyPost_ret (v := .tuple #[shV (.slice none 0 0) (.slice none 0 0), .bool false]) (by simp [results, Try.results9, go_sem, *]) rfl ?_
    unfold RetHitsShare
    rw [Ho.out]
    exact RetSh.none (by first | exact below_alloc _ _ | (exact ((below_alloc w _).setCell (by simp) _).setCell (by simp) _))
  · have hnr := inB_true hi
    obtain ⟨N, rfl⟩ : ∃ N : Nat, n = (N : Int) := ⟨n.toNat, by omega⟩
    have hN : N ≤ 63 := by omega
    cases hp : partB ch
    · have Ho := Lib.hid (hitOk_f (show hitOk1 N ch = false by unfold hitOk1; rw [hp]; simp))
      have Hi := Lib.hid hi
      have Hp := Lib.hid hp
      clear hi hp hnr
      go_enter Try.func9, Try.ntmps9
      go_wp2_with (go_at_call 15; refine (within_any _ _ _ _).mono ?_; rintro e w' ⟨rfl, rfl⟩; rw [Hi.out])
      have B : BoxAt ((w.alloc (.cells ([.slice none 0 0, .slice none 0 0] : List Value).toArray 32)).alloc (.cells #[fV ch] 24)) w.heap.size [.slice none 0 0, .slice none 0 0] := (BoxAt.new w _ _).alloc _
      have hT : Below w.heap.size w ((w.alloc (.cells ([.slice none 0 0, .slice none 0 0] : List Value).toArray 32)).alloc (.cells #[fV ch] 24)) := ((Below.refl _ _).alloc (Nat.le_refl _) _).alloc (by simp) _
      have hrd := rd_one fV (w.alloc (.cells ([.slice none 0 0, .slice none 0 0] : List Value).toArray 32)) ch 24
      rw [size_alloc] at hrd
      generalize hg : (w.alloc _).alloc _ = W0 at *
      clear hg
      refine (areParts_any _ [ch] (by simp) _ hrd).mono ?_
      rintro e w1 ⟨rfl, hd⟩
      have hb := below_of_drew hd
      clear hd hrd
      replace B := B.below hb
      replace hT := below_to hT hb hT.size
      clear hb
      rw [HALL.out, Hp.out]
      have d0 := B.cell 0 _ rfl
      have d1 := B.cell 1 _ rfl
      have f0 := B.free 0
      have f1 := B.free 1
      go_wp2
      refine bodyPost_ret (v := .tuple #[shV (.slice none 0 0) (.slice none 0 0), .bool false]) (by simp [results, Try.results9, go_sem, *]) rfl ?_
      unfold RetHitsShare
      rw [Ho.out]
      exact RetSh.none ((hT.setCell (by simp) _).setCell (by simp) _)
    · have Ho := Lib.hid (hitOk_t (show hitOk1 N ch = true by unfold hitOk1; rw [hp, hi]; rfl))
      have Hi := Lib.hid hi
      have Hp := Lib.hid hp
      clear hi hp hnr
      go_enter Try.func9, Try.ntmps9
      go_wp2_with (go_at_call 15; refine (within_any _ _ _ _).mono ?_; rintro e w' ⟨rfl, rfl⟩; rw [Hi.out])
      have B : BoxAt ((w.alloc (.cells ([.slice none 0 0, .slice none 0 0] : List Value).toArray 32)).alloc (.cells #[fV ch] 24)) w.heap.size [.slice none 0 0, .slice none 0 0] := (BoxAt.new w _ _).alloc _
      have hT : Below w.heap.size w ((w.alloc (.cells ([.slice none 0 0, .slice none 0 0] : List Value).toArray 32)).alloc (.cells #[fV ch] 24)) := ((Below.refl _ _).alloc (Nat.le_refl _) _).alloc (by simp) _
      have hrd := rd_one fV (w.alloc (.cells ([.slice none 0 0, .slice none 0 0] : List Value).toArray 32)) ch 24
      rw [size_alloc] at hrd
      generalize hg : (w.alloc _).alloc _ = W0 at *
      clear hg
      refine (areParts_any _ [ch] (by simp) _ hrd).mono ?_
      rintro e w1 ⟨rfl, hd⟩
      have hb := below_of_drew hd
      clear hd hrd
      replace B := B.below hb
      replace hT := below_to hT hb hT.size
      clear hb
      rw [HALL.out, Hp.out]
      go_wp2_with (at_make; go_loud (refine elF_.make _ rfl _ _ rfl .i64 .i64 _ _ (N + 1) rfl rfl (by omega) (by omega) (by omega) (by omega) ?_))
      intro w2 hown hb hs2
      have hbs := hb.size
      obtain ⟨G, hG⟩ : ∃ G, G = w1.heap.size := ⟨_, rfl⟩
      have hBl := B.lt
      replace B := B.below hb
      replace hT := below_to hT hb hT.size
      rw [← hG] at hown hb hs2 hBl hbs ⊢
      have hGw : w.heap.size < G := hBl
      clear hG hb
      have c2 := hown.cellAt 0 (by simp)
      have f2 := hown.frozenAt 0
      have hst := hown.stored 0 (fV 1065353216)
      simp only [List.getElem?_replicate, Nat.zero_lt_succ, if_true] at c2
      have hys0 : ((List.replicate (N + 1) (Value.float .f32 0)).set 0 (fV 1065353216)) = ((List.replicate (N + 1) 0).set 0 1065353216).map fV := by rw [List.map_set, List.map_replicate]
      rw [hys0] at hst
      have HST := Lib.hid hst.1
      clear hown hst hys0
      go_wp2
      go_loopw [7] (fun sl wr => ∃ (k : Nat) (ys : List Nat), k ≤ N ∧ sl = .int .i64 ((k + 1 : Nat) : Int) ∧ ys.length = N + 1 ∧ wr.ownsRow G 24 1 (.slice (some ⟨G, 0, none⟩) (N + 1) (N + 1)) (N + 1) (ys.map fV) ∧ Hid (absL ys = hitRow (absF .f32 ch) k (N + 1)) ∧ Touch G (G + 1) w2 wr) (fun sl _ => N + 2 - (intOf sl).toNat)
      case atStart => exact ⟨0, _, by omega, rfl, by simp, HST.out, by unfold Hid; rw [hitRow_zero, absL_set, abs_one], Touch.setCell w2 ⟨G, 0, none⟩ _⟩
      case round =>
        obtain ⟨k, ys, hk, rfl, hyl, hown, hy, ht⟩ := hrel
        have HYL := Lib.hid hyl
        clear c2 f2
        by_cases hlt : k < N
        · obtain ⟨wo, rfl⟩ : ∃ wo : World, wo = wr := ⟨_, rfl⟩
          clear hyl
          go_wp2
          go_loopw [8] (fun sj wr => ∃ (j : Nat) (zs : List Nat), j ≤ k + 1 ∧ sj = .int .i64 (j : Int) ∧ Hid (zs.length = N + 1) ∧ wr.ownsRow G 24 1 (.slice (some ⟨G, 0, none⟩) (N + 1) (N + 1)) (N + 1) (zs.map fV) ∧ Hid (absL zs = hitMid (absF .f32 ch) k j (N + 1)) ∧ Touch G (G + 1) w2 wr) (fun sj _ => (intOf sj).toNat)
          case atStart => exact ⟨k + 1, ys, by omega, rfl, HYL, hown, by unfold Hid; rw [hy.out, hitRow_mid], ht⟩
          case round =>
            obtain ⟨j, zs, hj, rfl, hzl, hown, hz, ht⟩ := hrel
            by_cases hj1 : 1 ≤ j
            · obtain ⟨a, ha, haa⟩ := absL_get (xs := zs) (i := j) (by rw [hz.out]; exact hitMid_at _ _ _ _ (by omega))
              obtain ⟨b, hb, hbb⟩ := absL_get (xs := zs) (i := j - 1) (by rw [hz.out]; exact hitMid_at _ _ _ _ (by omega))
              rw [if_neg (by omega)] at haa hbb
              have e1 := hown.cellAt j (by omega)
              have e2 := hown.cellAt (j - 1) (by omega)
              rw [List.getElem?_map, ha, Option.map_some] at e1
              rw [List.getElem?_map, hb, Option.map_some] at e2
              have f1 := hown.frozenAt j
              have HSt := Lib.hid (fun x => (hown.stored j (fV x)).1)
              have HA := Lib.hid haa
              have HB := Lib.hid hbb
              have hsub : IntKind.i64.wrap ((j : Int) - 1) = ((j - 1 : Nat) : Int) := by rw [IntWalk.i64_in _ (by omega)]; omega
              have hp0 : (0 : Int) ≤ ((j - 1 : Nat) : Int) := by omega
              have hp1 : ((j - 1 : Nat) : Int) < ((N + 1 : Nat) : Int) := by omega
              have hq0 : (0 : Int) ≤ (j : Int) := by omega
              have hq1 : (j : Int) < ((N + 1 : Nat) : Int) := by omega
              clear ha hb haa hbb
              go_wp2
              refine wp_region_fq 18 (fun _ _ _ => True) (by kernel_rfl) (by kernel_rfl) ?_
              simp only [List.take, List.drop]
              repeat (first | (refine wpFq_one (by rfl) ?_; go_big_quiet_step (fail); refine wpQuiet_nil ?_) | (refine wpFq_nilc (by rfl) _ rfl _ (by rfl) ?_; simp only [Act.put, List.setIfInBounds_toArray, List.set_cons_zero, List.set_cons_succ]) | (refine wpFq_fl (by rfl) _ _ _ _ _ rfl (by rfl) _ _ _ (by rfl) (by rfl) ?_; intro fb hfb; simp only [Act.put, List.setIfInBounds_toArray, List.set_cons_zero, List.set_cons_succ]) | (refine wpFq_up (by rfl) _ _ _ rfl (by kernel_rfl) (by kernel_rfl) _ (by rfl) ?_; intro fb hfb; simp only [Act.put, List.setIfInBounds_toArray, List.set_cons_zero, List.set_cons_succ]))
              refine wpFq_nil ?_
              intro nq
              rename_i g1 k1 g2 k2 g3 k3
              have HF : Hid (absF .f32 fb = hitA (absF .f32 ch) (k + 1) j) := by
                unfold Hid
                rw [hfb, k2, k3, k1, HA.out, HB.out, abs_one]
                exact (hitA_step _ (by omega) (by omega)).symm
              clear k1 k2 k3 hfb
              go_wp2
              go_roundw
              case rel =>
                refine ⟨j - 1, zs.set j fb, by omega, rfl, by unfold Hid; rw [List.length_set]; exact hzl.out, ?_, ?_, (ht.drewN nq).trans (Touch.setCell _ ⟨G, j, none⟩ _)⟩
                · rw [List.map_set]; exact World.ownsRow.drewN' (HSt.out fb) nq
                · unfold Hid
                  rw [absL_set, hz.out, HF.out]
                  exact hitMid_set _ hj1 (by omega)
              case measure => simp [intOf]; omega
            · have hj0 : j = 0 := by omega
              subst hj0
              obtain ⟨a, ha, haa⟩ := absL_get (xs := zs) (i := 0) (by rw [hz.out]; exact hitMid_at _ _ _ _ (by omega))
              rw [if_neg (by omega)] at haa
              have e1 := hown.cellAt 0 (by omega)
              rw [List.getElem?_map, ha, Option.map_some] at e1
              have f1 := hown.frozenAt 0
              have HSt : Hid (∀ x, (wr.setCell ⟨G, 0, none⟩ (fV x)).ownsRow G 24 1 (.slice (some ⟨G, 0, none⟩) (N + 1) (N + 1)) (N + 1) ((zs.set 0 x).map fV)) := fun x => by rw [List.map_set]; exact (hown.stored 0 (fV x)).1
              have HA := Lib.hid haa
              clear ha haa
              go_wp2
              go_roundw
              case rel =>
                refine ⟨k + 1, _, by omega, by go_num, ?_, World.ownsRow.drewN' (HSt.out _) _, ?_, (ht.drewN _).trans (Touch.setCell _ ⟨G, 0, none⟩ _)⟩
                · rw [List.length_set]; exact hzl.out
                unfold Hid
                rw [absL_set, hz.out, abs_flR .mul rfl, abs_flR .sub rfl, HA.out, abs_one]
                exact hitMid_zero _ (by omega)
              case measure => simp [intOf]; omega
        · have hke : k = N := by omega
          subst hke
          have hge := hown.lt G rfl
          have hown' : Own fV 24 wr G (.slice (some ⟨G, 0, none⟩) (k + 1) (k + 1)) ys := by unfold Own; rw [hyl]; exact hown
          replace B := B.touch ht (.inl hGw)
          have hbt := ht.below (Nat.le_of_lt hGw) hT.size
          replace hT := hT.trans hbt
          clear hbt ht hown hyl
          go_wp2_with (go_at_call 18; refine (countsFrom0_any k (by omega) _).mono ?_)
          rintro e w3 ⟨v', rfl, hcn, hb⟩
          replace hown' := hown'.below hb
          replace B := B.below hb
          replace hT := below_to hT hb hT.size
          clear hb
          obtain ⟨Ac, capc, rfl, hcapc, hAc⟩ := hcn.rd
          clear hAc
          go_wp2_with (go_at_call 17; refine (checkedShare_any _ (cntL (k + 1)) _ ys (by rw [cntL_len]; omega) (by rw [HYL.out]; omega) _ hcn.rd hown'.rd).mono ?_)
          rintro e w4 ⟨rfl, hb⟩
          replace hown' := hown'.below hb
          replace hcn := hcn.below hb
          replace B := B.below hb
          replace hT := below_to hT hb hT.size
          clear hb
          have hrg := hcn.lt
          have hsok : shareB (cntL (k + 1)) ys = hitOk k ch := by
            rw [Ho.out, shareB_abs, hy.out, Int.toNat_natCast]; rfl
          have d0 := B.cell 0 _ rfl
          have d1 := B.cell 1 _ rfl
          have f0 := B.free 0
          have f1 := B.free 1
          have HT := Lib.hid hT
          clear hT
          cases hs : shareB (cntL (k + 1)) ys
          all_goals
            rw [hs] at hsok
            have HS := Lib.hid hsok
            have HS' := Lib.hid hs
            clear hsok hs
            simp only [chkV, if_true, Bool.false_eq_true, if_false]
            go_wp2
          · refine bodyPost_ret (v := .tuple #[shV (.slice none 0 0) (.slice none 0 0), .bool false]) (by simp [results, Try.results9, go_sem, *]) rfl ?_
            unfold RetHitsShare
            rw [← HS.out]
            exact RetSh.none ((HT.out.setCell (by simp) _).setCell (by simp) _)
          · refine bodyPost_ret (v := .tuple #[shV (.slice Ac (cntL (k + 1)).length capc) (.slice (some ⟨G, 0, none⟩) (k + 1) (k + 1)), .bool true]) (by simp [results, Try.results9, go_sem, *]) rfl ?_
            unfold RetHitsShare
            rw [← HS.out]
            refine ⟨_, cntL (k + 1), _, ys, rfl, ?_, ?_, ?_, by rw [cntL_len]; omega, by rw [HYL.out]; omega, by rw [Int.toNat_natCast]; rfl, by rw [hy.out]; unfold hitC; rw [Int.toNat_natCast]; rfl, (HT.out.setCell (by simp) _).setCell (by simp) _⟩
            · exact ((hcn.ranged.other (p := ⟨w.heap.size, 0, none⟩) (.inl (by show w.heap.size < _; omega)) _).other (p := ⟨w.heap.size, 1, none⟩) (.inl (by show w.heap.size < _; omega)) _).own.base_ (by omega)
            · exact ((hown'.ranged.other (p := ⟨w.heap.size, 0, none⟩) (.inl (by show w.heap.size < _; omega)) _).other (p := ⟨w.heap.size, 1, none⟩) (.inl (by show w.heap.size < _; omega)) _).own.base_ (by omega)
            · cases hAb : (Value.slice Ac (cntL (k + 1)).length capc).ownBlock with
              | none => exact .inl rfl
              | some a =>
                refine .inr fun e => ?_
                have := hrg a hAb
                have : a = G := by simpa [Value.ownBlock] using e
                omega
end Go.Proofs.Ythafpbhjpmnddaa
