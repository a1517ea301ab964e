/-
  Shares of rare hits: impl.RareShare.
-/
import Derived.Test.YthafpbhjpmnddaaHits2
namespace Go.Proofs.Ythafpbhjpmnddaa
open Go.RowKit
attribute [local go_sem] run_fl_add run_fl_sub run_fl_mul run_fl_quo run_up_ run_store_float

/-- What stands for the weight of k hits. -/
def rareA (r : Option Nat) : Nat → Option Nat
  | 0 => oneN
  | k + 1 => opF .quo .f32 (opF .mul .f32 (rareA r k) r) (absF .f32 (floatOfInt .f32 ((k : Int) + 1)))
def rareRow (r : Option Nat) (L : Nat) : List (Option Nat) := (List.range L).map (rareA r)
theorem rareRow_succ (r : Option Nat) (k : Nat) : rareRow r (k + 1) = rareRow r k ++ [rareA r k] := by simp [rareRow, List.range_succ]
theorem rareRow_at (r : Option Nat) {k L : Nat} (h : k < L) : (rareRow r L)[k]? = some (rareA r k) := by simp [rareRow, List.getElem?_range h]
theorem rareRow_len (r : Option Nat) (L : Nat) : (rareRow r L).length = L := by simp [rareRow]
/-- The first k of a row, by S; the rest as it is. -/
def divTo (S : Option Nat) (l : List (Option Nat)) (k : Nat) : List (Option Nat) := (l.take k).map (fun x => opF .quo .f32 x S) ++ l.drop k
theorem divTo_zero (S : Option Nat) (l : List (Option Nat)) : divTo S l 0 = l := by simp [divTo]
theorem divTo_at (S : Option Nat) {l : List (Option Nat)} {k : Nat} (h : k < l.length) : (divTo S l k)[k]? = l[k]? := by
  unfold divTo
  rw [List.getElem?_append_right (by simp; omega)]
  simp
  congr 1
  omega
theorem divTo_set (S : Option Nat) {l : List (Option Nat)} {k : Nat} {a : Option Nat} (h : l[k]? = some a) : (divTo S l k).set k (opF .quo .f32 a S) = divTo S l (k + 1) := by
  have hk := lt_of_get h
  unfold divTo
  rw [List.set_append_right _ _ (by simp; omega), take_snoc h]
  have hl : ((l.take k).map fun x => opF .quo .f32 x S).length = k := by simp; omega
  rw [hl, Nat.sub_self]
  have hd : l.drop k = a :: l.drop (k + 1) := by
    rw [List.drop_eq_getElem_cons hk]
    congr 1
    rw [List.getElem?_eq_getElem hk] at h
    exact Option.some.inj h
  rw [hd, List.set_cons_zero]
  simp
section
variable {w : World} {b g c m : Nat} {xs : List Nat}
theorem own_len (h : Own fV 24 w b (.slice (some ⟨g, 0, none⟩) m c) xs) : m = xs.length := by
  rcases h.2 with ⟨e, _⟩ | ⟨g', cap, cur, e, _⟩
  · cases e
  · cases e; rfl
theorem own_at (h : Own fV 24 w b (.slice (some ⟨g, 0, none⟩) m c) xs) {j x : Nat} (hx : xs[j]? = some x) : w.cell? ⟨g, j, none⟩ = some (fV x) := by
  have hm := own_len h
  subst hm
  have ho : w.ownsRow b 24 1 (.slice (some ⟨g, 0, none⟩) xs.length c) xs.length (xs.map fV) := h
  have := ho.cellAt j (by have := lt_of_get hx; omega)
  rw [List.getElem?_map, hx, Option.map_some] at this
  exact this
theorem own_free (h : Own fV 24 w b (.slice (some ⟨g, 0, none⟩) m c) xs) (j : Nat) : w.frozen? ⟨g, j, none⟩ = false := by
  have hm := own_len h
  subst hm
  have ho : w.ownsRow b 24 1 (.slice (some ⟨g, 0, none⟩) xs.length c) xs.length (xs.map fV) := h
  exact ho.frozenAt j
theorem own_put (h : Own fV 24 w b (.slice (some ⟨g, 0, none⟩) m c) xs) (j x : Nat) : Own fV 24 (w.setCell ⟨g, j, none⟩ (fV x)) b (.slice (some ⟨g, 0, none⟩) m c) (xs.set j x) := by
  have hm := own_len h
  subst hm
  unfold Own
  rw [List.map_set, List.length_set]
  exact (World.ownsRow.stored (w := w) h j (fV x)).1
end
def rareC (r : Nat) (n : Int) : List (Option Nat) := divTo (sumF (rareRow (absF .f32 r) (n.toNat + 1))) (rareRow (absF .f32 r) (n.toNat + 1)) (n.toNat + 1)
def rareOk1 (r : Nat) (n : Int) : Bool := geB r 0 && leB r 1107296256 && inB n 0 63
def rareOk (r : Nat) (n : Int) : Bool := rareOk1 r n && shareAB (cntL (n.toNat + 1)) (rareC r n)
def RetRareShare (r : Nat) (n : Int) (w : World) (e : Ending) (w' : World) : Prop := RetSh (rareOk r n) (absL (cntL (n.toNat + 1))) (rareC r n) w e w'
theorem rareOk_f {r : Nat} {n : Int} (h : rareOk1 r n = false) : rareOk r n = false := by unfold rareOk; rw [h]; rfl
theorem rareOk_t {r : Nat} {n : Int} (h : rareOk1 r n = true) : rareOk r n = shareAB (cntL (n.toNat + 1)) (rareC r n) := by unfold rareOk; rw [h]; rfl

set_option maxHeartbeats 3200000 in
theorem implRareShare_any (r : Nat) (n : Int) (w : World) :
    Calls Try.prog 12 #[fV r, .int .i64 n] w (RetRareShare r n w) := by
  cases ho : rareOk1 r n
  · have Ho := Lib.hid (rareOk_f ho)
    cases hg : geB r 0 <;> cases hl : leB r 1107296256 <;> cases hi : inB n 0 63
    all_goals first | (exfalso; unfold rareOk1 at ho; rw [hg, hl, hi] at ho; cases ho; done) | skip
    all_goals
      have hg' : (FloatKind.f32.format.order r 0 == some .gt || FloatKind.f32.format.order r 0 == some .eq) = _ := hg
      have hl' : (FloatKind.f32.format.order r 1107296256 == some .lt || FloatKind.f32.format.order r 1107296256 == some .eq) = _ := hl
      have Hi := Lib.hid hi
      clear hi hg hl ho
      go_enter Try.func12, Try.ntmps12
      go_wp2_with (go_at_call 15; refine (within_any _ _ _ _).mono ?_; rintro e w' ⟨rfl, rfl⟩; rw [Hi.out])
      refine bodyPost_ret (v := .tuple #[shV (.slice none 0 0) (.slice none 0 0), .bool false]) (by simp [results, Try.results12, go_sem, *]) rfl ?_
      unfold RetRareShare
      rw [Ho.out]
      exact RetSh.none (by first | exact below_alloc _ _ | (exact ((below_alloc w _).setCell (by simp) _).setCell (by simp) _))
  · have Ho := Lib.hid (rareOk_t ho)
    have ho' := ho
    unfold rareOk1 at ho'
    simp only [Bool.and_eq_true] at ho'
    obtain ⟨⟨hg, hl⟩, hi⟩ := ho'
    have hnr := inB_true hi
    obtain ⟨N, rfl⟩ : ∃ N : Nat, n = (N : Int) := ⟨n.toNat, by omega⟩
    have hN : N ≤ 63 := by omega
    have hg' : (FloatKind.f32.format.order r 0 == some .gt || FloatKind.f32.format.order r 0 == some .eq) = true := hg
    have hl' : (FloatKind.f32.format.order r 1107296256 == some .lt || FloatKind.f32.format.order r 1107296256 == some .eq) = true := hl
    have Hi := Lib.hid hi
    clear hi hg hl ho hnr
    go_enter Try.func12, Try.ntmps12
    go_wp2_with (go_at_call 15; refine (within_any _ _ _ _).mono ?_; rintro e w' ⟨rfl, rfl⟩; rw [Hi.out])
    have B : BoxAt ((w.alloc (.cells ([.slice none 0 0, .slice none 0 0] : List Value).toArray 32)).alloc (.cells #[fV 1065353216] 24)) w.heap.size [.slice none 0 0, .slice none 0 0] := (BoxAt.new w _ _).alloc _
    have hT : Below w.heap.size w ((w.alloc (.cells ([.slice none 0 0, .slice none 0 0] : List Value).toArray 32)).alloc (.cells #[fV 1065353216] 24)) := (below_alloc w _).alloc (by simp) _
    have hO := own_one (w.alloc (.cells ([.slice none 0 0, .slice none 0 0] : List Value).toArray 32)) (w.heap.size + 1) 1065353216 (by simp)
    rw [size_alloc] at hO
    generalize hgw : (w.alloc _).alloc _ = W0 at *
    clear hgw
    go_loopw [6, 7] (fun so sl wr => ∃ (k : Nat) (ys : List Nat), k ≤ N ∧ sl = .int .i64 ((k + 1 : Nat) : Int) ∧ Own fV 24 wr (w.heap.size + 1) so ys ∧ Hid (ys.length = k + 1) ∧ Hid (absL ys = rareRow (absF .f32 r) (k + 1)) ∧ BoxAt wr w.heap.size [.slice none 0 0, .slice none 0 0] ∧ Below w.heap.size w wr) (fun _ sl _ => N + 2 - (intOf sl).toNat)
    case atStart => exact ⟨0, [1065353216], by omega, rfl, hO, rfl, hitRow_one (absF .f32 r) _ abs_one, B, hT⟩
    case round =>
      obtain ⟨k, ys, hk, rfl, hown, hyl, hy, hB, hb⟩ := hrel
      clear B hT hO
      have hsz := hB.lt
      obtain ⟨g, c, rfl, _, hgb, _⟩ := hown.form (by rw [hyl.out]; omega)
      rw [hyl.out] at hown ⊢
      by_cases hlt : k < N
      · obtain ⟨a, ha, haa⟩ := absL_get (xs := ys) (i := k) (by rw [hy.out]; exact rareRow_at _ (by omega))
        have e1 := own_at hown ha
        have hp0 : (0 : Int) ≤ (k : Int) := by omega
        have hp1 : (k : Int) < ((k + 1 : Nat) : Int) := by omega
        have hp2 : (k : Int) < (k : Int) + 1 := by omega
        have hyl' := hyl
        have HA := Lib.hid haa
        have HOW := Lib.hid hown
        clear ha haa hown
        go_wp2_with (at_builtin; go_loud (refine elF_.app (fun _ => rfl) _ rfl _ _ rfl (w.heap.size + 1) _ ys rfl (Own.alloc (Own.drewN HOW.out _) _) _ _ rfl (rd_one fV _ _ _) (by omega) (by rw [hyl'.out]; simp; omega) (by simp; omega) ?_))
        intro v' w' ho hg hbb hp
        go_wp2
        go_roundw
        case rel =>
          refine ⟨k + 1, _, by omega, by go_num, ho, by unfold Hid; rw [List.length_append, hyl.out]; rfl, ?_, (BoxAt.alloc (BoxAt.below hB (below_drewN_ (Below.refl _ _))) _).below' hbb (by simp; omega) (by omega), ((below_drewN_ hb).alloc (by simp; omega) _).trans (hbb.mono (by omega))⟩
          unfold Hid
          rw [rareRow_succ, ← hy.out]
          simp only [absL, List.map_append, List.map_cons, List.map_nil]
          rw [abs_flR .quo rfl, abs_flR .mul rfl, HA.out]
          rfl
        case measure => simp [intOf]; omega
      · have hke : N = k := by omega
        subst hke
        have hgl := Own.lt hown g rfl
        go_wp2_with (go_at_call 22; refine (sum_any _ ys (by rw [hyl.out]; omega) _ hown.rd).mono ?_)
        rintro e w2 ⟨sb, rfl, hsb, n2, rfl⟩
        have HSb : Hid (absF .f32 sb = sumF (rareRow (absF .f32 r) (N + 1))) := by unfold Hid; rw [hsb, hy.out]
        clear hsb
        have HOW := Lib.hid (Own.drewN hown n2)
        clear hown
        go_wp2
        go_loopw [46] (fun si wr' => ∃ (k : Nat) (zs : List Nat), k ≤ N + 1 ∧ si = .int .i64 k ∧ Hid (zs.length = N + 1) ∧ Own fV 24 wr' (w.heap.size + 1) (.slice (some ⟨g, 0, none⟩) (N + 1) c) zs ∧ Hid (absL zs = divTo (sumF (rareRow (absF .f32 r) (N + 1))) (rareRow (absF .f32 r) (N + 1)) k) ∧ BoxAt wr' w.heap.size [.slice none 0 0, .slice none 0 0] ∧ Below w.heap.size w wr') (fun si _ => N + 1 - (intOf si).toNat)
        case atStart => exact ⟨0, ys, by omega, rfl, hyl, HOW.out, by unfold Hid; rw [divTo_zero, hy.out], BoxAt.below hB (below_drewN_ (Below.refl _ _)), below_drewN_ hb⟩
        case round =>
          obtain ⟨k, zs, hk, rfl, hzl, hown, hz, B, hT⟩ := hrel
          by_cases hlt : k < N + 1
          · obtain ⟨a, ha, haa⟩ := absL_get (xs := zs) (i := k) (by rw [hz.out, divTo_at _ (by rw [rareRow_len]; exact hlt)]; exact rareRow_at _ hlt)
            have e1 := own_at hown ha
            have f1 := own_free hown k
            have HSt := Lib.hid (fun x => own_put hown k x)
            have HA := Lib.hid haa
            have hp0 : (0 : Int) ≤ (k : Int) := by omega
            have hp1 : (k : Int) < ((N + 1 : Nat) : Int) := by omega
            clear ha haa hown
            go_wp2
            go_roundw
            case rel =>
              refine ⟨k + 1, _, by omega, by go_num, ?_, Own.drewN (HSt.out _) _, ?_, BoxAt.below (B.other (p := ⟨g, k, none⟩) (by show g ≠ _; omega) _) (below_drewN_ (Below.refl _ _)), below_drewN_ (hT.setCell (p := ⟨g, k, none⟩) (by show _ ≤ g; omega) _)⟩
              · unfold Hid; rw [List.length_set]; exact hzl.out
              · unfold Hid
                rw [absL_set, hz.out, abs_flR .quo rfl, HA.out, HSb.out]
                exact divTo_set _ (rareRow_at _ hlt)
            case measure => simp [intOf]; omega
          · have hke : k = N + 1 := by omega
            subst hke
            have hge := Own.lt hown g rfl
            have hown' := hown
            clear hown
            go_wp2_with (go_at_call 18; refine (countsFrom0_any N (by omega) _).mono ?_)
            rintro e w3 ⟨v', rfl, hcn, hb⟩
            replace hown' := hown'.below hb
            replace B := B.below hb
            replace hT := below_to hT hb hT.size
            clear hb
            obtain ⟨Ac, capc, rfl, hcapc, hAc⟩ := hcn.rd
            clear hAc
            go_wp2_with (go_at_call 17; refine (checkedShare_any _ (cntL (N + 1)) _ zs (by rw [cntL_len]; omega) (by rw [hzl.out]; omega) _ hcn.rd hown'.rd).mono ?_)
            rintro e w4 ⟨rfl, hb⟩
            replace hown' := hown'.below hb
            replace hcn := hcn.below hb
            replace B := B.below hb
            replace hT := below_to hT hb hT.size
            clear hb
            have hrg := hcn.lt
            have hsok : shareB (cntL (N + 1)) zs = rareOk r N := by
              rw [Ho.out, shareB_abs, hz.out]; unfold rareC; rw [Int.toNat_natCast]
            have d0 := B.cell 0 _ rfl
            have d1 := B.cell 1 _ rfl
            have f0 := B.free 0
            have f1 := B.free 1
            have HT := Lib.hid hT
            clear hT
            cases hs : shareB (cntL (N + 1)) zs
            all_goals
              rw [hs] at hsok
              have HS := Lib.hid hsok
              have HS' := Lib.hid hs
              clear hsok hs
              simp only [chkV, if_true, Bool.false_eq_true, if_false]
              go_wp2
            · refine bodyPost_ret (v := .tuple #[shV (.slice none 0 0) (.slice none 0 0), .bool false]) (by simp [results, Try.results12, go_sem, *]) rfl ?_
              unfold RetRareShare
              rw [← HS.out]
              exact RetSh.none ((HT.out.setCell (by simp) _).setCell (by simp) _)
            · refine bodyPost_ret (v := .tuple #[shV (.slice Ac (cntL (N + 1)).length capc) (.slice (some ⟨g, 0, none⟩) (N + 1) c), .bool true]) (by simp [results, Try.results12, go_sem, *]) rfl ?_
              unfold RetRareShare
              rw [← HS.out]
              refine ⟨_, cntL (N + 1), _, zs, rfl, ?_, ?_, ?_, by rw [cntL_len]; omega, by rw [hzl.out]; omega, by rw [Int.toNat_natCast]; rfl, by rw [hz.out]; unfold rareC; rw [Int.toNat_natCast]; rfl, (HT.out.setCell (by simp) _).setCell (by simp) _⟩
              · exact ((hcn.ranged.other (p := ⟨w.heap.size, 0, none⟩) (.inl (by show w.heap.size < _; omega)) _).other (p := ⟨w.heap.size, 1, none⟩) (.inl (by show w.heap.size < _; omega)) _).own.base_ (by omega)
              · exact ((hown'.ranged.other (p := ⟨w.heap.size, 0, none⟩) (.inl (by show w.heap.size < _; omega)) _).other (p := ⟨w.heap.size, 1, none⟩) (.inl (by show w.heap.size < _; omega)) _).own.base_ (by omega)
              · cases hAb : (Value.slice Ac (cntL (N + 1)).length capc).ownBlock with
                | none => exact .inl rfl
                | some a =>
                  refine .inr fun e => ?_
                  have := hrg a hAb
                  have : a = g := by simpa [Value.ownBlock] using e
                  omega
end Go.Proofs.Ythafpbhjpmnddaa
