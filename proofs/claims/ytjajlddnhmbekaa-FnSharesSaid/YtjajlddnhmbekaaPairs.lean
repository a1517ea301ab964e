/-
  The reference's combination of two shares: spec.l05Pairs, walked; the two closures of the program.
-/
import Derived.Test.YtjajlddnhmbekaaComb
namespace Go.Proofs.Ytjajlddnhmbekaa
open Go.RowKit
attribute [local go_sem] run_fl_add run_fl_sub run_fl_mul run_fl_quo run_up_

/-- The sum of two words, and the greater of two. -/
def addR (a b : Nat) : Nat := (floatBits .add .f32 a b).getD 0
def pairR (plus : Bool) (a b : Nat) : Nat := if plus then addR a b else grW a b
def pairG (plus : Bool) (a b : Nat) : Option Nat := if plus then addW a b else absF .f32 (grW a b)
theorem addR_bits {a b : Nat} (ha : finB a = true) (hb : finB b = true) : floatBits .add .f32 a b = some (addR a b) := by
  obtain ⟨r, hr⟩ := fin_sum ha hb
  unfold addR
  rw [hr]; rfl
theorem pair_abs (plus : Bool) (a b : Nat) (ha : finB a = true) (hb : finB b = true) : absF .f32 (pairR plus a b) = pairG plus a b := by
  unfold pairR pairG
  cases plus
  · rfl
  · exact abs_bits (addR_bits ha hb)
section
variable {w : World} {base : Nat} {v0 v1 u0 u1 : Value} {x0 x1 : List Nat}
/-- The first of two rows has grown. -/
theorem own_apart (o1 : Own fV 28 w base v1 x1) (ap : v0.ownBlock = none ∨ v0.ownBlock ≠ v1.ownBlock) {N : Nat} (hN : w.heap.size ≤ N) (hp : u0.ownBlock = v0.ownBlock ∨ u0.ownBlock = some N) : u0.ownBlock = none ∨ u0.ownBlock ≠ v1.ownBlock := by
  cases hu : u0.ownBlock with
  | none => exact .inl rfl
  | some a =>
    refine .inr fun e => ?_
    have hl := (o1.lt a e.symm).2
    rcases hp with e' | e'
    · rcases ap with k | k
      · rw [hu, k] at e'; cases e'
      · exact k (e'.symm.trans (hu.trans e))
    · rw [hu] at e'; injection e' with e'; omega
/-- The second one has grown. -/
theorem own_apart2 (o0 : Own fV 28 w base v0 x0) (ap : v0.ownBlock = none ∨ v0.ownBlock ≠ v1.ownBlock) (hp : u1.ownBlock = v1.ownBlock ∨ u1.ownBlock = some w.heap.size) : v0.ownBlock = none ∨ v0.ownBlock ≠ u1.ownBlock :=
  apart_symm (own_apart o0 (apart_symm ap) (Nat.le_refl _) hp)
end

set_option maxHeartbeats 6400000 in
set_option maxRecDepth 100000 in
theorem l05Pairs_any (plus : Bool) (b0 b2 : Nat) (s0 : Value) (x0 : List Nat) (s1 : Value) (x1 : List Nat) (s2 : Value) (x2 : List Nat) (s3 : Value) (x3 : List Nat) (hs : shareB x0 x1 = true) (hs2 : shareB x2 x3 = true) (w : World) (hB0 : BoxAt w b0 [s0, s1]) (hB2 : BoxAt w b2 [s2, s3]) (hr0 : Rd fV w s0 x0) (hr1 : Rd fV w s1 x1) (hr2 : Rd fV w s2 x2) (hr3 : Rd fV w s3 x3) :
    Calls Try.prog 23 #[.pointer (some ⟨b0, 0, none⟩), .pointer (some ⟨b2, 0, none⟩), .bool plus] w (RetGather (combV (pairG plus) x0 x2) (combC x1 x3) w) := by
  have HR0 := Lib.hid hr0
  obtain ⟨A0, cap0, rfl, hcap0, hA0⟩ := hr0
  have HA0 := Lib.hid hA0
  clear hA0
  have HR1 := Lib.hid hr1
  obtain ⟨A1, cap1, rfl, hcap1, hA1⟩ := hr1
  have HA1 := Lib.hid hA1
  clear hA1
  have HR2 := Lib.hid hr2
  obtain ⟨A2, cap2, rfl, hcap2, hA2⟩ := hr2
  have HA2 := Lib.hid hA2
  clear hA2
  have HR3 := Lib.hid hr3
  obtain ⟨A3, cap3, rfl, hcap3, hA3⟩ := hr3
  have HA3 := Lib.hid hA3
  clear hA3
  have hl := shareB_len hs
  have hl2 := shareB_len hs2
  have F0 := Lib.hid (share_fin hs)
  have F2 := Lib.hid (share_fin hs2)
  have HLEN := Lib.hid hl.2
  have HLEN2 := Lib.hid hl2.2
  have h64 : x0.length ≤ 64 := hl.1.2
  have h1 : 1 ≤ x0.length := hl.1.1
  have h642 : x2.length ≤ 64 := hl2.1.2
  have h12 : 1 ≤ x2.length := hl2.1.1
  clear hs hs2 hl hl2
  have d0 := hB0.cell 0 _ rfl
  have hlt0 := hB0.lt
  have hlt2 := hB2.lt
  have hl01 : b0 < w.heap.size + 1 := by omega
  have hl02 : b0 < w.heap.size + 1 + 1 := by omega
  go_enter Try.func23, Try.ntmps23
  go_wp2
  have B1 : BoxAt (w.alloc (.cells ([.slice none 0 0, .slice none 0 0] : List Value).toArray 26)) w.heap.size [.slice none 0 0, .slice none 0 0] := BoxAt.new w _ _
  have B0 := hB0.alloc (.cells ([.slice none 0 0, .slice none 0 0] : List Value).toArray 26)
  have B2 := hB2.alloc (.cells ([.slice none 0 0, .slice none 0 0] : List Value).toArray 26)
  have hT : Below w.heap.size w (w.alloc (.cells ([.slice none 0 0, .slice none 0 0] : List Value).toArray 26)) := below_alloc w _
  have hz2 : (w.alloc (.cells ([.slice none 0 0, .slice none 0 0] : List Value).toArray 26)).heap.size = w.heap.size + 1 := by simp
  generalize hg : w.alloc _ = w2 at *
  clear hg hB0 hB2 d0 hl01 hl02
  have HT2 := Lib.hid hT
  have hTz := hT.size
  go_loopw [8, 9, 20] (fun so sc si wr => ∃ (i : Nat) (zs cs : List Nat), i ≤ x0.length ∧ si = .int .i64 i ∧ Own fV 28 wr w2.heap.size so zs ∧ Own fV 28 wr w2.heap.size sc cs ∧ (so.ownBlock = none ∨ so.ownBlock ≠ sc.ownBlock) ∧ Hid (absL zs = fullP (pairG plus) x0 x2 i ∧ absL cs = fullP mulW x1 x3 i) ∧ Below w2.heap.size w2 wr) (fun _ _ si _ => x0.length - (intOf si).toNat)
  case atStart =>
    rw [← hz2]
    refine ⟨0, [], [], by omega, rfl, (own_nil_new fV _ _).alloc _, ?_, .inr (by simp [Value.ownBlock]), ⟨rfl, rfl⟩, ((Below.refl _ _).alloc (Nat.le_refl _) _).alloc (by simp) _⟩
    have h := own_nil_new fV (w2.alloc (.cells #[] 28)) 28
    rw [size_alloc] at h
    exact h.base_ (by omega)
  case round =>
    obtain ⟨i, zs, cs, hi, rfl, hO0, hO1, hap, hz, hb⟩ := hrel
    have hz1 : w.heap.size < w2.heap.size := by omega
    clear hz2
    by_cases hlt : i < x0.length
    · obtain ⟨x, hx⟩ := get_of_lt hlt
      obtain ⟨xc, hxc⟩ := get_of_lt (xs := x1) (k := i) (by rw [HLEN.out]; exact hlt)
      obtain ⟨ad0, rfl, hbl0, hcell0⟩ := HA0.out i x hx
      obtain ⟨ad1, rfl, hbl1, hcell1⟩ := HA1.out i xc hxc
      have HC0 := Lib.hid hcell0
      have HC1 := Lib.hid hcell1
      have HX := Lib.hid hx
      have HXC := Lib.hid hxc
      have hi0 : (0 : Int) ≤ (i : Int) := by omega
      have hi1 : (i : Int) < (x0.length : Int) := by omega
      have hi2 : (i : Int) < (x1.length : Int) := by rw [HLEN.out]; omega
      have hBr2 := B2.below hb
      have m2 := hBr2.cell 0 _ rfl
      have HZ := Lib.hid hz
      clear hx hxc hcell0 hcell1 hBr2 hz
      go_wp2
      go_loopw [8, 9, 12, 28] (fun so sc _ sk wr => ∃ (k : Nat) (zs cs : List Nat), k ≤ x2.length ∧ sk = .int .i64 k ∧ Own fV 28 wr w2.heap.size so zs ∧ Own fV 28 wr w2.heap.size sc cs ∧ (so.ownBlock = none ∨ so.ownBlock ≠ sc.ownBlock) ∧ Hid (absL zs = partP (pairG plus) x0 x2 i k x ∧ absL cs = partP mulW x1 x3 i k xc) ∧ Below w2.heap.size w2 wr) (fun _ _ _ sk _ => x2.length - (intOf sk).toNat)
      case atStart => exact ⟨0, zs, cs, by omega, rfl, hO0, hO1, hap, ⟨by rw [partP_zero]; exact HZ.out.1, by rw [partP_zero]; exact HZ.out.2⟩, hb⟩
      case round =>
        clear hO0 hO1 hap HZ hb m2
        obtain ⟨k, zs, cs, hk, rfl, hO0, hO1, hap, hz, hb⟩ := hrel
        have hzl : zs.length ≤ 4200 := by rw [← absL_len2, hz.out.1]; exact partP_le _ _ _ h64 h642 hi
        have hcl : cs.length ≤ 4200 := by rw [← absL_len2, hz.out.2]; exact partP_le _ _ _ (by rw [HLEN.out]; exact h64) (by rw [HLEN2.out]; exact h642) (by rw [HLEN.out]; exact hi)
        by_cases hlk : k < x2.length
        · obtain ⟨y, hy⟩ := get_of_lt hlk
          obtain ⟨yc, hyc⟩ := get_of_lt (xs := x3) (k := k) (by rw [HLEN2.out]; exact hlk)
          obtain ⟨ad2, rfl, hbl2, hcell2⟩ := HA2.out k y hy
          obtain ⟨ad3, rfl, hbl3, hcell3⟩ := HA3.out k yc hyc
          have hTr : Below w.heap.size w wr := hT.trans (hb.mono hTz)
          have e0 : wr.cell? (ad0.add i) = some (fV x) := by rw [hTr.cell (by rw [add_block]; exact hbl0)]; exact HC0.out
          have e2 : wr.cell? (ad2.add k) = some (fV y) := by rw [hTr.cell (by rw [add_block]; exact hbl2)]; exact hcell2
          have HC3 := Lib.hid hcell3
          have HFX := Lib.hid (List.all_eq_true.1 F0.out.1 x (List.mem_of_getElem? HX.out))
          have HFY := Lib.hid (List.all_eq_true.1 F2.out.1 y (List.mem_of_getElem? hy))
          have hfxc := List.all_eq_true.1 F0.out.2 xc (List.mem_of_getElem? HXC.out)
          have hfyc := List.all_eq_true.1 F2.out.2 yc (List.mem_of_getElem? hyc)
          obtain ⟨q, hqb⟩ := fin_mul hfxc hfyc
          have HQB := Lib.hid hqb
          have HQA : Hid (absF .f32 q = mulW xc yc) := abs_bits hqb
          have HZA : Hid (absF .f32 (pairR plus x y) = pairG plus x y) := pair_abs plus x y HFX.out HFY.out
          have HSV := Lib.hid (partP_succ (g := pairG plus) (xs := x0) (i := i) (x := x) hy)
          have HSC := Lib.hid (partP_succ (g := mulW) (xs := x1) (i := i) (x := xc) hyc)
          have hBr0 := B0.below hb
          have hBr2 := B2.below hb
          have m0 := hBr0.cell 0 _ rfl
          have m2 := hBr2.cell 0 _ rfl
          have hk0 : (0 : Int) ≤ (k : Int) := by omega
          have hk1 : (k : Int) < (x2.length : Int) := by omega
          have hbq0 : (ad1.add i).block < w2.heap.size := by rw [add_block]; omega
          have hbq1 : (ad3.add k).block < w2.heap.size := by rw [add_block]; omega
          have hwz := hb.size
          obtain ⟨z, hzz⟩ : ∃ z, z = pairR plus x y := ⟨_, rfl⟩
          rw [← hzz] at HZA
          have HZZ := Lib.hid hzz
          clear hy hyc hcell2 hcell3 hfxc hfyc hqb hBr0 hBr2 hTr hzz
          cases plus
          · have HZ2 : Hid (z = grW x y) := HZZ.out
            cases hgt : (FloatKind.f32.format.order y x == some .gt)
            · have HE : Hid (x = z) := by unfold Hid; rw [HZ2.out]; unfold grW; rw [hgt]; rfl
              go_wp2_with (at_builtin; go_loud (refine elF_.app (fun _ => rfl) _ rfl _ _ rfl w2.heap.size _ zs rfl (Own.alloc hO0 _) _ _ rfl (rd_one fV _ _ _) (by omega) (by simp; omega) (by simp; omega) ?_))
              intro v' wb ho hg hbb hp
              rw [HE.out] at ho
              have hOc := Own.kept (Own.alloc hO1 _) hg (apart_symm hap)
              have hap2 := own_apart hO1 hap (by omega) hp
              replace hb := (hb.alloc (by omega) _).trans hbb
              clear hg hbb hp hO0 hO1 hap e0 e2 m0 m2 hwz
              replace hap := hap2; clear hap2
              have hBr0 := B0.below hb
              have hBr2 := B2.below hb
              have hTr := hT.trans (hb.mono hTz)
              have s1 : wb.drew.cell? ⟨b0, 1, none⟩ = some (.slice (some ad1) x1.length cap1) := hBr0.cell 1 _ rfl
              have s2 : wb.drew.cell? ⟨b2, 1, none⟩ = some (.slice (some ad3) x3.length cap3) := hBr2.cell 1 _ rfl
              have ec : wb.drew.cell? (ad1.add i) = some (fV xc) := by show wb.cell? _ = _; rw [hTr.cell (by rw [add_block]; exact hbl1)]; exact HC1.out
              have ed : wb.drew.cell? (ad3.add k) = some (fV yc) := by show wb.cell? _ = _; rw [hTr.cell (by rw [add_block]; exact hbl3)]; exact HC3.out
              have hwz := hb.size
              have hk2 : (k : Int) < (x3.length : Int) := by rw [HLEN2.out]; omega
              obtain ⟨E0, ca0, rfl, -, -⟩ := ho.rd
              obtain ⟨E1, ca1, rfl, -, -⟩ := hOc.rd
              have HO : Hid (Own fV 28 wb w2.heap.size _ (zs ++ [z]) ∧ Own fV 28 wb w2.heap.size (.slice E1 cs.length ca1) cs) := ⟨ho, hOc⟩
              clear ho hOc hBr0 hBr2 hTr
              go_wp2_with fail
              as_aux_lemma =>
                refine wp_region_T (S4 ⟨b0, 1, none⟩ ⟨b2, 1, none⟩ (ad1.add i) (ad3.add k) (.slice (some ad1) x1.length cap1) (.slice (some ad3) x3.length cap3) (fV xc) (fV yc)) [] (by kernel_rfl) (⟨s1, s2, ec, ed⟩) (fun hS1 => ?_)
                simp only [List.size_toArray, List.length_cons, List.length_nil, Nat.reduceAdd]
                refine wpAnyT_takeY (i := 0) (v := ?_) rfl (by kernel_rfl) (by kernel_rfl) (by kernel_rfl) (fun _ _ _ h => h) (Or.inl ⟨by rfl, ?_⟩) ?_
                rotate_left
                · intro wq; first | (go_simp; done) | (go_simp; with_reducible rfl)
                repeat (first | simp only [List.getElem_toArray] | simp only [List.getElem_cons_succ] | simp only [List.getElem_cons_zero] | simp only [Act.put] | simp only [List.setIfInBounds_toArray] | simp only [List.set_cons_succ] | simp only [List.set_cons_zero])
                refine wpAnyT_takeY (i := 1) (v := ?_) rfl (by kernel_rfl) (by kernel_rfl) (by kernel_rfl) (fun _ _ _ h => h) (Or.inl ⟨by rfl, ?_⟩) ?_
                rotate_left
                · intro wq; first | (go_simp; done) | (go_simp; with_reducible rfl)
                repeat (first | simp only [List.getElem_toArray] | simp only [List.getElem_cons_succ] | simp only [List.getElem_cons_zero] | simp only [Act.put] | simp only [List.setIfInBounds_toArray] | simp only [List.set_cons_succ] | simp only [List.set_cons_zero])
                refine wpAnyT_takeY (i := 2) (v := ?_) rfl (by kernel_rfl) (by kernel_rfl) (by kernel_rfl) (fun _ _ _ h => h) (Or.inl ⟨by rfl, ?_⟩) ?_
                rotate_left
                · intro wq; first | (go_simp; done) | (go_simp; with_reducible rfl)
                repeat (first | simp only [List.getElem_toArray] | simp only [List.getElem_cons_succ] | simp only [List.getElem_cons_zero] | simp only [Act.put] | simp only [List.setIfInBounds_toArray] | simp only [List.set_cons_succ] | simp only [List.set_cons_zero])
                refine wpAnyT_takeY (i := 3) (v := ?_) rfl (by kernel_rfl) (by kernel_rfl) (by kernel_rfl) (fun _ _ _ h => h) (Or.inl ⟨by rfl, ?_⟩) ?_
                rotate_left
                · intro wq; first | (go_simp; done) | (go_simp; with_reducible rfl)
                repeat (first | simp only [List.getElem_toArray] | simp only [List.getElem_cons_succ] | simp only [List.getElem_cons_zero] | simp only [Act.put] | simp only [List.setIfInBounds_toArray] | simp only [List.set_cons_succ] | simp only [List.set_cons_zero])
                refine wpAnyT_take (i := 4) (v := (.slice (some ad1) x1.length cap1)) rfl (by kernel_rfl) (by kernel_rfl) (by kernel_rfl) (by kernel_rfl) (by kernel_rfl) (fun _ _ _ h => h) (Or.inl ⟨by rfl, ?_⟩) hS1 ?_
                · intro wq hq; have q0 := hq.c0; have q1 := hq.c1; have q2 := hq.c2; have q3 := hq.c3; clear hq; go_simp
                repeat (first | simp only [List.getElem_toArray] | simp only [List.getElem_cons_succ] | simp only [List.getElem_cons_zero] | simp only [Act.put] | simp only [List.setIfInBounds_toArray] | simp only [List.set_cons_succ] | simp only [List.set_cons_zero])
                refine wpAnyT_takeY (i := 5) (v := ?_) rfl (by kernel_rfl) (by kernel_rfl) (by kernel_rfl) (fun _ _ _ h => h) (Or.inl ⟨by rfl, ?_⟩) ?_
                rotate_left
                · intro wq; first | (go_simp; done) | (go_simp; with_reducible rfl)
                repeat (first | simp only [List.getElem_toArray] | simp only [List.getElem_cons_succ] | simp only [List.getElem_cons_zero] | simp only [Act.put] | simp only [List.setIfInBounds_toArray] | simp only [List.set_cons_succ] | simp only [List.set_cons_zero])
                refine wpAnyT_takeY (i := 6) (v := ?_) rfl (by kernel_rfl) (by kernel_rfl) (by kernel_rfl) (fun _ _ _ h => h) (Or.inl ⟨by rfl, ?_⟩) ?_
                rotate_left
                · intro wq; first | (go_simp; done) | (go_simp; with_reducible rfl)
                repeat (first | simp only [List.getElem_toArray] | simp only [List.getElem_cons_succ] | simp only [List.getElem_cons_zero] | simp only [Act.put] | simp only [List.setIfInBounds_toArray] | simp only [List.set_cons_succ] | simp only [List.set_cons_zero])
                refine wpAnyT_take (i := 7) (v := (fV xc)) rfl (by kernel_rfl) (by kernel_rfl) (by kernel_rfl) (by kernel_rfl) (by kernel_rfl) (fun _ _ _ h => h) (Or.inl ⟨by rfl, ?_⟩) hS1 ?_
                · intro wq hq; have q0 := hq.c0; have q1 := hq.c1; have q2 := hq.c2; have q3 := hq.c3; clear hq; go_simp
                repeat (first | simp only [List.getElem_toArray] | simp only [List.getElem_cons_succ] | simp only [List.getElem_cons_zero] | simp only [Act.put] | simp only [List.setIfInBounds_toArray] | simp only [List.set_cons_succ] | simp only [List.set_cons_zero])
                refine wpAnyT_takeY (i := 8) (v := ?_) rfl (by kernel_rfl) (by kernel_rfl) (by kernel_rfl) (fun _ _ _ h => h) (Or.inl ⟨by rfl, ?_⟩) ?_
                rotate_left
                · intro wq; first | (go_simp; done) | (go_simp; with_reducible rfl)
                repeat (first | simp only [List.getElem_toArray] | simp only [List.getElem_cons_succ] | simp only [List.getElem_cons_zero] | simp only [Act.put] | simp only [List.setIfInBounds_toArray] | simp only [List.set_cons_succ] | simp only [List.set_cons_zero])
                refine wpAnyT_takeY (i := 9) (v := ?_) rfl (by kernel_rfl) (by kernel_rfl) (by kernel_rfl) (fun _ _ _ h => h) (Or.inl ⟨by rfl, ?_⟩) ?_
                rotate_left
                · intro wq; first | (go_simp; done) | (go_simp; with_reducible rfl)
                repeat (first | simp only [List.getElem_toArray] | simp only [List.getElem_cons_succ] | simp only [List.getElem_cons_zero] | simp only [Act.put] | simp only [List.setIfInBounds_toArray] | simp only [List.set_cons_succ] | simp only [List.set_cons_zero])
                refine wpAnyT_takeY (i := 10) (v := ?_) rfl (by kernel_rfl) (by kernel_rfl) (by kernel_rfl) (fun _ _ _ h => h) (Or.inl ⟨by rfl, ?_⟩) ?_
                rotate_left
                · intro wq; first | (go_simp; done) | (go_simp; with_reducible rfl)
                repeat (first | simp only [List.getElem_toArray] | simp only [List.getElem_cons_succ] | simp only [List.getElem_cons_zero] | simp only [Act.put] | simp only [List.setIfInBounds_toArray] | simp only [List.set_cons_succ] | simp only [List.set_cons_zero])
                refine wpAnyT_take (i := 11) (v := (.slice (some ad3) x3.length cap3)) rfl (by kernel_rfl) (by kernel_rfl) (by kernel_rfl) (by kernel_rfl) (by kernel_rfl) (fun _ _ _ h => h) (Or.inl ⟨by rfl, ?_⟩) hS1 ?_
                · intro wq hq; have q0 := hq.c0; have q1 := hq.c1; have q2 := hq.c2; have q3 := hq.c3; clear hq; go_simp
                repeat (first | simp only [List.getElem_toArray] | simp only [List.getElem_cons_succ] | simp only [List.getElem_cons_zero] | simp only [Act.put] | simp only [List.setIfInBounds_toArray] | simp only [List.set_cons_succ] | simp only [List.set_cons_zero])
                refine wpAnyT_takeY (i := 12) (v := ?_) rfl (by kernel_rfl) (by kernel_rfl) (by kernel_rfl) (fun _ _ _ h => h) (Or.inl ⟨by rfl, ?_⟩) ?_
                rotate_left
                · intro wq; first | (go_simp; done) | (go_simp; with_reducible rfl)
                repeat (first | simp only [List.getElem_toArray] | simp only [List.getElem_cons_succ] | simp only [List.getElem_cons_zero] | simp only [Act.put] | simp only [List.setIfInBounds_toArray] | simp only [List.set_cons_succ] | simp only [List.set_cons_zero])
                refine wpAnyT_takeY (i := 13) (v := ?_) rfl (by kernel_rfl) (by kernel_rfl) (by kernel_rfl) (fun _ _ _ h => h) (Or.inl ⟨by rfl, ?_⟩) ?_
                rotate_left
                · intro wq; first | (go_simp; done) | (go_simp; with_reducible rfl)
                repeat (first | simp only [List.getElem_toArray] | simp only [List.getElem_cons_succ] | simp only [List.getElem_cons_zero] | simp only [Act.put] | simp only [List.setIfInBounds_toArray] | simp only [List.set_cons_succ] | simp only [List.set_cons_zero])
                refine wpAnyT_take (i := 14) (v := (fV yc)) rfl (by kernel_rfl) (by kernel_rfl) (by kernel_rfl) (by kernel_rfl) (by kernel_rfl) (fun _ _ _ h => h) (Or.inl ⟨by rfl, ?_⟩) hS1 ?_
                · intro wq hq; have q0 := hq.c0; have q1 := hq.c1; have q2 := hq.c2; have q3 := hq.c3; clear hq; go_simp
                repeat (first | simp only [List.getElem_toArray] | simp only [List.getElem_cons_succ] | simp only [List.getElem_cons_zero] | simp only [Act.put] | simp only [List.setIfInBounds_toArray] | simp only [List.set_cons_succ] | simp only [List.set_cons_zero])
                refine wpAnyT_takeY (i := 15) (v := (fV q)) rfl (by kernel_rfl) (by kernel_rfl) (by kernel_rfl) (fun _ _ _ h => h) (Or.inl ⟨by rfl, ?_⟩) ?_
                · intro wq; (go_simp; try simp only [flR_some HQB.out, flN_some HQB.out, World.drewN_zero, and_self])
                repeat (first | simp only [List.getElem_toArray] | simp only [List.getElem_cons_succ] | simp only [List.getElem_cons_zero] | simp only [Act.put] | simp only [List.setIfInBounds_toArray] | simp only [List.set_cons_succ] | simp only [List.set_cons_zero])
                have GO0 := Own.drew1 HO.out.1
                have GO1 := Own.drew1 HO.out.2
                have BW : Below w2.heap.size wb wb.drew := (Below.refl _ _).drew
                have zb : wb.heap.size ≤ wb.drew.heap.size := Nat.le_refl _
                clear hS1
                generalize wb.drew = wd at GO0 GO1 BW zb ⊢
                refine wpAnyT_ready (rs := [16]) (by kernel_rfl) (by simp) ?_
                refine AllT.cons rfl (fun K hK => ?_) AllT.nil
                go_simp
                refine hK.out _ _ (fun h _ => h.below' (below_alloc wd _) (by dsimp only; omega) (by dsimp only; omega) (by omega) (by omega)) ?_
                clear hK K
                repeat (first | simp only [List.getElem_toArray] | simp only [List.getElem_cons_succ] | simp only [List.getElem_cons_zero] | simp only [Act.put] | simp only [List.setIfInBounds_toArray] | simp only [List.set_cons_succ] | simp only [List.set_cons_zero])
                have LB := own_one wd (w2.heap.size) q (by omega)
                obtain ⟨lB, hlB⟩ : ∃ l, l = wd.heap.size := ⟨_, rfl⟩
                rw [← hlB] at LB ⊢
                have qB : wb.heap.size ≤ lB := by omega
                replace GO0 := GO0.alloc (.cells #[fV q] 28)
                replace GO1 := GO1.alloc (.cells #[fV q] 28)
                replace BW := BW.alloc (by omega) (.cells #[fV q] 28)
                replace zb : wb.heap.size ≤ (wd.alloc (.cells #[fV q] 28)).heap.size := by rw [size_alloc]; omega
                clear hlB
                generalize wd.alloc (.cells #[fV q] 28) = wd1 at *
                refine wpAnyT_ready (rs := [17]) (by kernel_rfl) (by simp) ?_
                refine AllT.cons rfl (fun K hK => ?_) AllT.nil
                refine elF_.app_step (f := fV) (fun _ => rfl) _ (by rfl) _ _ (by rfl) (w2.heap.size) (.slice E1 cs.length ca1) cs (by rfl) GO1 _ [q] (by rfl) LB.rd (by omega) (by simp; omega) (by omega) ?_
                intro v'' wd2 ho2 hg2 hbb2 hp2
                obtain ⟨g'', c'', rfl, -, -, -⟩ := ho2.form (by simp)
                refine hK.out _ _ (fun h _ => h.below' hbb2 (by dsimp only; omega) (by dsimp only; omega) (by omega) (by omega)) ?_
                clear hK K
                repeat (first | simp only [List.getElem_toArray] | simp only [List.getElem_cons_succ] | simp only [List.getElem_cons_zero] | simp only [Act.put] | simp only [List.setIfInBounds_toArray] | simp only [List.set_cons_succ] | simp only [List.set_cons_zero])
                have hAP := Lib.hid (own_apart2 GO0 hap hp2)
                have HO0 := Lib.hid (GO0.kept hg2 hap)
                have HO2 := Lib.hid ho2
                replace BW := BW.trans hbb2
                clear hbb2
                refine wpAnyT_takeY (i := 18) (v := ?_) rfl (by kernel_rfl) (by kernel_rfl) (by kernel_rfl) (fun _ _ _ h => h) (Or.inl ⟨by rfl, ?_⟩) ?_
                rotate_left
                · intro wq; first | (go_simp; done) | (go_simp; with_reducible rfl)
                repeat (first | simp only [List.getElem_toArray] | simp only [List.getElem_cons_succ] | simp only [List.getElem_cons_zero] | simp only [Act.put] | simp only [List.setIfInBounds_toArray] | simp only [List.set_cons_succ] | simp only [List.set_cons_zero])
                refine wpAnyT_done (by kernel_rfl) ?_ _
                clear ho2 hg2 hp2 GO0 GO1 zb
                go_wp2
                go_roundw
                case rel => exact ⟨k + 1, zs ++ [z], cs ++ [q], by omega, by go_num, (by have h := HO0.out; rw [List.length_append] at h; exact h), (by have h := HO2.out; rw [List.length_append] at h; exact h), (by have h := hAP.out; simp only [List.length_append] at h; exact h), ⟨by rw [absl_app, hz.out.1, HSV.out]; simp [absL, HZA.out], by rw [absl_app, hz.out.2, HSC.out]; simp [absL, HQA.out]⟩, hb.trans BW⟩
                case measure => simp [intOf]; omega
            · have HE : Hid (y = z) := by unfold Hid; rw [HZ2.out]; unfold grW; rw [hgt]; rfl
              go_wp2_with (at_builtin; go_loud (refine elF_.app (fun _ => rfl) _ rfl _ _ rfl w2.heap.size _ zs rfl (Own.alloc hO0 _) _ _ rfl (rd_one fV _ _ _) (by omega) (by simp; omega) (by simp; omega) ?_))
              intro v' wb ho hg hbb hp
              rw [HE.out] at ho
              have hOc := Own.kept (Own.alloc hO1 _) hg (apart_symm hap)
              have hap2 := own_apart hO1 hap (by omega) hp
              replace hb := (hb.alloc (by omega) _).trans hbb
              clear hg hbb hp hO0 hO1 hap e0 e2 m0 m2 hwz
              replace hap := hap2; clear hap2
              have hBr0 := B0.below hb
              have hBr2 := B2.below hb
              have hTr := hT.trans (hb.mono hTz)
              have s1 : wb.drew.cell? ⟨b0, 1, none⟩ = some (.slice (some ad1) x1.length cap1) := hBr0.cell 1 _ rfl
              have s2 : wb.drew.cell? ⟨b2, 1, none⟩ = some (.slice (some ad3) x3.length cap3) := hBr2.cell 1 _ rfl
              have ec : wb.drew.cell? (ad1.add i) = some (fV xc) := by show wb.cell? _ = _; rw [hTr.cell (by rw [add_block]; exact hbl1)]; exact HC1.out
              have ed : wb.drew.cell? (ad3.add k) = some (fV yc) := by show wb.cell? _ = _; rw [hTr.cell (by rw [add_block]; exact hbl3)]; exact HC3.out
              have hwz := hb.size
              have hk2 : (k : Int) < (x3.length : Int) := by rw [HLEN2.out]; omega
              obtain ⟨E0, ca0, rfl, -, -⟩ := ho.rd
              obtain ⟨E1, ca1, rfl, -, -⟩ := hOc.rd
              have HO : Hid (Own fV 28 wb w2.heap.size _ (zs ++ [z]) ∧ Own fV 28 wb w2.heap.size (.slice E1 cs.length ca1) cs) := ⟨ho, hOc⟩
              clear ho hOc hBr0 hBr2 hTr
              go_wp2_with fail
              as_aux_lemma =>
                refine wp_region_T (S4 ⟨b0, 1, none⟩ ⟨b2, 1, none⟩ (ad1.add i) (ad3.add k) (.slice (some ad1) x1.length cap1) (.slice (some ad3) x3.length cap3) (fV xc) (fV yc)) [] (by kernel_rfl) (⟨s1, s2, ec, ed⟩) (fun hS1 => ?_)
                simp only [List.size_toArray, List.length_cons, List.length_nil, Nat.reduceAdd]
                refine wpAnyT_takeY (i := 0) (v := ?_) rfl (by kernel_rfl) (by kernel_rfl) (by kernel_rfl) (fun _ _ _ h => h) (Or.inl ⟨by rfl, ?_⟩) ?_
                rotate_left
                · intro wq; first | (go_simp; done) | (go_simp; with_reducible rfl)
                repeat (first | simp only [List.getElem_toArray] | simp only [List.getElem_cons_succ] | simp only [List.getElem_cons_zero] | simp only [Act.put] | simp only [List.setIfInBounds_toArray] | simp only [List.set_cons_succ] | simp only [List.set_cons_zero])
                refine wpAnyT_takeY (i := 1) (v := ?_) rfl (by kernel_rfl) (by kernel_rfl) (by kernel_rfl) (fun _ _ _ h => h) (Or.inl ⟨by rfl, ?_⟩) ?_
                rotate_left
                · intro wq; first | (go_simp; done) | (go_simp; with_reducible rfl)
                repeat (first | simp only [List.getElem_toArray] | simp only [List.getElem_cons_succ] | simp only [List.getElem_cons_zero] | simp only [Act.put] | simp only [List.setIfInBounds_toArray] | simp only [List.set_cons_succ] | simp only [List.set_cons_zero])
                refine wpAnyT_takeY (i := 2) (v := ?_) rfl (by kernel_rfl) (by kernel_rfl) (by kernel_rfl) (fun _ _ _ h => h) (Or.inl ⟨by rfl, ?_⟩) ?_
                rotate_left
                · intro wq; first | (go_simp; done) | (go_simp; with_reducible rfl)
                repeat (first | simp only [List.getElem_toArray] | simp only [List.getElem_cons_succ] | simp only [List.getElem_cons_zero] | simp only [Act.put] | simp only [List.setIfInBounds_toArray] | simp only [List.set_cons_succ] | simp only [List.set_cons_zero])
                refine wpAnyT_takeY (i := 3) (v := ?_) rfl (by kernel_rfl) (by kernel_rfl) (by kernel_rfl) (fun _ _ _ h => h) (Or.inl ⟨by rfl, ?_⟩) ?_
                rotate_left
                · intro wq; first | (go_simp; done) | (go_simp; with_reducible rfl)
                repeat (first | simp only [List.getElem_toArray] | simp only [List.getElem_cons_succ] | simp only [List.getElem_cons_zero] | simp only [Act.put] | simp only [List.setIfInBounds_toArray] | simp only [List.set_cons_succ] | simp only [List.set_cons_zero])
                refine wpAnyT_take (i := 4) (v := (.slice (some ad1) x1.length cap1)) rfl (by kernel_rfl) (by kernel_rfl) (by kernel_rfl) (by kernel_rfl) (by kernel_rfl) (fun _ _ _ h => h) (Or.inl ⟨by rfl, ?_⟩) hS1 ?_
                · intro wq hq; have q0 := hq.c0; have q1 := hq.c1; have q2 := hq.c2; have q3 := hq.c3; clear hq; go_simp
                repeat (first | simp only [List.getElem_toArray] | simp only [List.getElem_cons_succ] | simp only [List.getElem_cons_zero] | simp only [Act.put] | simp only [List.setIfInBounds_toArray] | simp only [List.set_cons_succ] | simp only [List.set_cons_zero])
                refine wpAnyT_takeY (i := 5) (v := ?_) rfl (by kernel_rfl) (by kernel_rfl) (by kernel_rfl) (fun _ _ _ h => h) (Or.inl ⟨by rfl, ?_⟩) ?_
                rotate_left
                · intro wq; first | (go_simp; done) | (go_simp; with_reducible rfl)
                repeat (first | simp only [List.getElem_toArray] | simp only [List.getElem_cons_succ] | simp only [List.getElem_cons_zero] | simp only [Act.put] | simp only [List.setIfInBounds_toArray] | simp only [List.set_cons_succ] | simp only [List.set_cons_zero])
                refine wpAnyT_takeY (i := 6) (v := ?_) rfl (by kernel_rfl) (by kernel_rfl) (by kernel_rfl) (fun _ _ _ h => h) (Or.inl ⟨by rfl, ?_⟩) ?_
                rotate_left
                · intro wq; first | (go_simp; done) | (go_simp; with_reducible rfl)
                repeat (first | simp only [List.getElem_toArray] | simp only [List.getElem_cons_succ] | simp only [List.getElem_cons_zero] | simp only [Act.put] | simp only [List.setIfInBounds_toArray] | simp only [List.set_cons_succ] | simp only [List.set_cons_zero])
                refine wpAnyT_take (i := 7) (v := (fV xc)) rfl (by kernel_rfl) (by kernel_rfl) (by kernel_rfl) (by kernel_rfl) (by kernel_rfl) (fun _ _ _ h => h) (Or.inl ⟨by rfl, ?_⟩) hS1 ?_
                · intro wq hq; have q0 := hq.c0; have q1 := hq.c1; have q2 := hq.c2; have q3 := hq.c3; clear hq; go_simp
                repeat (first | simp only [List.getElem_toArray] | simp only [List.getElem_cons_succ] | simp only [List.getElem_cons_zero] | simp only [Act.put] | simp only [List.setIfInBounds_toArray] | simp only [List.set_cons_succ] | simp only [List.set_cons_zero])
                refine wpAnyT_takeY (i := 8) (v := ?_) rfl (by kernel_rfl) (by kernel_rfl) (by kernel_rfl) (fun _ _ _ h => h) (Or.inl ⟨by rfl, ?_⟩) ?_
                rotate_left
                · intro wq; first | (go_simp; done) | (go_simp; with_reducible rfl)
                repeat (first | simp only [List.getElem_toArray] | simp only [List.getElem_cons_succ] | simp only [List.getElem_cons_zero] | simp only [Act.put] | simp only [List.setIfInBounds_toArray] | simp only [List.set_cons_succ] | simp only [List.set_cons_zero])
                refine wpAnyT_takeY (i := 9) (v := ?_) rfl (by kernel_rfl) (by kernel_rfl) (by kernel_rfl) (fun _ _ _ h => h) (Or.inl ⟨by rfl, ?_⟩) ?_
                rotate_left
                · intro wq; first | (go_simp; done) | (go_simp; with_reducible rfl)
                repeat (first | simp only [List.getElem_toArray] | simp only [List.getElem_cons_succ] | simp only [List.getElem_cons_zero] | simp only [Act.put] | simp only [List.setIfInBounds_toArray] | simp only [List.set_cons_succ] | simp only [List.set_cons_zero])
                refine wpAnyT_takeY (i := 10) (v := ?_) rfl (by kernel_rfl) (by kernel_rfl) (by kernel_rfl) (fun _ _ _ h => h) (Or.inl ⟨by rfl, ?_⟩) ?_
                rotate_left
                · intro wq; first | (go_simp; done) | (go_simp; with_reducible rfl)
                repeat (first | simp only [List.getElem_toArray] | simp only [List.getElem_cons_succ] | simp only [List.getElem_cons_zero] | simp only [Act.put] | simp only [List.setIfInBounds_toArray] | simp only [List.set_cons_succ] | simp only [List.set_cons_zero])
                refine wpAnyT_take (i := 11) (v := (.slice (some ad3) x3.length cap3)) rfl (by kernel_rfl) (by kernel_rfl) (by kernel_rfl) (by kernel_rfl) (by kernel_rfl) (fun _ _ _ h => h) (Or.inl ⟨by rfl, ?_⟩) hS1 ?_
                · intro wq hq; have q0 := hq.c0; have q1 := hq.c1; have q2 := hq.c2; have q3 := hq.c3; clear hq; go_simp
                repeat (first | simp only [List.getElem_toArray] | simp only [List.getElem_cons_succ] | simp only [List.getElem_cons_zero] | simp only [Act.put] | simp only [List.setIfInBounds_toArray] | simp only [List.set_cons_succ] | simp only [List.set_cons_zero])
                refine wpAnyT_takeY (i := 12) (v := ?_) rfl (by kernel_rfl) (by kernel_rfl) (by kernel_rfl) (fun _ _ _ h => h) (Or.inl ⟨by rfl, ?_⟩) ?_
                rotate_left
                · intro wq; first | (go_simp; done) | (go_simp; with_reducible rfl)
                repeat (first | simp only [List.getElem_toArray] | simp only [List.getElem_cons_succ] | simp only [List.getElem_cons_zero] | simp only [Act.put] | simp only [List.setIfInBounds_toArray] | simp only [List.set_cons_succ] | simp only [List.set_cons_zero])
                refine wpAnyT_takeY (i := 13) (v := ?_) rfl (by kernel_rfl) (by kernel_rfl) (by kernel_rfl) (fun _ _ _ h => h) (Or.inl ⟨by rfl, ?_⟩) ?_
                rotate_left
                · intro wq; first | (go_simp; done) | (go_simp; with_reducible rfl)
                repeat (first | simp only [List.getElem_toArray] | simp only [List.getElem_cons_succ] | simp only [List.getElem_cons_zero] | simp only [Act.put] | simp only [List.setIfInBounds_toArray] | simp only [List.set_cons_succ] | simp only [List.set_cons_zero])
                refine wpAnyT_take (i := 14) (v := (fV yc)) rfl (by kernel_rfl) (by kernel_rfl) (by kernel_rfl) (by kernel_rfl) (by kernel_rfl) (fun _ _ _ h => h) (Or.inl ⟨by rfl, ?_⟩) hS1 ?_
                · intro wq hq; have q0 := hq.c0; have q1 := hq.c1; have q2 := hq.c2; have q3 := hq.c3; clear hq; go_simp
                repeat (first | simp only [List.getElem_toArray] | simp only [List.getElem_cons_succ] | simp only [List.getElem_cons_zero] | simp only [Act.put] | simp only [List.setIfInBounds_toArray] | simp only [List.set_cons_succ] | simp only [List.set_cons_zero])
                refine wpAnyT_takeY (i := 15) (v := (fV q)) rfl (by kernel_rfl) (by kernel_rfl) (by kernel_rfl) (fun _ _ _ h => h) (Or.inl ⟨by rfl, ?_⟩) ?_
                · intro wq; (go_simp; try simp only [flR_some HQB.out, flN_some HQB.out, World.drewN_zero, and_self])
                repeat (first | simp only [List.getElem_toArray] | simp only [List.getElem_cons_succ] | simp only [List.getElem_cons_zero] | simp only [Act.put] | simp only [List.setIfInBounds_toArray] | simp only [List.set_cons_succ] | simp only [List.set_cons_zero])
                have GO0 := Own.drew1 HO.out.1
                have GO1 := Own.drew1 HO.out.2
                have BW : Below w2.heap.size wb wb.drew := (Below.refl _ _).drew
                have zb : wb.heap.size ≤ wb.drew.heap.size := Nat.le_refl _
                clear hS1
                generalize wb.drew = wd at GO0 GO1 BW zb ⊢
                refine wpAnyT_ready (rs := [16]) (by kernel_rfl) (by simp) ?_
                refine AllT.cons rfl (fun K hK => ?_) AllT.nil
                go_simp
                refine hK.out _ _ (fun h _ => h.below' (below_alloc wd _) (by dsimp only; omega) (by dsimp only; omega) (by omega) (by omega)) ?_
                clear hK K
                repeat (first | simp only [List.getElem_toArray] | simp only [List.getElem_cons_succ] | simp only [List.getElem_cons_zero] | simp only [Act.put] | simp only [List.setIfInBounds_toArray] | simp only [List.set_cons_succ] | simp only [List.set_cons_zero])
                have LB := own_one wd (w2.heap.size) q (by omega)
                obtain ⟨lB, hlB⟩ : ∃ l, l = wd.heap.size := ⟨_, rfl⟩
                rw [← hlB] at LB ⊢
                have qB : wb.heap.size ≤ lB := by omega
                replace GO0 := GO0.alloc (.cells #[fV q] 28)
                replace GO1 := GO1.alloc (.cells #[fV q] 28)
                replace BW := BW.alloc (by omega) (.cells #[fV q] 28)
                replace zb : wb.heap.size ≤ (wd.alloc (.cells #[fV q] 28)).heap.size := by rw [size_alloc]; omega
                clear hlB
                generalize wd.alloc (.cells #[fV q] 28) = wd1 at *
                refine wpAnyT_ready (rs := [17]) (by kernel_rfl) (by simp) ?_
                refine AllT.cons rfl (fun K hK => ?_) AllT.nil
                refine elF_.app_step (f := fV) (fun _ => rfl) _ (by rfl) _ _ (by rfl) (w2.heap.size) (.slice E1 cs.length ca1) cs (by rfl) GO1 _ [q] (by rfl) LB.rd (by omega) (by simp; omega) (by omega) ?_
                intro v'' wd2 ho2 hg2 hbb2 hp2
                obtain ⟨g'', c'', rfl, -, -, -⟩ := ho2.form (by simp)
                refine hK.out _ _ (fun h _ => h.below' hbb2 (by dsimp only; omega) (by dsimp only; omega) (by omega) (by omega)) ?_
                clear hK K
                repeat (first | simp only [List.getElem_toArray] | simp only [List.getElem_cons_succ] | simp only [List.getElem_cons_zero] | simp only [Act.put] | simp only [List.setIfInBounds_toArray] | simp only [List.set_cons_succ] | simp only [List.set_cons_zero])
                have hAP := Lib.hid (own_apart2 GO0 hap hp2)
                have HO0 := Lib.hid (GO0.kept hg2 hap)
                have HO2 := Lib.hid ho2
                replace BW := BW.trans hbb2
                clear hbb2
                refine wpAnyT_takeY (i := 18) (v := ?_) rfl (by kernel_rfl) (by kernel_rfl) (by kernel_rfl) (fun _ _ _ h => h) (Or.inl ⟨by rfl, ?_⟩) ?_
                rotate_left
                · intro wq; first | (go_simp; done) | (go_simp; with_reducible rfl)
                repeat (first | simp only [List.getElem_toArray] | simp only [List.getElem_cons_succ] | simp only [List.getElem_cons_zero] | simp only [Act.put] | simp only [List.setIfInBounds_toArray] | simp only [List.set_cons_succ] | simp only [List.set_cons_zero])
                refine wpAnyT_done (by kernel_rfl) ?_ _
                clear ho2 hg2 hp2 GO0 GO1 zb
                go_wp2
                go_roundw
                case rel => exact ⟨k + 1, zs ++ [z], cs ++ [q], by omega, by go_num, (by have h := HO0.out; rw [List.length_append] at h; exact h), (by have h := HO2.out; rw [List.length_append] at h; exact h), (by have h := hAP.out; simp only [List.length_append] at h; exact h), ⟨by rw [absl_app, hz.out.1, HSV.out]; simp [absL, HZA.out], by rw [absl_app, hz.out.2, HSC.out]; simp [absL, HQA.out]⟩, hb.trans BW⟩
                case measure => simp [intOf]; omega
          · have HE : Hid (floatBits .add .f32 x y = some z) := by unfold Hid; rw [HZZ.out]; exact addR_bits HFX.out HFY.out
            go_wp2_with (at_builtin; go_loud (refine elF_.app (fun _ => rfl) _ rfl _ _ rfl w2.heap.size _ zs rfl (Own.alloc (Own.drewN hO0 _) _) _ _ rfl (rd_one fV _ _ _) (by omega) (by simp; omega) (by simp; omega) ?_))
            intro v' wb ho hg hbb hp
            rw [flR_some HE.out] at ho
            have hOc := Own.kept (Own.alloc (Own.drewN hO1 _) _) hg (apart_symm hap)
            have hap2 := own_apart hO1 hap (by omega) hp
            replace hb := ((below_drewN' _ hb).alloc (by simpa using hwz) _).trans hbb
            clear hg hbb hp hO0 hO1 hap e0 e2 m0 m2 hwz
            replace hap := hap2; clear hap2
            have hBr0 := B0.below hb
            have hBr2 := B2.below hb
            have hTr := hT.trans (hb.mono hTz)
            have s1 : wb.drew.cell? ⟨b0, 1, none⟩ = some (.slice (some ad1) x1.length cap1) := hBr0.cell 1 _ rfl
            have s2 : wb.drew.cell? ⟨b2, 1, none⟩ = some (.slice (some ad3) x3.length cap3) := hBr2.cell 1 _ rfl
            have ec : wb.drew.cell? (ad1.add i) = some (fV xc) := by show wb.cell? _ = _; rw [hTr.cell (by rw [add_block]; exact hbl1)]; exact HC1.out
            have ed : wb.drew.cell? (ad3.add k) = some (fV yc) := by show wb.cell? _ = _; rw [hTr.cell (by rw [add_block]; exact hbl3)]; exact HC3.out
            have hwz := hb.size
            have hk2 : (k : Int) < (x3.length : Int) := by rw [HLEN2.out]; omega
            obtain ⟨E0, ca0, rfl, -, -⟩ := ho.rd
            obtain ⟨E1, ca1, rfl, -, -⟩ := hOc.rd
            have HO : Hid (Own fV 28 wb w2.heap.size _ (zs ++ [z]) ∧ Own fV 28 wb w2.heap.size (.slice E1 cs.length ca1) cs) := ⟨ho, hOc⟩
            clear ho hOc hBr0 hBr2 hTr
            go_wp2_with fail
            as_aux_lemma =>
              refine wp_region_T (S4 ⟨b0, 1, none⟩ ⟨b2, 1, none⟩ (ad1.add i) (ad3.add k) (.slice (some ad1) x1.length cap1) (.slice (some ad3) x3.length cap3) (fV xc) (fV yc)) [] (by kernel_rfl) (⟨s1, s2, ec, ed⟩) (fun hS1 => ?_)
              simp only [List.size_toArray, List.length_cons, List.length_nil, Nat.reduceAdd]
              refine wpAnyT_takeY (i := 0) (v := ?_) rfl (by kernel_rfl) (by kernel_rfl) (by kernel_rfl) (fun _ _ _ h => h) (Or.inl ⟨by rfl, ?_⟩) ?_
              rotate_left
              · intro wq; first | (go_simp; done) | (go_simp; with_reducible rfl)
              repeat (first | simp only [List.getElem_toArray] | simp only [List.getElem_cons_succ] | simp only [List.getElem_cons_zero] | simp only [Act.put] | simp only [List.setIfInBounds_toArray] | simp only [List.set_cons_succ] | simp only [List.set_cons_zero])
              refine wpAnyT_takeY (i := 1) (v := ?_) rfl (by kernel_rfl) (by kernel_rfl) (by kernel_rfl) (fun _ _ _ h => h) (Or.inl ⟨by rfl, ?_⟩) ?_
              rotate_left
              · intro wq; first | (go_simp; done) | (go_simp; with_reducible rfl)
              repeat (first | simp only [List.getElem_toArray] | simp only [List.getElem_cons_succ] | simp only [List.getElem_cons_zero] | simp only [Act.put] | simp only [List.setIfInBounds_toArray] | simp only [List.set_cons_succ] | simp only [List.set_cons_zero])
              refine wpAnyT_takeY (i := 2) (v := ?_) rfl (by kernel_rfl) (by kernel_rfl) (by kernel_rfl) (fun _ _ _ h => h) (Or.inl ⟨by rfl, ?_⟩) ?_
              rotate_left
              · intro wq; first | (go_simp; done) | (go_simp; with_reducible rfl)
              repeat (first | simp only [List.getElem_toArray] | simp only [List.getElem_cons_succ] | simp only [List.getElem_cons_zero] | simp only [Act.put] | simp only [List.setIfInBounds_toArray] | simp only [List.set_cons_succ] | simp only [List.set_cons_zero])
              refine wpAnyT_takeY (i := 3) (v := ?_) rfl (by kernel_rfl) (by kernel_rfl) (by kernel_rfl) (fun _ _ _ h => h) (Or.inl ⟨by rfl, ?_⟩) ?_
              rotate_left
              · intro wq; first | (go_simp; done) | (go_simp; with_reducible rfl)
              repeat (first | simp only [List.getElem_toArray] | simp only [List.getElem_cons_succ] | simp only [List.getElem_cons_zero] | simp only [Act.put] | simp only [List.setIfInBounds_toArray] | simp only [List.set_cons_succ] | simp only [List.set_cons_zero])
              refine wpAnyT_take (i := 4) (v := (.slice (some ad1) x1.length cap1)) rfl (by kernel_rfl) (by kernel_rfl) (by kernel_rfl) (by kernel_rfl) (by kernel_rfl) (fun _ _ _ h => h) (Or.inl ⟨by rfl, ?_⟩) hS1 ?_
              · intro wq hq; have q0 := hq.c0; have q1 := hq.c1; have q2 := hq.c2; have q3 := hq.c3; clear hq; go_simp
              repeat (first | simp only [List.getElem_toArray] | simp only [List.getElem_cons_succ] | simp only [List.getElem_cons_zero] | simp only [Act.put] | simp only [List.setIfInBounds_toArray] | simp only [List.set_cons_succ] | simp only [List.set_cons_zero])
              refine wpAnyT_takeY (i := 5) (v := ?_) rfl (by kernel_rfl) (by kernel_rfl) (by kernel_rfl) (fun _ _ _ h => h) (Or.inl ⟨by rfl, ?_⟩) ?_
              rotate_left
              · intro wq; first | (go_simp; done) | (go_simp; with_reducible rfl)
              repeat (first | simp only [List.getElem_toArray] | simp only [List.getElem_cons_succ] | simp only [List.getElem_cons_zero] | simp only [Act.put] | simp only [List.setIfInBounds_toArray] | simp only [List.set_cons_succ] | simp only [List.set_cons_zero])
              refine wpAnyT_takeY (i := 6) (v := ?_) rfl (by kernel_rfl) (by kernel_rfl) (by kernel_rfl) (fun _ _ _ h => h) (Or.inl ⟨by rfl, ?_⟩) ?_
              rotate_left
              · intro wq; first | (go_simp; done) | (go_simp; with_reducible rfl)
              repeat (first | simp only [List.getElem_toArray] | simp only [List.getElem_cons_succ] | simp only [List.getElem_cons_zero] | simp only [Act.put] | simp only [List.setIfInBounds_toArray] | simp only [List.set_cons_succ] | simp only [List.set_cons_zero])
              refine wpAnyT_take (i := 7) (v := (fV xc)) rfl (by kernel_rfl) (by kernel_rfl) (by kernel_rfl) (by kernel_rfl) (by kernel_rfl) (fun _ _ _ h => h) (Or.inl ⟨by rfl, ?_⟩) hS1 ?_
              · intro wq hq; have q0 := hq.c0; have q1 := hq.c1; have q2 := hq.c2; have q3 := hq.c3; clear hq; go_simp
              repeat (first | simp only [List.getElem_toArray] | simp only [List.getElem_cons_succ] | simp only [List.getElem_cons_zero] | simp only [Act.put] | simp only [List.setIfInBounds_toArray] | simp only [List.set_cons_succ] | simp only [List.set_cons_zero])
              refine wpAnyT_takeY (i := 8) (v := ?_) rfl (by kernel_rfl) (by kernel_rfl) (by kernel_rfl) (fun _ _ _ h => h) (Or.inl ⟨by rfl, ?_⟩) ?_
              rotate_left
              · intro wq; first | (go_simp; done) | (go_simp; with_reducible rfl)
              repeat (first | simp only [List.getElem_toArray] | simp only [List.getElem_cons_succ] | simp only [List.getElem_cons_zero] | simp only [Act.put] | simp only [List.setIfInBounds_toArray] | simp only [List.set_cons_succ] | simp only [List.set_cons_zero])
              refine wpAnyT_takeY (i := 9) (v := ?_) rfl (by kernel_rfl) (by kernel_rfl) (by kernel_rfl) (fun _ _ _ h => h) (Or.inl ⟨by rfl, ?_⟩) ?_
              rotate_left
              · intro wq; first | (go_simp; done) | (go_simp; with_reducible rfl)
              repeat (first | simp only [List.getElem_toArray] | simp only [List.getElem_cons_succ] | simp only [List.getElem_cons_zero] | simp only [Act.put] | simp only [List.setIfInBounds_toArray] | simp only [List.set_cons_succ] | simp only [List.set_cons_zero])
              refine wpAnyT_takeY (i := 10) (v := ?_) rfl (by kernel_rfl) (by kernel_rfl) (by kernel_rfl) (fun _ _ _ h => h) (Or.inl ⟨by rfl, ?_⟩) ?_
              rotate_left
              · intro wq; first | (go_simp; done) | (go_simp; with_reducible rfl)
              repeat (first | simp only [List.getElem_toArray] | simp only [List.getElem_cons_succ] | simp only [List.getElem_cons_zero] | simp only [Act.put] | simp only [List.setIfInBounds_toArray] | simp only [List.set_cons_succ] | simp only [List.set_cons_zero])
              refine wpAnyT_take (i := 11) (v := (.slice (some ad3) x3.length cap3)) rfl (by kernel_rfl) (by kernel_rfl) (by kernel_rfl) (by kernel_rfl) (by kernel_rfl) (fun _ _ _ h => h) (Or.inl ⟨by rfl, ?_⟩) hS1 ?_
              · intro wq hq; have q0 := hq.c0; have q1 := hq.c1; have q2 := hq.c2; have q3 := hq.c3; clear hq; go_simp
              repeat (first | simp only [List.getElem_toArray] | simp only [List.getElem_cons_succ] | simp only [List.getElem_cons_zero] | simp only [Act.put] | simp only [List.setIfInBounds_toArray] | simp only [List.set_cons_succ] | simp only [List.set_cons_zero])
              refine wpAnyT_takeY (i := 12) (v := ?_) rfl (by kernel_rfl) (by kernel_rfl) (by kernel_rfl) (fun _ _ _ h => h) (Or.inl ⟨by rfl, ?_⟩) ?_
              rotate_left
              · intro wq; first | (go_simp; done) | (go_simp; with_reducible rfl)
              repeat (first | simp only [List.getElem_toArray] | simp only [List.getElem_cons_succ] | simp only [List.getElem_cons_zero] | simp only [Act.put] | simp only [List.setIfInBounds_toArray] | simp only [List.set_cons_succ] | simp only [List.set_cons_zero])
              refine wpAnyT_takeY (i := 13) (v := ?_) rfl (by kernel_rfl) (by kernel_rfl) (by kernel_rfl) (fun _ _ _ h => h) (Or.inl ⟨by rfl, ?_⟩) ?_
              rotate_left
              · intro wq; first | (go_simp; done) | (go_simp; with_reducible rfl)
              repeat (first | simp only [List.getElem_toArray] | simp only [List.getElem_cons_succ] | simp only [List.getElem_cons_zero] | simp only [Act.put] | simp only [List.setIfInBounds_toArray] | simp only [List.set_cons_succ] | simp only [List.set_cons_zero])
              refine wpAnyT_take (i := 14) (v := (fV yc)) rfl (by kernel_rfl) (by kernel_rfl) (by kernel_rfl) (by kernel_rfl) (by kernel_rfl) (fun _ _ _ h => h) (Or.inl ⟨by rfl, ?_⟩) hS1 ?_
              · intro wq hq; have q0 := hq.c0; have q1 := hq.c1; have q2 := hq.c2; have q3 := hq.c3; clear hq; go_simp
              repeat (first | simp only [List.getElem_toArray] | simp only [List.getElem_cons_succ] | simp only [List.getElem_cons_zero] | simp only [Act.put] | simp only [List.setIfInBounds_toArray] | simp only [List.set_cons_succ] | simp only [List.set_cons_zero])
              refine wpAnyT_takeY (i := 15) (v := (fV q)) rfl (by kernel_rfl) (by kernel_rfl) (by kernel_rfl) (fun _ _ _ h => h) (Or.inl ⟨by rfl, ?_⟩) ?_
              · intro wq; (go_simp; try simp only [flR_some HQB.out, flN_some HQB.out, World.drewN_zero, and_self])
              repeat (first | simp only [List.getElem_toArray] | simp only [List.getElem_cons_succ] | simp only [List.getElem_cons_zero] | simp only [Act.put] | simp only [List.setIfInBounds_toArray] | simp only [List.set_cons_succ] | simp only [List.set_cons_zero])
              have GO0 := Own.drew1 HO.out.1
              have GO1 := Own.drew1 HO.out.2
              have BW : Below w2.heap.size wb wb.drew := (Below.refl _ _).drew
              have zb : wb.heap.size ≤ wb.drew.heap.size := Nat.le_refl _
              clear hS1
              generalize wb.drew = wd at GO0 GO1 BW zb ⊢
              refine wpAnyT_ready (rs := [16]) (by kernel_rfl) (by simp) ?_
              refine AllT.cons rfl (fun K hK => ?_) AllT.nil
              go_simp
              refine hK.out _ _ (fun h _ => h.below' (below_alloc wd _) (by dsimp only; omega) (by dsimp only; omega) (by omega) (by omega)) ?_
              clear hK K
              repeat (first | simp only [List.getElem_toArray] | simp only [List.getElem_cons_succ] | simp only [List.getElem_cons_zero] | simp only [Act.put] | simp only [List.setIfInBounds_toArray] | simp only [List.set_cons_succ] | simp only [List.set_cons_zero])
              have LB := own_one wd (w2.heap.size) q (by omega)
              obtain ⟨lB, hlB⟩ : ∃ l, l = wd.heap.size := ⟨_, rfl⟩
              rw [← hlB] at LB ⊢
              have qB : wb.heap.size ≤ lB := by omega
              replace GO0 := GO0.alloc (.cells #[fV q] 28)
              replace GO1 := GO1.alloc (.cells #[fV q] 28)
              replace BW := BW.alloc (by omega) (.cells #[fV q] 28)
              replace zb : wb.heap.size ≤ (wd.alloc (.cells #[fV q] 28)).heap.size := by rw [size_alloc]; omega
              clear hlB
              generalize wd.alloc (.cells #[fV q] 28) = wd1 at *
              refine wpAnyT_ready (rs := [17]) (by kernel_rfl) (by simp) ?_
              refine AllT.cons rfl (fun K hK => ?_) AllT.nil
              refine elF_.app_step (f := fV) (fun _ => rfl) _ (by rfl) _ _ (by rfl) (w2.heap.size) (.slice E1 cs.length ca1) cs (by rfl) GO1 _ [q] (by rfl) LB.rd (by omega) (by simp; omega) (by omega) ?_
              intro v'' wd2 ho2 hg2 hbb2 hp2
              obtain ⟨g'', c'', rfl, -, -, -⟩ := ho2.form (by simp)
              refine hK.out _ _ (fun h _ => h.below' hbb2 (by dsimp only; omega) (by dsimp only; omega) (by omega) (by omega)) ?_
              clear hK K
              repeat (first | simp only [List.getElem_toArray] | simp only [List.getElem_cons_succ] | simp only [List.getElem_cons_zero] | simp only [Act.put] | simp only [List.setIfInBounds_toArray] | simp only [List.set_cons_succ] | simp only [List.set_cons_zero])
              have hAP := Lib.hid (own_apart2 GO0 hap hp2)
              have HO0 := Lib.hid (GO0.kept hg2 hap)
              have HO2 := Lib.hid ho2
              replace BW := BW.trans hbb2
              clear hbb2
              refine wpAnyT_takeY (i := 18) (v := ?_) rfl (by kernel_rfl) (by kernel_rfl) (by kernel_rfl) (fun _ _ _ h => h) (Or.inl ⟨by rfl, ?_⟩) ?_
              rotate_left
              · intro wq; first | (go_simp; done) | (go_simp; with_reducible rfl)
              repeat (first | simp only [List.getElem_toArray] | simp only [List.getElem_cons_succ] | simp only [List.getElem_cons_zero] | simp only [Act.put] | simp only [List.setIfInBounds_toArray] | simp only [List.set_cons_succ] | simp only [List.set_cons_zero])
              refine wpAnyT_done (by kernel_rfl) ?_ _
              clear ho2 hg2 hp2 GO0 GO1 zb
              go_wp2
              go_roundw
              case rel => exact ⟨k + 1, zs ++ [z], cs ++ [q], by omega, by go_num, (by have h := HO0.out; rw [List.length_append] at h; exact h), (by have h := HO2.out; rw [List.length_append] at h; exact h), (by have h := hAP.out; simp only [List.length_append] at h; exact h), ⟨by rw [absl_app, hz.out.1, HSV.out]; simp [absL, HZA.out], by rw [absl_app, hz.out.2, HSC.out]; simp [absL, HQA.out]⟩, hb.trans BW⟩
              case measure => simp [intOf]; omega
        · have hke : k = x2.length := by omega
          subst hke
          have HS0 := Lib.hid (fullP_succ (g := pairG plus) (ys := x2) HX.out)
          have HS1 := Lib.hid (fullP_succ (g := mulW) (ys := x3) HXC.out)
          go_wp2
          go_roundw
          case rel => exact ⟨i + 1, zs, cs, by omega, by go_num, hO0, hO1, hap, ⟨by rw [HS0.out]; exact hz.out.1, by rw [HS1.out, HLEN2.out]; exact hz.out.2⟩, hb⟩
          case measure => simp [intOf]; omega
    · have hie : i = x0.length := by omega
      subst hie
      have HZ : Hid (absL zs = fullP (pairG plus) x0 x2 x0.length) := hz.out.1
      have HCS : Hid (absL cs = combC x1 x3) := by unfold Hid combC; rw [HLEN.out]; exact hz.out.2
      have hzl : zs.length = x0.length * x2.length := by rw [← absL_len2, HZ.out]; exact fullP_len _ _ _ _ (Nat.le_refl _)
      have hcl : cs.length = zs.length := by rw [hzl, ← absL_len2, hz.out.2, fullP_len _ _ _ _ (by rw [HLEN.out]; exact Nat.le_refl _), HLEN2.out]
      have hz3 : zs.length ≤ 65536 := by rw [hzl]; exact Nat.le_trans (Nat.mul_le_mul h64 h642) (by decide)
      have HCL := Lib.hid hcl
      replace B1 := B1.below hb
      replace hT := below_to hT hb hT.size
      obtain ⟨EZ, cz, rfl, -, -⟩ := hO0.rd
      obtain ⟨EC, cc, rfl, -, -⟩ := hO1.rd
      have HRZ := Lib.hid hO0.rd
      have HRC := Lib.hid hO1.rd
      clear hO0 hO1 hap hz hb B0 B2 hlt0 hlt2 HT2 hTz hzl hcl
      go_wp2_with fail
      refine (l05Gather_any _ _ zs cs hz3 HCL.out _ HRZ.out HRC.out).mono ?_
      rw [gat_words HZ.out, HCS.out]
      rintro e w6 ⟨u0, z0, u1, z1, rfl, o0, o1, ap, l0, l1, a0, a1, hb6⟩
      have hB := B1.below hb6
      have hT6 := below_to hT hb6 hT.size
      have hlt6 := B1.lt
      obtain ⟨E0, c0, rfl, -, -⟩ := o0.rd
      obtain ⟨E1, c1, rfl, -, -⟩ := o1.rd
      have HF := Lib.hid (fun u v => retSh_stored (w := w) (b := w.heap.size) o0 o1 ap l0 l1 a0 a1 hT6 (by omega) hlt6 hT.size u v)
      clear o0 o1 ap a0 a1 l0 l1 hb6 hT6 B1 hT hlt6
      have r0 := hB.cell 0 _ rfl
      have r1 := hB.cell 1 _ rfl
      have f0 := hB.free 0
      have f1 := hB.free 1
      have HB := Lib.hid hB
      clear hB
      go_wp2
      refine bodyPost_ret (v := .tuple #[shV (.slice E0 z0.length c0) (.slice E1 z1.length c1), .bool (gatOk (gatW (fullP (pairG plus) x0 x2 x0.length)) (combC x1 x3))]) (by simp [results, Try.results23, go_sem, *]) rfl ?_
      unfold RetGather
      rw [show gatOk (combV (pairG plus) x0 x2) (combC x1 x3) = gatOk (gatW (fullP (pairG plus) x0 x2 x0.length)) (combC x1 x3) from rfl]
      exact HF.out _ _
end Go.Proofs.Ytjajlddnhmbekaa
