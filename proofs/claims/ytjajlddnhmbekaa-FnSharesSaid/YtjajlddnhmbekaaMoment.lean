/-
  Moments of shares: both MomentOf.
-/
import Derived.Test.YtjajlddnhmbekaaMean
import Derived.Test.YtjajlddnhmbekaaWithin
namespace Go.Proofs.Ytjajlddnhmbekaa
open Go.RowKit
attribute [local go_sem] run_fl_add run_fl_sub run_fl_mul run_fl_quo run_up_

/-- s, j times multiplied by d. -/
def powTo (s d : Option Nat) : Nat → Option Nat | 0 => s | j + 1 => opF .mul .f32 (powTo s d j) d
def momTo (v c : List Nat) (m : Option Nat) (n k : Nat) : Option Nat := (List.range k).foldl (fun s i => opF .add .f32 s (powTo (absF .f32 (c.getD i 0)) (opF .sub .f32 (absF .f32 (v.getD i 0)) m) n)) (some 0)
theorem momTo_succ {v c : List Nat} (m : Option Nat) (n : Nat) {k x y : Nat} (hx : v[k]? = some x) (hy : c[k]? = some y) : momTo v c m n (k + 1) = opF .add .f32 (momTo v c m n k) (powTo (absF .f32 y) (opF .sub .f32 (absF .f32 x) m) n) := by
  simp [momTo, List.range_succ, hx, hy]
def momOk1 (v c : List Nat) (n : Int) : Bool := meanOk v c && inB n 0 8
def momR (v c : List Nat) (n : Int) : Option Nat := momTo v c (meanV v c) n.toNat v.length
def momOk (v c : List Nat) (n : Int) : Bool := momOk1 v c n && finA (momR v c n)
def momV (v c : List Nat) (n : Int) : Option Nat := if momOk v c n then momR v c n else some 0
def RetMomentOf (x0 x1 : List Nat) (n : Int) (w : World) (e : Ending) (w' : World) : Prop :=
  ∃ b, e = .returned (.tuple #[fV b, .bool (momOk x0 x1 n)]) ∧ absF .f32 b = momV x0 x1 n ∧ Below w.heap.size w w'
theorem mom_no {v c : List Nat} {n : Int} (h : momOk1 v c n = false) : momOk v c n = false ∧ momV v c n = some 0 := by
  have : momOk v c n = false := by unfold momOk; rw [h]; rfl
  exact ⟨this, by unfold momV; rw [this]; rfl⟩
theorem mom_yes {v c : List Nat} {n : Int} {b : Nat} (h : momOk1 v c n = true) (hb : absF .f32 b = momR v c n) : finB b = momOk v c n ∧ absF .f32 (numF b) = momV v c n := by
  have h2 : finB b = momOk v c n := by unfold momOk; rw [h, fin_abs, hb]; rfl
  refine ⟨h2, ?_⟩
  unfold momV numF
  rw [← h2]
  split
  · exact hb
  · exact abs_zero
theorem mean_share {v c : List Nat} (h : meanOk v c = true) : shareB v c = true := by
  unfold meanOk at h
  simp only [Bool.and_eq_true] at h
  exact h.1

set_option maxHeartbeats 3200000 in
theorem implMomentOf_any (s0 : Value) (x0 : List Nat) (s1 : Value) (x1 : List Nat) (hn0 : x0.length ≤ 1099511627776) (hn1 : x1.length ≤ 1099511627776) (n : Int) (w : World) (hr0 : Rd fV w s0 x0) (hr1 : Rd fV w s1 x1) :
    Calls Try.prog 7 #[shV s0 s1, .int .i64 n] w (RetMomentOf x0 x1 n w) := by
  have HR0 := Lib.hid hr0
  obtain ⟨A0, cap0, rfl, hcap0, hA0⟩ := hr0
  have HA0 := Lib.hid hA0
  clear hA0
  have HR1 := Lib.hid hr1
  obtain ⟨A1, cap1, rfl, hcap1, hA1⟩ := hr1
  have HA1 := Lib.hid hA1
  clear hA1
  go_enter Try.func7, Try.ntmps7
  go_wp2_with fail
  have B := BoxAt.new w [.slice A0 x0.length cap0, .slice A1 x1.length cap1] 26
  have hT := below_alloc w (.cells ([.slice A0 x0.length cap0, .slice A1 x1.length cap1] : List Value).toArray 26)
  generalize hg : World.alloc w _ = W0 at *
  clear hg
  refine (implMeanOfShare_any _ x0 _ x1 hn0 hn1 _ (HR0.out.below hT) (HR1.out.below hT)).mono ?_
  rintro e w1 ⟨mb, rfl, hmb, hb⟩
  replace B := B.below hb
  replace hT := below_to hT hb hT.size
  clear hb
  have Hmb := Lib.hid hmb
  clear hmb
  cases hs : meanOk x0 x1
  · have Ho := Lib.hid (mom_no (n := n) (show momOk1 x0 x1 n = false by unfold momOk1; rw [hs]; rfl))
    have Hs := Lib.hid hs
    clear hs
    go_wp2
    go_ret2
    exact ⟨0, by rw [Ho.out.1] <;> rfl, by rw [Ho.out.2]; exact abs_zero, hT⟩
  · have hl := shareB_len (mean_share hs)
    have Hs := Lib.hid hs
    clear hs
    have Hl := Lib.hid hl
    clear hl
    cases hi : inB n 0 8
    · have Ho := Lib.hid (mom_no (n := n) (show momOk1 x0 x1 n = false by unfold momOk1; rw [hi]; simp))
      have Hi := Lib.hid hi
      clear hi
      go_wp2_with (go_at_call 21; refine (within_any _ _ _ _).mono ?_; rintro e w' ⟨rfl, rfl⟩; rw [Hi.out])
      go_ret2
      exact ⟨0, by rw [Ho.out.1] <;> rfl, by rw [Ho.out.2]; exact abs_zero, hT⟩
    · have Ho := Lib.hid (show momOk1 x0 x1 n = true by unfold momOk1; rw [hi, Hs.out]; rfl)
      have hnr := inB_true hi
      obtain ⟨N, rfl⟩ : ∃ N : Nat, n = (N : Int) := ⟨n.toNat, by omega⟩
      have hN : N ≤ 8 := by omega
      have Hi := Lib.hid hi
      clear hi
      clear hnr
      have e1 := Hl.out.2
      rw [e1] at hcap1 B
      clear e1
      have c0 := B.cell 0 _ rfl
      have c1 := B.cell 1 _ rfl
      go_wp2_with (go_at_call 21; refine (within_any _ _ _ _).mono ?_; rintro e w' ⟨rfl, rfl⟩; rw [Hi.out])
      go_loopw [8, 28] (fun ss si wr => ∃ (k b : Nat), k ≤ x0.length ∧ si = .int .i64 k ∧ ss = fV b ∧ Hid (absF .f32 b = momTo x0 x1 (meanV x0 x1) N k) ∧ Below w1.heap.size w1 wr) (fun _ si _ => x0.length - (intOf si).toNat)
      case atStart => exact ⟨0, 0, by omega, rfl, rfl, abs_zero, Below.refl _ _⟩
      case round =>
        obtain ⟨k, b, hk, rfl, rfl, hs, hb⟩ := hrel
        obtain ⟨wo, rfl⟩ : ∃ wo : World, wo = wr := ⟨_, rfl⟩
        have B' := B.below hb
        have hb0 := hb
        replace hb := below_to hT hb hT.size
        clear c0 c1
        have d0 := B'.cell 0 _ rfl
        have d1 := B'.cell 1 _ rfl
        by_cases hlt : k < x0.length
        · obtain ⟨x, hx⟩ := get_of_lt hlt
          obtain ⟨c, hc⟩ := get_of_lt (xs := x1) (k := k) (by rw [Hl.out.2]; exact hlt)
          obtain ⟨ad, rfl, hbl, hcell⟩ := HA0.out k x hx
          obtain ⟨ad1, rfl, hbl1, hcell1⟩ := HA1.out k c hc
          have e0 : wo.cell? (ad.add k) = some (fV x) := by rw [hb.cell (by rw [add_block]; exact hbl)]; exact hcell
          have e1 : wo.cell? (ad1.add k) = some (fV c) := by rw [hb.cell (by rw [add_block]; exact hbl1)]; exact hcell1
          have HD := Lib.hid (momTo_succ (meanV x0 x1) N hx hc)
          have hk0 : (0 : Int) ≤ (k : Int) := by omega
          have hk1 : (k : Int) < (x0.length : Int) := by omega
          clear hx hc hcell hcell1
          go_wp2
          refine wp_region_fq 10 (fun _ _ _ => True) (by kernel_rfl) (by kernel_rfl) ?_
          simp only [List.take, List.drop]
          repeat (first | (refine wpFq_one (by rfl) ?_; go_big_quiet_step (fail); refine wpQuiet_nil ?_) | (refine wpFq_nilc (by rfl) _ rfl _ (by rfl) ?_; simp only [Act.put, List.setIfInBounds_toArray, List.set_cons_zero, List.set_cons_succ]) | (refine wpFq_fl (by rfl) _ _ _ _ _ rfl (by rfl) _ _ _ (by rfl) (by rfl) ?_; intro fb hfb; simp only [Act.put, List.setIfInBounds_toArray, List.set_cons_zero, List.set_cons_succ]) | (refine wpFq_up (by rfl) _ _ _ rfl (by kernel_rfl) (by kernel_rfl) _ (by rfl) ?_; intro fb hfb; simp only [Act.put, List.setIfInBounds_toArray, List.set_cons_zero, List.set_cons_succ]))
          refine wpFq_nil ?_
          intro nq
          have HA := Lib.hid ‹absF .f32 _ = opF .sub .f32 (absF .f32 x) (absF .f32 mb)›
          go_wp2
          go_loopw [11, 42] (fun sx sj wr => ∃ (j xb : Nat), j ≤ N ∧ sj = .int .i64 j ∧ sx = fV xb ∧ Hid (absF .f32 xb = powTo (absF .f32 c) (opF .sub .f32 (absF .f32 x) (meanV x0 x1)) j) ∧ ∃ q, wo.drewN q = wr) (fun _ sj _ => N - (intOf sj).toNat)
          case atStart => exact ⟨0, c, by omega, rfl, rfl, rfl, _, rfl⟩
          case round =>
            obtain ⟨j, xb, hj, rfl, rfl, hx, q, rfl⟩ := hrel
            by_cases hjl : j < N
            · go_wp2
              go_roundw
              case rel => exact ⟨j + 1, _, by omega, by go_num, rfl, by unfold Hid; rw [abs_flR .mul rfl, hx.out, HA.out, Hmb.out]; rfl, _, rfl⟩
              case measure => simp [intOf]; omega
            · have hje : j = N := by omega
              have Hje := Lib.hid hje
              clear hje
              go_wp2
              go_roundw
              case rel => exact ⟨k + 1, _, by omega, by go_num, rfl, by unfold Hid; rw [HD.out, abs_flR .add rfl, hs.out, hx.out, Hje.out], below_drewN_ hb0⟩
              case measure => simp [intOf]; omega
        · have hke : k = x0.length := by omega
          have Hke := Lib.hid hke
          clear hke
          have hv := mom_yes Ho.out (show absF .f32 b = momR x0 x1 N by rw [hs.out, Hke.out]; rfl)
          have Hv := Lib.hid hv
          clear hv
          go_wp2_with fail
          refine (checked_any _ _).mono ?_
          rintro e w3 ⟨rfl, hd⟩
          have hb2 := below_of_drew hd
          clear hd
          go_wp2
          go_ret2
          exact ⟨_, by rw [Hv.out.1] <;> rfl, Hv.out.2, below_to hb hb2 hb.size⟩
end Go.Proofs.Ytjajlddnhmbekaa
