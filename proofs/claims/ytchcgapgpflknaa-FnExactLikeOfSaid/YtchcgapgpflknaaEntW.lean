/-
  EntropyOf, walked in the program and in the reference.
-/
import Derived.Test.YtchcgapgpflknaaEnt
import Derived.Test.YtchcgapgpflknaaMean
namespace Go.Proofs.Ytchcgapgpflknaa
open Go.RowKit
attribute [local go_sem] run_fl_add run_fl_sub run_fl_mul run_fl_quo run_up_ run_neg_fl

def entR (x0 x1 : List Nat) : Option Nat := if shareB x0 x1 = true then (entTo x1 x1.length).map (Op.negFloat .f32) else some 0
def RetEntropyOf (x0 x1 : List Nat) (w : World) (e : Ending) (w' : World) : Prop :=
  ∃ b, e = .returned (.tuple #[fV b, .bool (shareB x0 x1)]) ∧ absF .f32 b = entR x0 x1 ∧ Below w.heap.size w w'
theorem entR_no {x0 x1 : List Nat} (h : shareB x0 x1 = false) : entR x0 x1 = some 0 := by unfold entR; rw [h]; rfl
theorem ent_out {x0 x1 : List Nat} {b : Nat} (h : shareB x0 x1 = true) (hb : absF .f32 b = entTo x1 x1.length) : finB (Op.negFloat .f32 b) = true ∧ numF (Op.negFloat .f32 b) = Op.negFloat .f32 b ∧ absF .f32 (Op.negFloat .f32 b) = entR x0 x1 := by
  obtain ⟨b', s, m, p, e, er⟩ := ent_num h
  rw [e] at hb
  obtain ⟨rfl, _⟩ := absF_some hb
  have hr : FloatKind.f32.format.read (Op.negFloat .f32 b) = .number (!s) m p := by rw [read_neg, er]; rfl
  have hf : finB (Op.negFloat .f32 b) = true := by
    unfold finB
    have : FloatKind.f32.decode (Op.negFloat .f32 b) = .number (!s) m p := hr
    rw [this]
  refine ⟨hf, by unfold numF; rw [hf]; rfl, ?_⟩
  unfold entR
  rw [if_pos h, e, num_abs hr]
  rfl
theorem infOk_fin {c : Nat} (h : finB c = true) : InfOk c := by
  intro e
  unfold finB at h
  rw [e] at h
  cases h
theorem chance_at {x0 x1 : List Nat} {k c : Nat} (h : shareB x0 x1 = true) (hc : x1[k]? = some c) : InfOk c ∧ entTo x1 (k + 1) = entStep (entTo x1 k) c := by
  have hl := List.all_eq_true.1 (shareB_near h).1 c (List.mem_of_getElem? hc)
  unfold leastB at hl
  rw [Bool.and_eq_true] at hl
  exact ⟨infOk_fin hl.1, entTo_succ hc⟩
theorem entStep_t {s : Option Nat} {c : Nat} (h : (FloatKind.f32.format.order c 0 == some .gt) = true) : entStep s c = opF .add .f32 s (opF .quo .f32 (opF .mul .f32 (absF .f32 c) (log32 c)) (some 1060205080)) := if_pos h
theorem entStep_f {s : Option Nat} {c : Nat} (h : (FloatKind.f32.format.order c 0 == some .gt) = false) : entStep s c = s := by
  unfold entStep posG
  rw [h]; rfl
theorem enter_l01Log (args : Array Value) (w : World) : (callFunc 66 args).run Try.prog w = .ok (.enter 66 args) w :=
  enter_of Try.func66 (by kernel_rfl) (by kernel_rfl) args w
theorem drew_trans {w w1 w2 : World} (h : ∃ n, w1 = w.drewN n) (h2 : ∃ n, w1.drewN n = w2) : ∃ n, w2 = w.drewN n := by
  obtain ⟨n, rfl⟩ := h
  obtain ⟨m, rfl⟩ := h2
  exact ⟨n + m, by rw [World.drewN_drewN]⟩
theorem lit_ln2 : absF .f32 1060205080 = some 1060205080 := absF_of (by decide)

set_option maxHeartbeats 1600000 in
theorem implEntropyOf_any (s0 : Value) (x0 : List Nat) (s1 : Value) (x1 : List Nat) (hn0 : x0.length ≤ 1099511627776) (hn1 : x1.length ≤ 1099511627776) (w : World) (hr0 : Rd fV w s0 x0) (hr1 : Rd fV w s1 x1) :
    Calls Try.prog 40 #[shV s0 s1] w (RetEntropyOf x0 x1 w) := by
  have HR0 := Lib.hid hr0
  obtain ⟨A0, cap0, rfl, hcap0, hA0⟩ := hr0
  have HA0 := Lib.hid hA0
  clear hA0
  have HR1 := Lib.hid hr1
  obtain ⟨A1, cap1, rfl, hcap1, hA1⟩ := hr1
  have HA1 := Lib.hid hA1
  clear hA1
  go_enter Try.func40, Try.ntmps40
  go_wp2_with fail
  have B := BoxAt.new w [.slice A0 x0.length cap0, .slice A1 x1.length cap1] 57
  have hT := below_alloc w (.cells ([.slice A0 x0.length cap0, .slice A1 x1.length cap1] : List Value).toArray 57)
  generalize hg : World.alloc w _ = W0 at *
  clear hg
  refine (implValidShare_any _ x0 _ x1 hn0 hn1 _ (HR0.out.below hT) (HR1.out.below hT)).mono ?_
  rintro e w1 ⟨rfl, hb⟩
  replace B := B.below hb
  replace hT := below_to hT hb hT.size
  clear hb
  cases hs : shareB x0 x1
  · have Hs := Lib.hid hs
    clear hs
    go_wp2
    go_ret2
    exact ⟨0, by rw [Hs.out]; rfl, by rw [entR_no Hs.out]; exact abs_zero, hT⟩
  · have hl := shareB_len hs
    have Hs := Lib.hid hs
    clear hs
    have Hl := Lib.hid hl
    clear hl
    have d0 := B.cell 0 _ rfl
    have d1 := B.cell 1 _ rfl
    go_wp2
    go_loopw [4, 13] (fun ss si wr => ∃ (k b : Nat), k ≤ x1.length ∧ si = .int .i64 k ∧ ss = fV b ∧ Hid (absF .f32 b = entTo x1 k) ∧ Below w.heap.size w wr) (fun _ si _ => x1.length - (intOf si).toNat)
    case atStart => exact ⟨0, 0, by omega, rfl, rfl, abs_zero, hT⟩
    case round =>
      obtain ⟨k, b, hk, rfl, rfl, hb0, hT2⟩ := hrel
      by_cases hlt : k < x1.length
      · obtain ⟨c, hc⟩ := get_of_lt hlt
        obtain ⟨ad, rfl, hbl, hcell⟩ := HA1.out k c hc
        have e0 : wr.cell? (ad.add k) = some (fV c) := by rw [hT2.cell (by rw [add_block]; exact hbl)]; exact hcell
        have HC := Lib.hid (chance_at Hs.out hc)
        clear hc hcell
        cases hg : (FloatKind.f32.format.order c 0 == some .gt)
        · have HG := Lib.hid (entStep_f (s := entTo x1 k) hg)
          go_wp2
          go_roundw
          case rel => exact ⟨k + 1, b, by omega, by go_num, rfl, by unfold Hid; rw [HC.out.2, HG.out]; exact hb0.out, hT2⟩
          case measure => simp [intOf]; omega
        · have HG := Lib.hid (entStep_t (s := entTo x1 k) hg)
          go_wp2_with fail
          refine (logNumber_any _ HC.out.1 _).mono ?_
          rintro e w2 ⟨l, rfl, hl, n, rfl⟩
          have HLG := Lib.hid hl
          clear hl
          go_wp2
          go_roundw
          case rel => exact ⟨k + 1, _, by omega, by go_num, rfl, by unfold Hid; rw [HC.out.2, HG.out, abs_flR .add rfl, abs_flR .quo rfl, abs_flR .mul rfl, hb0.out, HLG.out, lit_ln2], below_drewN_ hT2⟩
          case measure => simp [intOf]; omega
      · have hke : k = x1.length := by omega
        have HV := Lib.hid (ent_out (b := b) Hs.out (by rw [hb0.out, hke]))
        clear hke
        go_wp2_with fail
        refine (checked_any _ _).mono ?_
        rintro e w3 ⟨rfl, hd⟩
        have hb := below_of_drew hd
        clear hd
        go_wp2
        go_ret2
        exact ⟨_, by rw [HV.out.1, Hs.out] <;> rfl, by rw [HV.out.2.1]; exact HV.out.2.2, below_to hT2 hb hT2.size⟩

set_option maxHeartbeats 1600000 in
theorem specEntropyOf_any (s0 : Value) (x0 : List Nat) (s1 : Value) (x1 : List Nat) (hn0 : x0.length ≤ 1099511627776) (hn1 : x1.length ≤ 1099511627776) (w : World) (hr0 : Rd fV w s0 x0) (hr1 : Rd fV w s1 x1) :
    Calls Try.prog 38 #[shV s0 s1] w (RetEntropyOf x0 x1 w) := by
  have HR0 := Lib.hid hr0
  obtain ⟨A0, cap0, rfl, hcap0, hA0⟩ := hr0
  have HA0 := Lib.hid hA0
  clear hA0
  have HR1 := Lib.hid hr1
  obtain ⟨A1, cap1, rfl, hcap1, hA1⟩ := hr1
  have HA1 := Lib.hid hA1
  clear hA1
  go_enter Try.func38, Try.ntmps38
  go_wp2_with fail
  have B := BoxAt.new w [.slice A0 x0.length cap0, .slice A1 x1.length cap1] 57
  have hT := below_alloc w (.cells ([.slice A0 x0.length cap0, .slice A1 x1.length cap1] : List Value).toArray 57)
  generalize hg : World.alloc w _ = W0 at *
  clear hg
  refine (l05Is_any _ _ _ x0 x1 hn0 hn1 _ B (HR0.out.below hT) (HR1.out.below hT)).mono ?_
  rintro e w1 ⟨rfl, hb⟩
  replace B := B.below hb
  replace hT := below_to hT hb hT.size
  clear hb
  cases hs : shareB x0 x1
  · have Hs := Lib.hid hs
    clear hs
    go_wp2
    go_ret2
    exact ⟨0, by rw [Hs.out]; rfl, by rw [entR_no Hs.out]; exact abs_zero, hT⟩
  · have hl := shareB_len hs
    have Hs := Lib.hid hs
    clear hs
    have Hl := Lib.hid hl
    clear hl
    have c0 := B.cell 0 _ rfl
    have c1 := B.cell 1 _ rfl
    go_wp2
    go_loopw [4, 11] (fun ss si wr => ∃ (k b : Nat), k ≤ x1.length ∧ si = .int .i64 k ∧ ss = fV b ∧ Hid (absF .f32 b = entTo x1 k) ∧ Below w1.heap.size w1 wr) (fun _ si _ => x1.length - (intOf si).toNat)
    case atStart => exact ⟨0, 0, by omega, rfl, rfl, abs_zero, Below.refl _ _⟩
    case round =>
      obtain ⟨k, b, hk, rfl, rfl, hb0, hb⟩ := hrel
      have B2 := B.below hb
      have hT2 := below_to hT hb hT.size
      clear c0 c1
      have d0 := B2.cell 0 _ rfl
      have d1 := B2.cell 1 _ rfl
      by_cases hlt : k < x1.length
      · obtain ⟨c, hc⟩ := get_of_lt hlt
        obtain ⟨ad, rfl, hbl, hcell⟩ := HA1.out k c hc
        have e0 : wr.cell? (ad.add k) = some (fV c) := by rw [hT2.cell (by rw [add_block]; exact hbl)]; exact hcell
        have HC := Lib.hid (chance_at Hs.out hc)
        clear hc hcell
        have hk0 : (0 : Int) ≤ (k : Int) := by omega
        have hk1 : (k : Int) < (x1.length : Int) := by omega
        cases hg : (FloatKind.f32.format.order c 0 == some .gt)
        · have HG := Lib.hid (entStep_f (s := entTo x1 k) hg)
          go_wp2
          go_roundw
          case rel => exact ⟨k + 1, b, by omega, by go_num, rfl, by unfold Hid; rw [HC.out.2, HG.out]; exact hb0.out, hb⟩
          case measure => simp [intOf]; omega
        · have HG := Lib.hid (entStep_t (s := entTo x1 k) hg)
          go_wp2
          refine wp_region_fq 16 (fun _ _ v => ∃ l, v = fV l ∧ absF .f32 l = log32 c) (by kernel_rfl) (by kernel_rfl) ?_
          simp only [List.take, List.drop]
          repeat (first | (refine wpFq_one (by rfl) ?_; go_big_quiet_step (fail); refine wpQuiet_nil ?_) | (refine wpFq_nilc (by rfl) _ rfl _ (by rfl) ?_; simp only [Act.put, List.setIfInBounds_toArray, List.set_cons_zero, List.set_cons_succ]) | (refine wpFq_fl (by rfl) _ _ _ _ _ rfl (by rfl) _ _ _ (by rfl) (by rfl) ?_; intro fb hfb; simp only [Act.put, List.setIfInBounds_toArray, List.set_cons_zero, List.set_cons_succ]) | (refine wpFq_up (by rfl) _ _ _ rfl (by kernel_rfl) (by kernel_rfl) _ (by rfl) ?_; intro fb hfb; simp only [Act.put, List.setIfInBounds_toArray, List.set_cons_zero, List.set_cons_succ]) | ((refine wpFq_call (by rfl) 66 _ _ [fV c] rfl rfl enter_l01Log (fun w' hw' => (l01Log_any c HC.out.1 w').mono fun e w2 ⟨l, he, hl, hw⟩ => ⟨_, he, ⟨l, rfl, hl⟩, drew_trans hw' hw⟩) ?_; rintro v ⟨l, rfl, hlg⟩); simp only [Act.put, List.setIfInBounds_toArray, List.set_cons_zero, List.set_cons_succ]))
          refine wpFq_nil ?_
          intro nq
          go_wp2
          go_roundw
          case rel => exact ⟨k + 1, _, by omega, by go_num, rfl, by unfold Hid; rw [HC.out.2, HG.out, ← hb0.out, ← lit_ln2, ← hlg]; simp only [*], below_drewN_ hb⟩
          case measure => simp [intOf]; omega
      · have hke : k = x1.length := by omega
        have HV := Lib.hid (ent_out (b := b) Hs.out (by rw [hb0.out, hke]))
        clear hke
        go_wp2
        go_ret2
        exact ⟨_, by rw [Hs.out] <;> rfl, HV.out.2.2, hT2⟩
end Go.Proofs.Ytchcgapgpflknaa
