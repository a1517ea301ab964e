/-
  GivenAbove, walked in the program.
-/
import Derived.Test.YtjajlddnhmbekaaGreatQuP2
namespace Go.Proofs.YtjajlddnhmbekaaGreat
open Go.RowKit
attribute [local go_sem] run_fl_add run_fl_sub run_fl_mul run_fl_quo run_up_ run_store_float

section
variable {wr wA wB : World} {vA vB : Value} {xs ys : List Nat} {T : TypeId}
theorem grow_last (hbA : Below wr.drew.heap.size wr.drew wA) (oA : Own fV 28 wA wr.drew.heap.size vA xs) (hbB : Below wA.heap.size wA wB) (oB : Own fV 28 wB wA.heap.size vB ys) :
    Grow (wB.alloc (.cells #[vA, vB] T)) wr.heap.size wB.heap.size vA vB xs ys ∧ Below wr.heap.size wr (wB.alloc (.cells #[vA, vB] T)) ∧ wr.heap.size ≤ wB.heap.size := by
  have s1 : wr.heap.size ≤ wA.heap.size := hbA.size
  have s2 := hbB.size
  have oA' := oA.below hbB
  refine ⟨⟨BoxAt.new wB [vA, vB] T, Own.alloc (oA'.base_ (Nat.le_refl _)) _, Own.alloc (oB.base_ s1) _, fun e => ?_, fun e => ?_, ?_⟩, ?_, by omega⟩
  · have := (oA'.lt _ e).2; omega
  · have := (oB.lt _ e).2; omega
  · cases hv : vA.ownBlock with
    | none => exact .inl rfl
    | some a =>
      refine .inr fun e => ?_
      have h1 := (oA.lt a hv).2
      have h2 := (oB.lt a e.symm).1
      omega
  · exact (below_to (below_to (Below.refl wr.heap.size wr).drew hbA (Nat.le_refl _)) hbB s1).alloc (by omega) _
theorem grow_first {o : Obj} (hbA : Below (wr.alloc o).drew.heap.size (wr.alloc o).drew wA) (oA : Own fV 28 wA (wr.alloc o).drew.heap.size vA xs) (hbB : Below wA.heap.size wA wB) (oB : Own fV 28 wB wA.heap.size vB ys) (KC : BoxAt wB wr.heap.size [.slice none 0 0, .slice none 0 0]) :
    Grow ((wB.setCell ⟨wr.heap.size, 0, none⟩ vA).setCell ⟨wr.heap.size, 1, none⟩ vB) wr.heap.size wr.heap.size vA vB xs ys ∧ Below wr.heap.size wr ((wB.setCell ⟨wr.heap.size, 0, none⟩ vA).setCell ⟨wr.heap.size, 1, none⟩ vB) ∧ wr.heap.size ≤ wr.heap.size := by
  have s0 : (wr.alloc o).drew.heap.size = wr.heap.size + 1 := size_alloc wr o
  have s1 : (wr.alloc o).drew.heap.size ≤ wA.heap.size := hbA.size
  have s2 := hbB.size
  have oA' := oA.below hbB
  have nA : vA.ownBlock ≠ some wr.heap.size := fun e => by have := (oA.lt _ e).1; omega
  have nB : vB.ownBlock ≠ some wr.heap.size := fun e => by have := (oB.lt _ e).1; omega
  refine ⟨⟨(KC.set (i := 0) rfl vA).set (i := 1) rfl vB, Own.other (Own.other (oA'.base_ (by omega)) nA _) nA _, Own.other (Own.other (oB.base_ (by omega)) nB _) nB _, nA, nB, ?_⟩, ?_, Nat.le_refl _⟩
  · cases hv : vA.ownBlock with
    | none => exact .inl rfl
    | some a =>
      refine .inr fun e => ?_
      have h1 := (oA.lt a hv).2
      have h2 := (oB.lt a e.symm).1
      omega
  · exact ((below_to (below_to ((Below.refl wr.heap.size wr).alloc (Nat.le_refl _) o).drew hbA (by omega)) hbB (by omega)).setCell (p := ⟨wr.heap.size, 0, none⟩) (Nat.le_refl _) _).setCell (p := ⟨wr.heap.size, 1, none⟩) (Nat.le_refl _) _
theorem grow_mid {o : Obj} (hbA : Below wr.drew.heap.size wr.drew wA) (oA : Own fV 28 wA wr.drew.heap.size vA xs) (hbB : Below (wA.alloc o).heap.size (wA.alloc o) wB) (oB : Own fV 28 wB (wA.alloc o).heap.size vB ys) (KC : BoxAt wB wA.heap.size [.slice none 0 0, .slice none 0 0]) :
    Grow ((wB.setCell ⟨wA.heap.size, 0, none⟩ vA).setCell ⟨wA.heap.size, 1, none⟩ vB) wr.heap.size wA.heap.size vA vB xs ys ∧ Below wr.heap.size wr ((wB.setCell ⟨wA.heap.size, 0, none⟩ vA).setCell ⟨wA.heap.size, 1, none⟩ vB) ∧ wr.heap.size ≤ wA.heap.size := by
  have s0 : (wA.alloc o).heap.size = wA.heap.size + 1 := size_alloc wA o
  have s1 : wr.heap.size ≤ wA.heap.size := hbA.size
  have s2 := hbB.size
  have oA' := (Own.alloc oA o).below hbB
  have nA : vA.ownBlock ≠ some wA.heap.size := fun e => by have := (oA.lt _ e).2; omega
  have nB : vB.ownBlock ≠ some wA.heap.size := fun e => by have := (oB.lt _ e).1; omega
  refine ⟨⟨(KC.set (i := 0) rfl vA).set (i := 1) rfl vB, Own.other (Own.other (oA'.base_ (Nat.le_refl _)) nA _) nA _, Own.other (Own.other (oB.base_ (by omega)) nB _) nB _, nA, nB, ?_⟩, ?_, s1⟩
  · cases hv : vA.ownBlock with
    | none => exact .inl rfl
    | some a =>
      refine .inr fun e => ?_
      have h1 := (oA.lt a hv).2
      have h2 := (oB.lt a e.symm).1
      omega
  · exact ((below_to ((below_to (Below.refl wr.heap.size wr).drew hbA (Nat.le_refl _)).alloc s1 o) hbB (by omega)).setCell (p := ⟨wA.heap.size, 0, none⟩) s1 _).setCell (p := ⟨wA.heap.size, 1, none⟩) s1 _
end

set_option maxHeartbeats 3200000 in
theorem implGivenAbove_any (s0 : Value) (x0 : List Nat) (s1 : Value) (x1 : List Nat) (hn0 : x0.length ≤ 1099511627776) (hn1 : x1.length ≤ 1099511627776) (x : Nat) (w : World) (hr0 : Rd fV w s0 x0) (hr1 : Rd fV w s1 x1) :
    Calls Tryz.prog 12 #[shV s0 s1, fV x] w (RetGivenAbove x0 x1 x w) := by
  have HR0 := Lib.hid hr0
  obtain ⟨A0, cap0, rfl, hcap0, hA0⟩ := hr0
  have HA0 := Lib.hid hA0
  clear hA0
  have HR1 := Lib.hid hr1
  obtain ⟨A1, cap1, rfl, hcap1, hA1⟩ := hr1
  have HA1 := Lib.hid hA1
  clear hA1
  go_enter Tryz.func12, Tryz.ntmps12
  go_wp2_with fail
  have B0 : BoxAt ((w.alloc (.cells ([.slice A0 x0.length cap0, .slice A1 x1.length cap1] : List Value).toArray 26)).alloc (.cells ([.slice none 0 0, .slice none 0 0] : List Value).toArray 26)) w.heap.size [.slice A0 x0.length cap0, .slice A1 x1.length cap1] := (BoxAt.new w _ _).alloc _
  have B1 : BoxAt ((w.alloc (.cells ([.slice A0 x0.length cap0, .slice A1 x1.length cap1] : List Value).toArray 26)).alloc (.cells ([.slice none 0 0, .slice none 0 0] : List Value).toArray 26)) (w.heap.size + 1) [.slice none 0 0, .slice none 0 0] := by
    have := BoxAt.new (w.alloc (.cells ([.slice A0 x0.length cap0, .slice A1 x1.length cap1] : List Value).toArray 26)) [.slice none 0 0, .slice none 0 0] 26
    rwa [size_alloc] at this
  have hT : Below w.heap.size w ((w.alloc (.cells ([.slice A0 x0.length cap0, .slice A1 x1.length cap1] : List Value).toArray 26)).alloc (.cells ([.slice none 0 0, .slice none 0 0] : List Value).toArray 26)) := ((Below.refl _ _).alloc (Nat.le_refl _) _).alloc (by simp) _
  generalize hg : (w.alloc _).alloc _ = W0 at *
  clear hg
  refine (implValidShare_any _ x0 _ x1 hn0 hn1 _ (HR0.out.below hT) (HR1.out.below hT)).mono ?_
  rintro e w1 ⟨rfl, hb⟩
  replace B0 := B0.below hb
  replace B1 := B1.below hb
  replace hT := below_to hT hb hT.size
  clear hb
  cases hs : shareB x0 x1
  · have Ho := Lib.hid (giv_f1 (x := x) hs)
    have Hs := Lib.hid hs
    clear hs
    have d0 := B1.cell 0 _ rfl
    have d1 := B1.cell 1 _ rfl
    have f0 := B1.free 0
    have f1 := B1.free 1
    have HT := Lib.hid hT
    clear hT
    go_wp2
    refine bodyPost_ret (v := .tuple #[shV (.slice none 0 0) (.slice none 0 0), .bool false]) (by simp [results, Tryz.results12, go_sem, *]) rfl ?_
    unfold RetGivenAbove
    rw [Ho.out]
    exact RetSh.none ((HT.out.setCell (by simp) _).setCell (by simp) _)
  have hl := shareB_len hs
  have hrise := shareB_rise hs
  have Hs := Lib.hid hs
  clear hs
  go_wp2_with fail
  refine (isFinite_any _ _).mono ?_
  rintro e w2 ⟨rfl, hd⟩
  have hb := below_of_drew hd
  clear hd
  replace B0 := B0.below hb
  replace B1 := B1.below hb
  replace hT := below_to hT hb hT.size
  clear hb
  cases hf : finB x
  · have Ho := Lib.hid (giv_f2 (x0 := x0) (x1 := x1) hf)
    have Hf := Lib.hid hf
    clear hf
    have d0 := B1.cell 0 _ rfl
    have d1 := B1.cell 1 _ rfl
    have f0 := B1.free 0
    have f1 := B1.free 1
    have HT := Lib.hid hT
    clear hT
    go_wp2
    refine bodyPost_ret (v := .tuple #[shV (.slice none 0 0) (.slice none 0 0), .bool false]) (by simp [results, Tryz.results12, go_sem, *]) rfl ?_
    unfold RetGivenAbove
    rw [Ho.out]
    exact RetSh.none ((HT.out.setCell (by simp) _).setCell (by simp) _)
  have hlen : x1.length = x0.length := hl.2
  have h64 : x0.length ≤ 64 := hl.1.2
  have h1 : 1 ≤ x0.length := hl.1.1
  have HLEN := Lib.hid hlen
  have Hf := Lib.hid hf
  clear hf
  clear hl hrise
  obtain ⟨ad0, rfl⟩ : ∃ a, A0 = some a := by
    obtain ⟨v, hv⟩ := get_of_lt (xs := x0) (k := 0) (by omega)
    obtain ⟨a, e, _⟩ := HA0.out 0 v hv
    exact ⟨a, e⟩
  obtain ⟨ad1, rfl⟩ : ∃ a, A1 = some a := by
    obtain ⟨v, hv⟩ := get_of_lt (xs := x1) (k := 0) (by omega)
    obtain ⟨a, e, _⟩ := HA1.out 0 v hv
    exact ⟨a, e⟩
  rw [hlen] at B0 hcap1
  clear hlen
  have c0 := B0.cell 0 _ rfl
  have c1 := B0.cell 1 _ rfl
  go_wp2
  go_loopw [6] (fun si wr => ∃ k : Nat, k ≤ x0.length ∧ si = .int .i64 k ∧ Hid (∀ i v, i < k → x0[i]? = some v → leX x v = true) ∧ wr = w2) (fun si _ => x0.length - (intOf si).toNat)
  case atStart => exact ⟨0, by omega, rfl, fun i v h _ => by omega, rfl⟩
  case round =>
    obtain ⟨k, hk, rfl, hle, rfl⟩ := hrel
    by_cases hgo : ∃ v, x0[k]? = some v ∧ leX x v = true
    · obtain ⟨v, hv, hlx⟩ := hgo
      obtain ⟨ad', e, hbl0, hcell0⟩ := HA0.out k v hv
      cases e
      have e0 : wr.cell? (ad0.add k) = some (fV v) := by rw [hT.cell (by rw [add_block]; exact hbl0)]; exact hcell0
      have hlx' : (FloatKind.f32.format.order v x == some .lt || FloatKind.f32.format.order v x == some .eq) = true := hlx
      have hkl := lt_of_get hv
      have HLE : Hid (∀ i u, i < k + 1 → x0[i]? = some u → leX x u = true) := fun i u h hu => by
        rcases Nat.lt_or_ge i k with h' | h'
        · exact hle.out i u h' hu
        · rw [show i = k by omega, hv] at hu
          cases hu
          exact hlx
      have hk0 : (0 : Int) ≤ (k : Int) := by omega
      have hk1 : (k : Int) < (x0.length : Int) := by omega
      clear hv hcell0 hlx
      go_wp2
      go_roundw
      case rel => exact ⟨k + 1, by omega, by go_num, HLE, by first | rfl | trivial⟩
      case measure => simp [intOf]; omega
    · have hkc : k = cutK x x0 := cutK_of hle.out hk fun v hv => by
        cases h : leX x v with
        | false => rfl
        | true => exact absurd ⟨v, hv, h⟩ hgo
      have HKC := Lib.hid hkc
      clear hkc
      by_cases hlt : k < x0.length
      all_goals
        first
          | (obtain ⟨v, hv⟩ := get_of_lt hlt
             obtain ⟨ad', e, hbl0, hcell0⟩ := HA0.out k v hv
             cases e
             have e0 : wr.cell? (ad0.add k) = some (fV v) := by rw [hT.cell (by rw [add_block]; exact hbl0)]; exact hcell0
             have hlx' : (FloatKind.f32.format.order v x == some .lt || FloatKind.f32.format.order v x == some .eq) = false := by
               cases h : leX x v with
               | false => exact h
               | true => exact absurd ⟨v, hv, h⟩ hgo
             have hk0 : (0 : Int) ≤ (k : Int) := by omega
             have hk1 : (k : Int) < (x0.length : Int) := by omega
             clear hv hcell0)
          | skip
        clear hgo
        go_wp2
        have q0 : (0 : Int) ≤ (k : Int) := by omega
        have q1 : (k : Int) ≤ (x0.length : Int) := by omega
        have q2 : (x0.length : Int) ≤ (cap0 : Int) := by omega
        have q3 : (x0.length : Int) ≤ (cap1 : Int) := by omega
        have hwr := B1.lt
        have HK := Lib.hid hk
        obtain ⟨b0, hif0, R0⟩ : ∃ b0, (if cap0 = k then some ad0 else some (ad0.add k)) = some b0 ∧ Hid (Rd fV w (.slice (some b0) (x0.length - k) (cap0 - k)) (x0.drop k)) := by
          have h := HR0.out.cut (k := k) hk
          by_cases hc : cap0 = k
          · rw [if_pos hc] at h ⊢; exact ⟨_, rfl, h⟩
          · rw [if_neg hc] at h ⊢; exact ⟨_, rfl, h⟩
        obtain ⟨b1, hif1, R1⟩ : ∃ b1, (if cap1 = k then some ad1 else some (ad1.add k)) = some b1 ∧ Hid (Rd fV w (.slice (some b1) (x0.length - k) (cap1 - k)) (x1.drop k)) := by
          have h0 := HR1.out
          rw [HLEN.out] at h0
          have h := h0.cut (k := k) (by rw [HLEN.out]; exact hk)
          by_cases hc : cap1 = k
          · rw [if_pos hc] at h ⊢; exact ⟨_, rfl, h⟩
          · rw [if_neg hc] at h ⊢; exact ⟨_, rfl, h⟩
        go_region_held3 (fun w' => w'.cell? ⟨w.heap.size, 0, none⟩ = some (.slice (some ad0) x0.length cap0) ∧ w'.cell? ⟨w.heap.size, 1, none⟩ = some (.slice (some ad1) x0.length cap1))
          (first
            | go_keep
            | (refine ⟨?_, ?_⟩ <;> (rw [((below_to (below_to (Below.refl wr.heap.size wr).drew hbA (by simp)) hbB (by have q8 := hbA.size; simp at q8 ⊢; omega)).alloc (by have q8 := hbA.size; have q9 := hbB.size; simp at q8 q9 ⊢; omega) _).cell (by dsimp only; omega)]; assumption))
            | (refine ⟨?_, ?_⟩ <;> (rw [(((below_to ((Below.refl wr.heap.size wr).alloc (Nat.le_refl _) _).drew hbA (by simp)).trans (hbB.mono (by have q8 := hbA.size; simp at q8 ⊢; omega))).setCell (p := ⟨wr.heap.size, 0, none⟩) (Nat.le_refl _) _ |>.setCell (p := ⟨wr.heap.size, 1, none⟩) (Nat.le_refl _) _).cell (by dsimp only; omega)]; assumption))
            | (refine ⟨?_, ?_⟩ <;> (rw [(((below_to (Below.refl wr.heap.size wr).drew hbA (by simp)).alloc (by have q8 := hbA.size; simp at q8 ⊢; omega) _).trans (hbB.mono (by have q8 := hbA.size; simp at q8 ⊢; omega)) |>.setCell (p := ⟨wA.heap.size, 0, none⟩) (by have q8 := hbA.size; simp at q8 ⊢; omega) _ |>.setCell (p := ⟨wA.heap.size, 1, none⟩) (by have q8 := hbA.size; simp at q8 ⊢; omega) _).cell (by dsimp only; omega)]; assumption))
            | (go_split_ands; refine ⟨?_, ?_⟩ <;> (rw [hbB.cell (by have q9 := hbA.size; simp at q9 ⊢; omega)]; assumption))
            | (go_split_ands; refine ⟨?_, ?_⟩ <;> (rw [hbA.cell (by simp; omega)]; assumption))
            | (trace_state; fail))
          (first
            | (go_at_call 33; refine (clone_any _ (x0.drop k) (by simp; omega) _ ?_).mono ?_; (exact R0.out.below (by first | exact hT.drew | exact (hT.alloc hT.size _).drew)); rintro e wA ⟨vA, rfl, oA, hbA⟩; obtain ⟨gA, cA, rfl, -, -⟩ := oA.rd; (try have KB : BoxAt wA wr.heap.size [.slice none 0 0, .slice none 0 0] := ((BoxAt.new wr _ _).below (Below.refl _ _).drew).below hbA))
            | (go_at_call 33; refine (clone_any _ (x1.drop k) (by have := HLEN.out; simp; omega) _ ?_).mono ?_; (exact R1.out.below (by first | exact below_to hT.drew hbA hT.size | exact below_to (hT.alloc hT.size _).drew hbA (by have := hT.size; simp; omega) | exact (below_to hT.drew hbA hT.size).alloc (by have := hT.size; have := hbA.size; simp at this; omega) _)); rintro e wB ⟨vB, rfl, oB, hbB⟩; obtain ⟨gB, cB, rfl, -, -⟩ := oB.rd; (try first | (have KC := KB.below hbB) | (have KC : BoxAt wB wA.heap.size [.slice none 0 0, .slice none 0 0] := (BoxAt.new wA _ _).below hbB)); (try (have k0 := KC.cell 0 _ rfl; have k1 := KC.cell 1 _ rfl; have k2 := KC.free 0; have k3 := KC.free 1))))
        all_goals
          simp only [List.length_drop] at oA oB
          first
            | (obtain ⟨hG, hbX, hBS⟩ := grow_last (wr := wr) (T := 26) hbA oA hbB oB
               generalize wB.alloc (.cells #[.slice gA (x0.length - k) cA, .slice gB (x1.length - k) cB] 26) = W4 at hG hbX ⊢
               generalize wB.heap.size = S at hG hBS ⊢)
            | (obtain ⟨hG, hbX, hBS⟩ := grow_mid (wr := wr) hbA oA hbB oB KC
               generalize (wB.setCell ⟨wA.heap.size, 0, none⟩ (.slice gA (x0.length - k) cA)).setCell ⟨wA.heap.size, 1, none⟩ (.slice gB (x1.length - k) cB) = W4 at hG hbX ⊢
               generalize wA.heap.size = S at hG hBS ⊢)
            | (obtain ⟨hG, hbX, hBS⟩ := grow_first (wr := wr) hbA oA hbB oB KC
               generalize (wB.setCell ⟨wr.heap.size, 0, none⟩ (.slice gA (x0.length - k) cA)).setCell ⟨wr.heap.size, 1, none⟩ (.slice gB (x1.length - k) cB) = W4 at hG hbX ⊢
               obtain ⟨S, hS⟩ : ∃ S, S = wr.heap.size := ⟨_, rfl⟩
               have hG' : Grow W4 wr.heap.size S (.slice gA (x0.length - k) cA) (.slice gB (x1.length - k) cB) (x0.drop k) (x1.drop k) := by rw [hS]; exact hG
               rw [← hS] at hBS ⊢
               clear hG
               have hG := hG'
               have hBS : wr.heap.size ≤ S := by omega
               clear hS hG')
          have hl1 : x1.length - k = x0.length - k := by rw [HLEN.out]
          rw [hl1] at hG ⊢
          obtain ⟨n, hn⟩ : ∃ n, n = x0.length - k := ⟨_, rfl⟩
          rw [← hn] at hG ⊢
          have hw4 := hbX.size
          have hwz := hT.size
          have hB1 := B1.below' hbX (Nat.le_refl _) hwr
          have hT4 : Below w.heap.size w W4 := hT.trans (hbX.mono hwz)
          have HS1 : Hid ((x1.drop k).length = n) := by unfold Hid; have := HLEN.out; simp; omega
          have HS0 : Hid ((x0.drop k).length = n) := by unfold Hid; simp; omega
          have HN : Hid (n = x1.length - cutK x x0) := by unfold Hid; rw [hn, ← HLEN.out, HKC.out]
          have hn64 : n ≤ 64 := by omega
          have HKC2 := Lib.hid (show x1.drop k = x1.drop (cutK x x0) by rw [HKC.out])
          have HKC3 := Lib.hid (show x0.drop k = x0.drop (cutK x x0) by rw [HKC.out])
          clear oA oB hbA hbB c0 c1 hl1 hn hif0 hif1 R0 R1 hle q0 q1 q2 q3 hk hlt
          have d1 := hG.box.cell 1 _ rfl
          have HR := Lib.hid hG.o1.rd
          go_wp2_with fail
          refine (sum_any _ (x1.drop k) (by rw [HS1.out]; omega) _ HR.out).mono ?_
          rintro e w5 ⟨b, rfl, hsb, n5, rfl⟩
          have hsS : absF .f32 b = givS x0 x1 x := by rw [hsb, HKC2.out]; rfl
          replace hG := hG.below (below_drewN_ (Below.refl W4.heap.size W4) (n := n5))
          replace hB1 := hB1.below (below_drewN_ (Below.refl W4.heap.size W4) (n := n5))
          replace hT4 : Below w.heap.size w (W4.drewN n5) := below_drewN_ hT4
          have hbS : wr.heap.size ≤ (W4.drewN n5).heap.size := hw4
          generalize W4.drewN n5 = W5 at hG hB1 hT4 hbS ⊢
          clear d1 HR hbX hsb hT hw4
          cases hg : (FloatKind.f32.format.order b 0 == some .gt)
          · have Ho := Lib.hid (giv_f3 hsS hg)
            have d0 := hB1.cell 0 _ rfl
            have d1 := hB1.cell 1 _ rfl
            have f0 := hB1.free 0
            have f1 := hB1.free 1
            have HT := Lib.hid hT4
            clear hT4 hG
            go_wp2
            refine bodyPost_ret (v := .tuple #[shV (.slice none 0 0) (.slice none 0 0), .bool false]) (by simp [results, Tryz.results12, go_sem, *]) rfl ?_
            unfold RetGivenAbove
            rw [Ho.out]
            exact RetSh.none ((HT.out.setCell (by simp) _).setCell (by simp) _)
          have hn0' : 1 ≤ n := by
            refine Nat.lt_of_not_le fun hle => ?_
            have h0 : absF .f32 b = some 0 := by
              rw [hsS]
              unfold givS
              rw [← HKC2.out, List.eq_nil_of_length_eq_zero (show (x1.drop k).length = 0 by rw [HS1.out]; omega)]
              rfl
            obtain ⟨rfl, -⟩ := absF_some h0
            revert hg
            decide
          have HSS := Lib.hid hsS
          have HGB := Lib.hid hg
          obtain ⟨g0, c0, e0', _, hge0, _⟩ := hG.o0.form (by rw [HS0.out]; omega)
          obtain ⟨g1, c1, e1', _, hge1, _⟩ := hG.o1.form (by rw [HS1.out]; omega)
          rw [HS0.out] at e0'
          rw [HS1.out] at e1'
          cases e0'
          cases e1'
          have d1 := hG.box.cell 1 _ rfl
          have hGH := Lib.hid hG
          clear hG hsS
          go_wp2
          go_loopw [56] (fun si wr' => ∃ (j : Nat) (zs : List Nat), j ≤ n ∧ si = .int .i64 j ∧ Hid (zs.length = n) ∧ Grow wr' wr.heap.size S (.slice (some ⟨g0, 0, none⟩) n cA) (.slice (some ⟨g1, 0, none⟩) n cB) (x0.drop k) zs ∧ Hid (absL zs = qTo (givS x0 x1 x) (absL (x1.drop (cutK x x0))) j) ∧ BoxAt wr' (w.heap.size + 1) [.slice none 0 0, .slice none 0 0] ∧ Below w.heap.size w wr') (fun si _ => n - (intOf si).toNat)
          case atStart => exact ⟨0, _, by omega, rfl, HS1, hGH.out, by unfold Hid; rw [qTo_zero, HKC2.out], hB1, hT4⟩
          case round =>
            obtain ⟨j, zs, hj, rfl, hzl, hG, hz, hB, hb'⟩ := hrel
            clear d1
            have hg1 := hG.o1.lt g1 rfl
            by_cases hlt : j < n
            · obtain ⟨a0, ha0⟩ := get_of_lt (xs := absL (x1.drop (cutK x x0))) (k := j) (by have := HS1.out; rw [HKC2.out] at this; simp [absL] at this ⊢; omega)
              obtain ⟨a, ha, haa⟩ := absl_get (xs := zs) (i := j) (a := a0) (by rw [hz.out, qTo_at _ (lt_of_get ha0)]; exact ha0)
              have e1 := hG.at1 ha
              have f1 := hG.free1 j
              have d1 := hG.box.cell 1 _ rfl
              have HSt := Lib.hid (fun x => hG.put1 j x)
              have HA := Lib.hid haa
              have HA0' := Lib.hid ha0
              have hp0 : (0 : Int) ≤ (j : Int) := by omega
              have hp1 : (j : Int) < (n : Int) := by omega
              clear ha haa ha0 hG
              go_wp2
              go_roundw
              case rel =>
                refine ⟨j + 1, _, by omega, by go_num, ?_, (HSt.out _).below (below_drewN_ (Below.refl _ _)), ?_, (hB.other (p := ⟨g1, j, none⟩) (by show g1 ≠ _; omega) _).below (below_drewN_ (Below.refl _ _)), below_drewN_ (hb'.setCell (p := ⟨g1, j, none⟩) (by show _ ≤ g1; omega) _)⟩
                · unfold Hid; rw [List.length_set]; exact hzl.out
                · unfold Hid
                  rw [absl_set, hz.out, abs_flR .quo rfl, HA.out, HSS.out]
                  exact qTo_set _ HA0'.out
              case measure => simp [intOf]; omega
            · have hke : j = n := by omega
              subst hke
              have hgz := hG.o0.lt g0 rfl
              have hgz1 := hG.o1.lt g1 rfl
              have hzq : absL zs = givQ x0 x1 x := by rw [hz.out]; unfold givQ; rw [← HN.out]
              have d0 := hG.box.cell 0 _ rfl
              have d1 := hG.box.cell 1 _ rfl
              have hrd0 := hG.o0.rd
              have hrd1 := hG.o1.rd
              have HRD0 := Lib.hid hrd0
              have HRD1 := Lib.hid hrd1
              clear hrd0 hrd1
              go_wp2_with (go_at_call 35; refine (checkedShare_any _ (x0.drop k) _ zs (by rw [HS0.out]; omega) (by rw [hzl.out]; omega) _ HRD0.out HRD1.out).mono ?_)
              rintro e w6 ⟨rfl, hb3⟩
              replace hG := hG.below hb3
              replace hB := hB.below hb3
              have HT := Lib.hid (hb'.trans (hb3.mono hb'.size))
              have hsok := giv_t Hs.out Hf.out HSS.out HGB.out hzq
              rw [← HKC3.out] at hsok
              have HZQ := Lib.hid hzq
              clear hb' hb3 hzq d0 d1
              have d0 := hB.cell 0 _ rfl
              have d1 := hB.cell 1 _ rfl
              have f0 := hB.free 0
              have f1 := hB.free 1
              have hGH := Lib.hid hG
              clear hG
              unfold chkV
              cases hs' : shareB (x0.drop k) zs
              all_goals
                rw [hs'] at hsok
                have HS := Lib.hid hsok
                have HS' := Lib.hid hs'
                clear hsok hs'
                go_wp2
              · refine bodyPost_ret (v := .tuple #[shV (.slice none 0 0) (.slice none 0 0), .bool false]) (by simp [results, Tryz.results12, go_sem, *]) rfl ?_
                unfold RetGivenAbove
                rw [← HS.out]
                exact RetSh.none ((HT.out.setCell (by simp) _).setCell (by simp) _)
              · refine bodyPost_ret (v := .tuple #[shV (.slice (some ⟨g0, 0, none⟩) j cA) (.slice (some ⟨g1, 0, none⟩) j cB), .bool true]) (by simp [results, Tryz.results12, go_sem, *]) rfl ?_
                unfold RetGivenAbove
                rw [← HS.out]
                have o0 := Own.other (Own.other hGH.out.o0 (p := ⟨w.heap.size + 1, 0, none⟩) (fun e => by have := (hGH.out.o0.lt _ e).1; simp at this; omega) (.slice (some ⟨g0, 0, none⟩) j cA)) (p := ⟨w.heap.size + 1, 1, none⟩) (fun e => by have := (hGH.out.o0.lt _ e).1; simp at this; omega) (.slice (some ⟨g1, 0, none⟩) j cB)
                have o1 := Own.other (Own.other hGH.out.o1 (p := ⟨w.heap.size + 1, 0, none⟩) (fun e => by have := (hGH.out.o1.lt _ e).1; simp at this; omega) (.slice (some ⟨g0, 0, none⟩) j cA)) (p := ⟨w.heap.size + 1, 1, none⟩) (fun e => by have := (hGH.out.o1.lt _ e).1; simp at this; omega) (.slice (some ⟨g1, 0, none⟩) j cB)
                exact ⟨_, x0.drop k, _, zs, rfl, o0.base_ (by omega), o1.base_ (by omega), hGH.out.ap, by rw [HS0.out]; omega, by rw [hzl.out]; omega, by rw [HKC3.out]; rfl, by rw [HZQ.out]; rfl, (HT.out.setCell (by simp) _).setCell (by simp) _⟩
end Go.Proofs.YtjajlddnhmbekaaGreat
