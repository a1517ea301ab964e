/-
  spec.ValidShare, impl.ValidShare.
-/
import Derived.Test.YtjajlddnhmbekaaGreatShareIs2
namespace Go.Proofs.YtjajlddnhmbekaaGreat
open Go.RowKit

set_option maxHeartbeats 1600000 in
theorem implValidShare_any (s0 : Value) (x0 : List Nat) (s1 : Value) (x1 : List Nat) (hn0 : x0.length ≤ 1099511627776) (hn1 : x1.length ≤ 1099511627776) (w : World) (hr0 : Rd fV w s0 x0) (hr1 : Rd fV w s1 x1) :
    Calls Tryz.prog 23 #[shV s0 s1] w fun e w' => e = .returned (.bool (shareB x0 x1)) ∧ Below w.heap.size w w' := by
  have HR0 := Lib.hid hr0
  have HR1 := Lib.hid hr1
  obtain ⟨A0, cap0, rfl, hcap0, hA0⟩ := hr0
  have HA0 := Lib.hid hA0
  obtain ⟨A1, cap1, rfl, hcap1, hA1⟩ := hr1
  clear hA0 hA1
  by_cases h1 : 1 ≤ x0.length
  · by_cases h2 : x0.length ≤ 64
    · by_cases h3 : x1.length = x0.length
      · have H3 := Lib.hid h3
        have HM1 := Lib.hid hn1
        rw [h3] at HR1 hcap1
        rw [h3]
        clear h3 hn1
        have HW : Hid (∃ W0, W0 = w.alloc (.cells ([.slice A0 x0.length cap0, .slice A1 x0.length cap1] : List Value).toArray 26)) := ⟨_, rfl⟩
        go_enter Tryz.func23, Tryz.ntmps23
        go_wp2_with fail
        have B := BoxAt.new w [.slice A0 x0.length cap0, .slice A1 x0.length cap1] 26
        have hT := below_alloc w (.cells ([.slice A0 x0.length cap0, .slice A1 x0.length cap1] : List Value).toArray 26)
        generalize hg : World.alloc w _ = W0 at *
        clear hg HW
        refine (areFinite_any _ x0 hn0 _ (HR0.out.below hT)).mono ?_
        rintro e w' ⟨rfl, n, rfl⟩
        cases hf : x0.all finB
        · have HF := Lib.hid hf
          clear hf
          go_wp2
          go_ret
          exact ⟨ret_bool (shareB_f3 HF.out).symm, below_drewN_ hT⟩
        · have HF := Lib.hid hf
          clear hf
          replace hT := below_drewN_ (n := n) hT
          replace B := B.below (below_drewN_ (n := n) (Below.refl _ _))
          generalize hg : W0.drewN n = W1 at *
          clear hg
          have d0 := B.cell 0 _ rfl
          have d1 := B.cell 1 _ rfl
          go_wp2
          go_loopw [3] (fun si wr => ∃ k : Nat, 1 ≤ k ∧ k ≤ x0.length ∧ si = .int .i64 k ∧ Hid (riseTo x0 k = true) ∧ Below W1.heap.size W1 wr) (fun si _ => x0.length - (intOf si).toNat)
          case atStart => exact ⟨1, by omega, by omega, rfl, rfl, Below.refl _ _⟩
          case round =>
            obtain ⟨k, hk1, hk, rfl, hri, hb⟩ := hrel
            have B' := B.below hb
            clear d0 d1
            have d0 := B'.cell 0 _ rfl
            have d1 := B'.cell 1 _ rfl
            replace hT := below_to hT hb hT.size
            by_cases hlt : k < x0.length
            · obtain ⟨x, hx⟩ := get_of_lt hlt
              obtain ⟨y, hy⟩ := get_of_lt (xs := x0) (k := k - 1) (by omega)
              obtain ⟨ad, rfl, hbl, hcell⟩ := HA0.out k x hx
              obtain ⟨_, e, _, hcy⟩ := HA0.out (k - 1) y hy
              cases e
              have e0 : wr.cell? (ad.add k) = some (fV x) := by rw [hT.cell (by rw [add_block]; exact hbl)]; exact hcell
              have e2 : wr.cell? (ad.add (k - 1)) = some (fV y) := by rw [hT.cell (by rw [add_block]; exact hbl)]; exact hcy
              have HP : Hid (pairB x0 k = !leB x y) := by unfold Hid pairB; rw [getD_of hx, getD_of hy]; simp; omega
              have hsub : IntKind.i64.wrap ((k : Int) - 1) = ((k - 1 : Nat) : Int) := by rw [IntWalk.i64_in _ (by omega)]; omega
              have hp0 : (0 : Int) ≤ ((k - 1 : Nat) : Int) := by omega
              have hp1 : ((k - 1 : Nat) : Int) < (x0.length : Int) := by omega
              have hk0 : (0 : Int) ≤ (k : Int) := by omega
              have hk2 : (k : Int) < (x0.length : Int) := by omega
              clear hx hy hcell hcy
              have fl := ord_flip_gt x y
              have fe := ord_flip_eq x y
              cases hl1 : (ord32 x y == some .lt) <;> cases hl2 : (ord32 x y == some .eq)
              all_goals
                rw [hl1] at fl
                rw [hl2] at fe
                have HL1 := Lib.hid hl1
                have HL2 := Lib.hid hl2
                clear hl1 hl2
                unfold ord32 at fl fe
                go_wp2
                go_quiet (fail)
                go_wp2
                first
                  | (go_ret; exact ⟨ret_bool (shareB_f4 (riseTo_false hlt (by rw [HP.out, leB, HL1.out, HL2.out]; rfl))).symm, below_drewN_ hT⟩)
                  | (go_roundw
                     case rel => exact ⟨k + 1, by omega, by omega, by go_num, by unfold Hid; rw [riseTo_succ, hri.out, HP.out, leB, HL1.out, HL2.out]; rfl, below_drewN_ hb⟩
                     case measure => simp [intOf]; omega)
            · have hke : k = x0.length := by omega
              have HK := Lib.hid hke
              clear hke
              go_wp2_with fail
              have HR1' := HR1.out
              rw [← H3.out] at HR1' ⊢
              refine (areChances_any _ x1 HM1.out _ (HR1'.below hT)).mono ?_
              rintro e w' ⟨rfl, m, rfl⟩
              go_wp2
              go_ret
              exact ⟨ret_bool (shareB_t ⟨h1, h2⟩ H3.out HF.out (by rw [← HK.out]; exact hri.out)).symm, below_drewN_ hT⟩
      · have H3 := Lib.hid h3
        have h3' : ((x1.length : Int) != (x0.length : Int)) = true := by simp; omega
        clear h3
        go_enter Tryz.func23, Tryz.ntmps23
        go_wp2
        go_ret
        exact ⟨ret_bool (shareB_f2 H3.out).symm, below_alloc _ _⟩
    · go_enter Tryz.func23, Tryz.ntmps23
      go_wp2
      go_ret
      exact ⟨ret_bool (shareB_f1 (by omega)).symm, below_alloc _ _⟩
  · go_enter Tryz.func23, Tryz.ntmps23
    go_wp2
    go_ret
    exact ⟨ret_bool (shareB_f1 (by omega)).symm, below_alloc _ _⟩
end Go.Proofs.YtjajlddnhmbekaaGreat
