/-
  The walk of impl.StairTail: the same number as the reference's.
-/
import Derived.Test.YtepiioegiicebaaStairPure
import Derived.Deep.DeepCutAuto
namespace Go.Proofs.Ytepiioegiicebaa
open Go.RowKit

theorem el_sl64 : Elem Try.prog 56 34 (.slice none 0 0) 24 := ⟨Try.underlying56, by kernel_rfl, rfl⟩

set_option maxRecDepth 100000 in
set_option maxHeartbeats 1000000 in
theorem implStair_ok (m n : Nat) (gap : Int) (hm1 : 1 ≤ m) (hm2 : m ≤ 30) (hn1 : 1 ≤ n) (hn2 : n ≤ 30) (w : World) :
    Calls Try.prog 23 #[.int .i64 m, .int .i64 n, .int .i64 gap] w fun e w' => e = .returned (.tuple #[.int .i64 (wrap64 (wC (m + n) m - st m n gap m n)), .int .i64 (wC (m + n) m), .bool true]) ∧ Below w.heap.size w w' := by
  have h1 : inB m 1 30 = true := decide_eq_true (by omega)
  have h2 : inB n 1 30 = true := decide_eq_true (by omega)
  go_enter Try.func23, Try.ntmps23
  go_wp2_with (go_at_call 49; refine (within_any _ _ _ _).mono ?_; rintro e w' ⟨rfl, rfl⟩; first | rw [h1] | rw [h2])
  go_cut [9, 10] (fun s9 s10 wc => s9 = .int .i64 (wC (m + n) m) ∧ ∃ B0, s10 = .slice (some ⟨B0, 0, none⟩) (m + 1) (m + 1) ∧ wc.ownsRow w.heap.size 34 1 (.slice (some ⟨B0, 0, none⟩) (m + 1) (m + 1)) (m + 1) (List.replicate (m + 1) (.slice none 0 0)) ∧ Below w.heap.size w wc)
  case first =>
    have e1 : IntKind.i64.wrap ((m : Int) + n) = m + n := IntWalk.i64_in _ (by omega)
    have e2 : IntKind.i64.wrap ((m : Int) + 1) = m + 1 := IntWalk.i64_in _ (by omega)
    have hmk := fun W => el_sl64.mk_eq (m + 1) ((m : Int) + 1) (by omega) (by omega) (by omega) W
    go_region_with (go_at_call 51; refine (choices_any (m + n) m (by omega) (by omega) _).mono ?_; rintro e w0 ⟨rfl, hb0⟩)
    all_goals go_wp2
    all_goals go_meet
    case rel => exact ⟨rfl, _, rfl, own_base (own_made _ _ _ _ (by omega)) hb0.size, (Below.refl _ _).drew.trans (hb0.alloc hb0.size _)⟩
    case rel => exact ⟨rfl, _, rfl, own_below (World.ownsRow.drew (own_made w _ _ _ (by omega))) hb0, ((Below.refl _ _).alloc (Nat.le_refl _) _).drew.trans (hb0.mono (B' := w.heap.size) (by simp))⟩
  case rest =>
    obtain ⟨rfl, B0, rfl, hout, hb⟩ := hcut
    go_wp2
    go_loopw [32] (fun si wr => ∃ i : Nat, i ≤ m + 1 ∧ si = .int .i64 i ∧ ∃ L, wr.ownsRow w.heap.size 34 1 (.slice (some ⟨B0, 0, none⟩) (m + 1) (m + 1)) (m + 1) L ∧
        (1 ≤ i → ∃ g, ¬ g = B0 ∧ L[i - 1]? = some (.slice (some ⟨g, 0, none⟩) (n + 1) (n + 1)) ∧ wr.ownsRow w.heap.size 2 1 (.slice (some ⟨g, 0, none⟩) (n + 1) (n + 1)) (n + 1) (rowR m n gap (i - 1) (n + 1))) ∧ Below w.heap.size w wr)
      (fun si _ => m + 1 - (intOf si).toNat)
    case atStart => exact ⟨0, by omega, rfl, _, hout, fun h => absurd h (by omega), hb⟩
    case round =>
      obtain ⟨i, hi, rfl, L, hout3, hprev, hb3⟩ := hrel
      clear hout hb
      obtain ⟨wo, rfl⟩ : ∃ wo : World, wo = wr := ⟨_, rfl⟩
      have hLl : L.length = m + 1 := by have := hout3.1; omega
      by_cases hlt : i ≤ m
      · rcases Nat.eq_zero_or_pos i with hi0 | hi0
        · subst hi0
          clear hprev
          have f0 := hout3.frozenAt 0
          have c0 := hout3.cellAt 0 (by omega)
          obtain ⟨u0, hu0⟩ : ∃ u, L[0]? = some u := ⟨L[0]'(by omega), List.getElem?_eq_getElem (by omega)⟩
          rw [hu0] at c0
          have hz := hb3.size
          have hB0 : B0 < wo.heap.size := (hout3.lt B0 rfl).2
          have HL := Lib.hid hLl
          have HU := Lib.hid hu0
          clear hLl hu0
          go_wp2_with (at_make; go_loud (refine el_i64.make _ rfl _ _ rfl .i64 .i64 _ _ (n + 1) rfl rfl (by omega) (by omega) (by omega) (by omega) ?_))
          intro w1 hown hb1 hs1
          rw [rowR_zero m n gap 0] at hown
          obtain ⟨G, hG⟩ : ∃ G, G = wo.heap.size := ⟨_, rfl⟩
          have hout4 := own_below hout3 hb1
          rw [← hG] at hown hb1 hs1 hz hB0  ⊢
          have hset := hout4.stored 0 (.slice (some ⟨G, 0, none⟩) (n + 1) (n + 1))
          have hown5 := own_base (hown.kept hset.2 (.inr (by simp [Value.ownBlock]; omega))) hz
          have hb5 := (below_to hb3 (hG ▸ hb1) (by omega)).grown hset.2 (by have := hb3.size; have := hb1.size; omega) (by intro k h; cases h; exact (hout3.lt B0 rfl).1)
          have c1 : w1.cell? ⟨B0, 0, none⟩ = some u0 := by rw [hb1.cell (by exact hB0)]; exact c0
          have f1 : w1.frozen? ⟨B0, 0, none⟩ = false := by rw [hb1.frozen (by exact hB0)]; exact f0
          have hGne : ¬ B0 = G := by omega
          clear c0 f0 hout3 hout4 hown hG hb1 hs1
          go_wp2
          go_loopw [43] (fun sk wr => ∃ k : Nat, k ≤ n + 1 ∧ sk = .int .i64 k ∧ wr.ownsRow w.heap.size 34 1 (.slice (some ⟨B0, 0, none⟩) (m + 1) (m + 1)) (m + 1) (L.set 0 (.slice (some ⟨G, 0, none⟩) (n + 1) (n + 1))) ∧
              wr.ownsRow w.heap.size 2 1 (.slice (some ⟨G, 0, none⟩) (n + 1) (n + 1)) (n + 1) (rowR m n gap 0 k) ∧  Below w.heap.size w wr)
            (fun sk _ => n + 1 - (intOf sk).toNat)
          case atStart => exact ⟨0, by omega, rfl, hset.1, hown5,  hb5⟩
          case round =>
            obtain ⟨k, hk, rfl, ho1, ho2,  hb6⟩ := hrel
            clear hset hown5 hb5 c1 f1 
            have hl := HL.out
            have a1 := ho1.cellAt 0 (by omega)
            rw [List.getElem?_set_self (by omega)] at a1
            clear hl
            have a2 := ho2.cellAt k
            have a3 := ho2.frozenAt k
            have b1 := ho2.lt G rfl
            by_cases hlk : k ≤ n
            · rw [rowR_at hlk, if_neg (by omega)] at a2
              have a2 := a2 (by omega)
              rcases Nat.eq_zero_or_pos k with hk0 | hk0
              · subst hk0
                have hset2 := ho2.stored 0 (.int .i64 1)
                rw [rowR_set hlk (by rw [st])] at hset2
                have ho3 := ho1.kept hset2.2 (.inr (by simp [Value.ownBlock]; omega))
                have hb7 := hb6.grown hset2.2 hb6.size (by intro k h; cases h; exact b1.1)
                go_wp2
                go_roundw
                case rel => exact ⟨1, by omega, by go_num, ho3, hset2.1, hb7⟩
                case measure => simp [intOf]
              · obtain ⟨j, rfl⟩ : ∃ j, k = j + 1 := ⟨k - 1, by omega⟩
                have a4 := ho2.cellAt j (by omega)
                rw [rowR_at (by omega), if_pos (by omega)] at a4
                have hmk : 0 ≤ (m : Int) * (↑j + 1) ∧ (m : Int) * (↑j + 1) ≤ 900 := by simpa using mul_bd hm2 (show j + 1 ≤ 30 by omega)
                have hm0 : (1 : Int) ≤ (m : Int) * (↑j + 1) := by
                  have : 1 * 1 ≤ m * (j + 1) := Nat.mul_le_mul hm1 (by omega)
                  have h2 : ((m * (j + 1) : Nat) : Int) = (m : Int) * (↑j + 1) := by simp
                  omega
                have hst := st_B m n gap 0 j
                have hcn := cut_neg (m := m) (n := n) (gap := gap) (i := 0) (k := j + 1) (by simp; omega)
                have hsb := st_bd m n gap 0 j
                rw [show stPrev m n gap 0 (j + 1) = 0 from rfl, wrap_st] at hst
                by_cases hg : gap ≤ (m : Int) * (↑j + 1)
                · rw [if_pos (by rw [hcn]; simp; omega)] at hst
                  rw [rowR_same hst] at ho2
                  clear hst hcn
                  go_wp2
                  go_roundw
                  case rel => exact ⟨j + 2, by omega, by go_num, ho1, ho2, hb6⟩
                  case measure => simp [intOf]; omega
                · rw [if_neg (by rw [hcn]; simp; omega)] at hst
                  have hset2 := ho2.stored (j + 1) (.int .i64 (st m n gap 0 j))
                  rw [rowR_set hlk hst.symm] at hset2
                  have ho3 := ho1.kept hset2.2 (.inr (by simp [Value.ownBlock]; omega))
                  have hb7 := hb6.grown hset2.2 hb6.size (by intro k h; cases h; exact b1.1)
                  clear hst hcn
                  go_wp2
                  go_region
                  go_wp2
                  go_roundw
                  case rel => first | exact ⟨j + 2, by omega, by go_num, ho3.drew, hset2.1.drew, hb7.drew⟩ | ((repeat apply Exists.intro); exact ⟨⟨j + 2, by omega, by go_num, ho3.drew, hset2.1.drew, hb7.drew⟩, rfl⟩)
                  case measure => simp [intOf]; omega
            · obtain rfl : k = n + 1 := by omega
              clear a2
              go_wp2
              go_roundw
              case rel => exact ⟨1, by omega, by go_num, _, ho1, fun _ => ⟨G, fun h => hGne h.symm, by have := HL.out; rw [show 1 - 1 = 0 by omega, List.getElem?_set_self (by omega)], ho2⟩, hb6⟩
              case measure => simp [intOf]; try omega
        · obtain ⟨i, rfl⟩ : ∃ j, i = j + 1 := ⟨i - 1, by omega⟩
          clear hi0
          obtain ⟨gp, hgpB, hgp2, hp⟩ := hprev (by omega)
          clear hprev
          simp only [Nat.add_sub_cancel] at hgp2 hp
          have hgp2 := Lib.hid hgp2
          have f0 := hout3.frozenAt (i + 1)
          have c0 := hout3.cellAt (i + 1) (by omega)
          obtain ⟨u0, hu0⟩ : ∃ u, L[i + 1]? = some u := ⟨L[i + 1]'(by omega), List.getElem?_eq_getElem (by omega)⟩
          rw [hu0] at c0
          have hz := hb3.size
          have hB0 : B0 < wo.heap.size := (hout3.lt B0 rfl).2
          have HL := Lib.hid hLl
          have HU := Lib.hid hu0
          clear hLl hu0
          go_wp2_with (at_make; go_loud (refine el_i64.make _ rfl _ _ rfl .i64 .i64 _ _ (n + 1) rfl rfl (by omega) (by omega) (by omega) (by omega) ?_))
          intro w1 hown hb1 hs1
          rw [rowR_zero m n gap (i + 1)] at hown
          obtain ⟨G, hG⟩ : ∃ G, G = wo.heap.size := ⟨_, rfl⟩
          have hout4 := own_below hout3 hb1
          have hp1 := own_below hp hb1
          have hgl := (hp.lt gp rfl).2
          rw [← hG] at hown hb1 hs1 hz hB0 hgl ⊢
          have hset := hout4.stored (i + 1) (.slice (some ⟨G, 0, none⟩) (n + 1) (n + 1))
          have hp2 := hp1.kept hset.2 (.inr (by simp [Value.ownBlock]; omega))
          have hown5 := own_base (hown.kept hset.2 (.inr (by simp [Value.ownBlock]; omega))) hz
          have hb5 := (below_to hb3 (hG ▸ hb1) (by omega)).grown hset.2 (by have := hb3.size; have := hb1.size; omega) (by intro k h; cases h; exact (hout3.lt B0 rfl).1)
          have c1 : w1.cell? ⟨B0, i + 1, none⟩ = some u0 := by rw [hb1.cell (by exact hB0)]; exact c0
          have f1 : w1.frozen? ⟨B0, i + 1, none⟩ = false := by rw [hb1.frozen (by exact hB0)]; exact f0
          have hGne : ¬ B0 = G := by omega
          have hgpG : ¬ gp = G := by omega
          clear hp hp1 c0 f0 hout3 hout4 hown hG hb1 hs1
          go_wp2
          go_loopw [43] (fun sk wr => ∃ k : Nat, k ≤ n + 1 ∧ sk = .int .i64 k ∧ wr.ownsRow w.heap.size 34 1 (.slice (some ⟨B0, 0, none⟩) (m + 1) (m + 1)) (m + 1) (L.set (i + 1) (.slice (some ⟨G, 0, none⟩) (n + 1) (n + 1))) ∧
              wr.ownsRow w.heap.size 2 1 (.slice (some ⟨G, 0, none⟩) (n + 1) (n + 1)) (n + 1) (rowR m n gap (i + 1) k) ∧ wr.ownsRow w.heap.size 2 1 (.slice (some ⟨gp, 0, none⟩) (n + 1) (n + 1)) (n + 1) (rowR m n gap i (n + 1)) ∧ Below w.heap.size w wr)
            (fun sk _ => n + 1 - (intOf sk).toNat)
          case atStart => exact ⟨0, by omega, rfl, hset.1, hown5, hp2, hb5⟩
          case round =>
            obtain ⟨k, hk, rfl, ho1, ho2, hp3, hb6⟩ := hrel
            clear hset hown5 hp2 hb5 c1 f1
            have hl := HL.out
            have a1 := ho1.cellAt (i + 1) (by omega)
            rw [List.getElem?_set_self (by omega)] at a1
            have a5 := ho1.cellAt i (by omega)
            rw [List.getElem?_set_ne (by omega), hgp2.out] at a5
            clear hl
            have a2 := ho2.cellAt k
            have a3 := ho2.frozenAt k
            have b1 := ho2.lt G rfl
            by_cases hlk : k ≤ n
            · rw [rowR_at hlk, if_neg (by omega)] at a2
              have a2 := a2 (by omega)
              have a6 := hp3.cellAt k (by omega)
              rw [rowR_at hlk, if_pos (by omega)] at a6
              have hni : 0 ≤ (n : Int) * (↑i + 1) ∧ (n : Int) * (↑i + 1) ≤ 900 := by simpa using mul_bd hn2 (show i + 1 ≤ 30 by omega)
              have hsc := st_bd m n gap i k
              rcases Nat.eq_zero_or_pos k with hk0 | hk0
              · subst hk0
                have hst := st_C m n gap i
                have hcn := cut_pos (m := m) (n := n) (gap := gap) (i := i + 1) (k := 0) (by simp; omega)
                rw [show stPrev m n gap (i + 1) 0 = st m n gap i 0 from rfl] at hst
                by_cases hg : gap ≤ (n : Int) * (↑i + 1)
                · rw [if_pos (by rw [hcn]; simp; omega)] at hst
                  rw [rowR_same hst] at ho2
                  clear hst hcn
                  go_wp2
                  go_roundw
                  case rel => exact ⟨1, by omega, by go_num, ho1, ho2, hp3, hb6⟩
                  case measure => simp [intOf]
                · rw [if_neg (by rw [hcn]; simp; omega)] at hst
                  have hset2 := ho2.stored 0 (.int .i64 (st m n gap i 0))
                  rw [rowR_set hlk hst.symm] at hset2
                  have ho3 := ho1.kept hset2.2 (.inr (by simp [Value.ownBlock]; omega))
                  have hp4 := hp3.kept hset2.2 (.inr (by simp [Value.ownBlock]; omega))
                  have hb7 := hb6.grown hset2.2 hb6.size (by intro k h; cases h; exact b1.1)
                  clear hst hcn
                  go_wp2
                  go_region
                  go_wp2
                  go_roundw
                  case rel => first | exact ⟨1, by omega, by go_num, ho3.drew, hset2.1.drew, hp4.drew, hb7.drew⟩ | ((repeat apply Exists.intro); exact ⟨⟨1, by omega, by go_num, ho3.drew, hset2.1.drew, hp4.drew, hb7.drew⟩, rfl⟩)
                  case measure => simp [intOf]
              · obtain ⟨j, rfl⟩ : ∃ j, k = j + 1 := ⟨k - 1, by omega⟩
                have a4 := ho2.cellAt j (by omega)
                rw [rowR_at (by omega), if_pos (by omega)] at a4
                have hmk : 0 ≤ (m : Int) * (↑j + 1) ∧ (m : Int) * (↑j + 1) ≤ 900 := by simpa using mul_bd hm2 (show j + 1 ≤ 30 by omega)
                have hst := st_B m n gap (i + 1) j
                rw [show stPrev m n gap (i + 1) (j + 1) = st m n gap i (j + 1) from rfl] at hst
                by_cases hcut : cutB m n gap (i + 1) (j + 1) = true
                · rw [if_pos hcut] at hst
                  rw [rowR_same hst] at ho2
                  by_cases hx : (n : Int) * (↑i + 1) < (m : Int) * (↑j + 1)
                  · rw [cut_neg (m := m) (n := n) (gap := gap) (i := i + 1) (k := j + 1) (by simp; omega)] at hcut
                    have hg : gap ≤ (m : Int) * (↑j + 1) - (n : Int) * (↑i + 1) := by have := of_decide_eq_true hcut; simp at this; omega
                    clear hcut hst
                    go_wp2
                    go_roundw
                    case rel => exact ⟨j + 2, by omega, by go_num, ho1, ho2, hp3, hb6⟩
                    case measure => simp [intOf]; omega
                  · rw [cut_pos (m := m) (n := n) (gap := gap) (i := i + 1) (k := j + 1) (by simp; omega)] at hcut
                    have hg : gap ≤ (n : Int) * (↑i + 1) - (m : Int) * (↑j + 1) := by have := of_decide_eq_true hcut; simp at this; omega
                    clear hcut hst
                    go_wp2
                    go_roundw
                    case rel => exact ⟨j + 2, by omega, by go_num, ho1, ho2, hp3, hb6⟩
                    case measure => simp [intOf]; omega
                · rw [if_neg hcut] at hst
                  have hset1 := ho2.stored (j + 1) (.int .i64 (st m n gap i (j + 1)))
                  have ho3 := ho1.kept hset1.2 (.inr (by simp [Value.ownBlock]; omega))
                  have hp4 := hp3.kept hset1.2 (.inr (by simp [Value.ownBlock]; omega))
                  have hb7 := hb6.grown hset1.2 hb6.size (by intro k h; cases h; exact b1.1)
                  have hset2 := hset1.1.stored (j + 1) (.int .i64 (wrap64 (st m n gap i (j + 1) + st m n gap (i + 1) j)))
                  rw [List.set_set, rowR_set hlk hst.symm] at hset2
                  have ho4 := ho3.kept hset2.2 (.inr (by simp [Value.ownBlock]; omega))
                  have hp5 := hp4.kept hset2.2 (.inr (by simp [Value.ownBlock]; omega))
                  have hb8 := hb7.grown hset2.2 hb7.size (by intro k h; cases h; exact b1.1)
                  by_cases hx : (n : Int) * (↑i + 1) < (m : Int) * (↑j + 1)
                  · rw [cut_neg (m := m) (n := n) (gap := gap) (i := i + 1) (k := j + 1) (by simp; omega)] at hcut
                    have hg : (m : Int) * (↑j + 1) - (n : Int) * (↑i + 1) < gap := by simp at hcut; omega
                    clear hcut hst
                    go_wp2
                    go_region
                    go_wp2
                    go_region
                    go_wp2
                    go_roundw
                    case rel => exact ⟨j + 2, by omega, by go_num, ho4.drew.drew, hset2.1.drew.drew, hp5.drew.drew, hb8.drew.drew⟩
                    case measure => simp [intOf]; omega
                  · rw [cut_pos (m := m) (n := n) (gap := gap) (i := i + 1) (k := j + 1) (by simp; omega)] at hcut
                    have hg : (n : Int) * (↑i + 1) - (m : Int) * (↑j + 1) < gap := by simp at hcut; omega
                    clear hcut hst
                    go_wp2
                    go_region
                    go_wp2
                    go_region
                    go_wp2
                    go_roundw
                    case rel => exact ⟨j + 2, by omega, by go_num, ho4.drew.drew, hset2.1.drew.drew, hp5.drew.drew, hb8.drew.drew⟩
                    case measure => simp [intOf]; omega
            · obtain rfl : k = n + 1 := by omega
              clear a2
              go_wp2
              go_roundw
              case rel => exact ⟨i + 2, by omega, by go_num, _, ho1, fun _ => ⟨G, fun h => hGne h.symm, by have := HL.out; rw [show i + 2 - 1 = i + 1 by omega, List.getElem?_set_self (by omega)], ho2⟩, hb6⟩
              case measure => simp [intOf]; try omega
      · obtain rfl : i = m + 1 := by omega
        obtain ⟨gp, hgpB, hgp2, hp⟩ := hprev (by omega)
        simp only [Nat.add_sub_cancel] at hgp2 hp
        have a5 := hout3.cellAt m (by omega)
        rw [hgp2] at a5
        have a6 := hp.cellAt n (by omega)
        rw [rowR_at (Nat.le_refl _), if_pos (by omega)] at a6
        clear hgp2 hprev hLl
        go_wp2
        go_ret3
        exact ⟨rfl, hb3⟩
end Go.Proofs.Ytepiioegiicebaa
