/-
  For every m, n, gap: the program's StairTail returns what the reference's returns. No condition.
-/
import Derived.Test.YtepiioegiicebaaStairPure
import Derived.Test.YtepiioegiicebaaPost
namespace Go.Proofs.Ytepiioegiicebaa
open Go.RowKit

set_option maxRecDepth 100000 in
set_option maxHeartbeats 1000000 in
theorem specStair_ok (m n : Nat) (gap : Int) (hm1 : 1 ≤ m) (hm2 : m ≤ 30) (hn1 : 1 ≤ n) (hn2 : n ≤ 30) (w : World) :
    Calls Try.prog 22 #[.int .i64 m, .int .i64 n, .int .i64 gap] w fun e w' => e = .returned (.tuple #[.int .i64 (wrap64 (wC (m + n) m - st m n gap m n)), .int .i64 (wC (m + n) m), .bool true]) ∧ Below w.heap.size w w' := by
  have h1 : inB m 1 30 = true := decide_eq_true (by omega)
  have h2 : inB n 1 30 = true := decide_eq_true (by omega)
  go_enter Try.func22, Try.ntmps22
  go_wp2_with (first | (go_at_call 48; refine (l00In_any _ _ _ _).mono ?_; rintro e w' ⟨rfl, rfl⟩; first | rw [h1] | rw [h2]) | (go_at_call 50; refine (l06Choose_any (m + n) m (by omega) (by omega) _).mono ?_; rintro e w0 ⟨rfl, hb0⟩) | (at_make; refine el_i64.make _ rfl _ _ rfl .i64 .i64 _ _ (n + 1) rfl rfl (by omega) (by omega) (by omega) (by omega) ?_))
  intro w1 hown hb1 _
  rw [rowS_zero m n gap] at hown
  have hz1 := hb0.size
  obtain ⟨B, hB⟩ : ∃ B, B = w0.heap.size := ⟨_, rfl⟩
  rw [← hB] at hown hb1 hz1 ⊢
  have hb2 : Below w.heap.size w w1 := below_to hb0 (hB ▸ hb1) (by omega)
  clear hb0 hb1 hB
  go_wp2
  go_loopw [11] (fun si wr => ∃ i : Nat, i ≤ m + 1 ∧ si = .int .i64 i ∧ wr.ownsRow B 2 1 (.slice (some ⟨B, 0, none⟩) (n + 1) (n + 1)) (n + 1) (rowS m n gap i 0) ∧ Below w.heap.size w wr)
    (fun si _ => m + 1 - (intOf si).toNat)
  case atStart => exact ⟨0, by omega, rfl, hown, hb2⟩
  case round =>
    obtain ⟨i, hi, rfl, hown3, hb3⟩ := hrel
    clear hown hb2
    obtain ⟨wo, rfl⟩ : ∃ wo : World, wo = wr := ⟨_, rfl⟩
    by_cases hlt : i ≤ m
    · go_wp2
      go_loopw [12] (fun sk wr => ∃ k : Nat, k ≤ n + 1 ∧ sk = .int .i64 k ∧ wr.ownsRow B 2 1 (.slice (some ⟨B, 0, none⟩) (n + 1) (n + 1)) (n + 1) (rowS m n gap i k) ∧ Below w.heap.size w wr)
        (fun sk _ => n + 1 - (intOf sk).toNat)
      case atStart => exact ⟨0, by omega, rfl, hown3, hb3⟩
      case round =>
        obtain ⟨k, hk, rfl, hown4, hb4⟩ := hrel
        clear hown3 hb3
        by_cases hlk : k ≤ n
        · have hni := mul_bd hn2 (show i ≤ 30 by omega)
          have hmk := mul_bd hm2 (show k ≤ 30 by omega)
          have f1 := hown4.frozenAt k
          have c1 := hown4.cellAt k (by omega)
          rw [rowS_at hlk, if_neg (by omega)] at c1
          by_cases hk0 : k = 0
          · subst hk0
            by_cases hi0 : i = 0
            · subst hi0
              have hset := hown4.stored 0 (.int .i64 1)
              rw [rowS_set hlk (by rw [st])] at hset
              go_wp2
              go_roundw
              case rel => exact ⟨1, by omega, by go_num, hset.1, hb4.grown hset.2 hb4.size (by intro k h; cases h; exact hz1)⟩
              case measure => simp [intOf]
            · clear hmk
              have hi1 : 1 ≤ i := by omega
              have hc := cut_pos (gap := gap) (show ¬ (n : Int) * i - (m : Int) * (0 : Nat) < -((n : Int) * i - (m : Int) * (0 : Nat)) by omega)
              have hst := st_C m n gap (i - 1)
              rw [show i - 1 + 1 = i by omega, hc] at hst
              by_cases hg : gap ≤ (n : Int) * i
              · rw [if_pos (decide_eq_true (by omega))] at hst
                have hset := hown4.stored 0 (.int .i64 0)
                rw [rowS_set hlk hst.symm] at hset
                clear hc hst
                go_wp2
                all_goals go_roundw
                case rel => exact ⟨1, by omega, by go_num, hset.1, hb4.grown hset.2 hb4.size (by intro k h; cases h; exact hz1)⟩
                case measure => simp [intOf]
              · rw [if_neg (by simp; omega)] at hst
                have hsame := rowS_same hst
                rw [hsame] at hown4
                clear hc hst hsame
                go_wp2
                all_goals go_roundw
                case rel => exact ⟨1, by omega, by go_num, hown4, hb4⟩
                case measure => simp [intOf]
          · obtain ⟨j, rfl⟩ : ∃ j, k = j + 1 := ⟨k - 1, by omega⟩
            have c2 := hown4.cellAt j (by omega)
            rw [rowS_at (by omega), if_pos (by omega)] at c2
            have hst := st_B m n gap i j
            have hset := hown4.stored (j + 1) (.int .i64 (wrap64 (stPrev m n gap i (j + 1) + st m n gap i j)))
            have hj0 : (0 : Int) ≤ j := by omega
            have hmk' : 0 ≤ (m : Int) * (↑j + 1) ∧ (m : Int) * (↑j + 1) ≤ 900 := by simpa using hmk
            by_cases hcut : cutB m n gap i (j + 1) = true
            · rw [if_pos hcut] at hst
              have hset2 := hset.1.stored (j + 1) (.int .i64 0)
              rw [List.set_set, rowS_set hlk hst.symm] at hset2
              have hbb := (hb4.grown hset.2 hb4.size (by intro k h; cases h; exact hz1)).grown hset2.2 (by have := hb4.size; simp; omega) (by intro k h; cases h; exact hz1)
              by_cases hx : (n : Int) * i < (m : Int) * (↑j + 1)
              · rw [cut_neg (m := m) (n := n) (gap := gap) (i := i) (k := j + 1) (by simp; omega)] at hcut
                have hg : gap ≤ (m : Int) * (↑j + 1) - (n : Int) * i := by have := of_decide_eq_true hcut; simp at this; omega
                clear hcut hst hmk
                rcases Nat.eq_zero_or_pos i with hi0 | hi0
                · subst hi0
                  simp only [Int.natCast_zero, Int.mul_zero, Int.sub_zero] at hg hx hni
                  go_wp2
                  go_region
                  go_wp2
                  all_goals go_roundw
                  case rel => first | exact ⟨j + 2, by omega, by go_num, hset2.1.drew, hbb.drew⟩ | ((repeat apply Exists.intro); exact ⟨⟨j + 2, by omega, by go_num, hset2.1.drew, hbb.drew⟩, rfl⟩)
                  case measure => simp [intOf]; omega
                · have he : ((i : Int) == 0) = false := by simp; omega
                  have hn : (0 : Int) < i := by omega
                  go_wp2
                  go_region
                  go_wp2
                  all_goals go_roundw
                  case rel => first | exact ⟨j + 2, by omega, by go_num, hset2.1.drew, hbb.drew⟩ | ((repeat apply Exists.intro); exact ⟨⟨j + 2, by omega, by go_num, hset2.1.drew, hbb.drew⟩, rfl⟩)
                  case measure => simp [intOf]; omega
              · rw [cut_pos (m := m) (n := n) (gap := gap) (i := i) (k := j + 1) (by simp; omega)] at hcut
                have hg : gap ≤ (n : Int) * i - (m : Int) * (↑j + 1) := by have := of_decide_eq_true hcut; simp at this; omega
                clear hcut hst hmk
                rcases Nat.eq_zero_or_pos i with hi0 | hi0
                · exfalso
                  have hm0 : (1 : Int) ≤ (m : Int) * (↑j + 1) := by
                    have : 1 * 1 ≤ m * (j + 1) := Nat.mul_le_mul hm1 (by omega)
                    have h2 : ((m * (j + 1) : Nat) : Int) = (m : Int) * (↑j + 1) := by simp
                    omega
                  subst hi0
                  simp at hx
                  omega
                · have he : ((i : Int) == 0) = false := by simp; omega
                  have hn : (0 : Int) < i := by omega
                  go_wp2
                  go_region
                  go_wp2
                  all_goals go_roundw
                  case rel => first | exact ⟨j + 2, by omega, by go_num, hset2.1.drew, hbb.drew⟩ | ((repeat apply Exists.intro); exact ⟨⟨j + 2, by omega, by go_num, hset2.1.drew, hbb.drew⟩, rfl⟩)
                  case measure => simp [intOf]; omega
            · rw [if_neg hcut] at hst
              rw [rowS_set hlk hst.symm] at hset
              have hb5 := hb4.grown hset.2 hb4.size (by intro k h; cases h; exact hz1)
              by_cases hx : (n : Int) * i < (m : Int) * (↑j + 1)
              · rw [cut_neg (m := m) (n := n) (gap := gap) (i := i) (k := j + 1) (by simp; omega)] at hcut
                have hg : (m : Int) * (↑j + 1) - (n : Int) * i < gap := by simp at hcut; omega
                clear hcut hst hmk
                rcases Nat.eq_zero_or_pos i with hi0 | hi0
                · subst hi0
                  simp only [Int.natCast_zero, Int.mul_zero, Int.sub_zero] at hg hx hni
                  go_wp2
                  go_region
                  go_wp2
                  all_goals go_roundw
                  case rel => first | exact ⟨j + 2, by omega, by go_num, hset.1.drew, hb5.drew⟩ | ((repeat apply Exists.intro); exact ⟨⟨j + 2, by omega, by go_num, hset.1.drew, hb5.drew⟩, rfl⟩)
                  case measure => simp [intOf]; omega
                · have he : ((i : Int) == 0) = false := by simp; omega
                  have hn : (0 : Int) < i := by omega
                  go_wp2
                  go_region
                  go_wp2
                  all_goals go_roundw
                  case rel => first | exact ⟨j + 2, by omega, by go_num, hset.1.drew, hb5.drew⟩ | ((repeat apply Exists.intro); exact ⟨⟨j + 2, by omega, by go_num, hset.1.drew, hb5.drew⟩, rfl⟩)
                  case measure => simp [intOf]; omega
              · rw [cut_pos (m := m) (n := n) (gap := gap) (i := i) (k := j + 1) (by simp; omega)] at hcut
                have hg : (n : Int) * i - (m : Int) * (↑j + 1) < gap := by simp at hcut; omega
                clear hcut hst hmk
                rcases Nat.eq_zero_or_pos i with hi0 | hi0
                · exfalso
                  have hm0 : (1 : Int) ≤ (m : Int) * (↑j + 1) := by
                    have : 1 * 1 ≤ m * (j + 1) := Nat.mul_le_mul hm1 (by omega)
                    have h2 : ((m * (j + 1) : Nat) : Int) = (m : Int) * (↑j + 1) := by simp
                    omega
                  subst hi0
                  simp at hx
                  omega
                · have he : ((i : Int) == 0) = false := by simp; omega
                  have hn : (0 : Int) < i := by omega
                  go_wp2
                  go_region
                  go_wp2
                  all_goals go_roundw
                  case rel => first | exact ⟨j + 2, by omega, by go_num, hset.1.drew, hb5.drew⟩ | ((repeat apply Exists.intro); exact ⟨⟨j + 2, by omega, by go_num, hset.1.drew, hb5.drew⟩, rfl⟩)
                  case measure => simp [intOf]; omega
        · obtain rfl : k = n + 1 := by omega
          rw [rowS_next] at hown4
          go_wp2
          go_roundw
          case rel => exact ⟨i + 1, by omega, by go_num, hown4, hb4⟩
          case measure => simp [intOf]; try omega
    · obtain rfl : i = m + 1 := by omega
      have c1 := hown3.cellAt n (by omega)
      rw [rowS_at (Nat.le_refl _), if_neg (by omega)] at c1
      have c2 : wo.cell? ⟨B, n, none⟩ = some (.int .i64 (st m n gap m n)) := c1
      clear c1
      go_wp2
      go_ret3
      exact ⟨rfl, hb3⟩
end Go.Proofs.Ytepiioegiicebaa
