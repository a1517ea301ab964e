/-
  The walks of spec.l06Ranks and impl.ranksOf: the ranks of numbers, times 2.
-/
import Derived.Test.YtmhmekfbnaafmaaIdxFunc
namespace Go.Proofs.Ytmhmekfbnaafmaa
open Go.RowKit

/-- The rank of 'own' among the numbers l, times 2. -/
def rk (own : Int) (l : List Int) : Int := l.foldl (fun r n => if n < own then r + 2 else if n = own then r + 1 else r) 1
theorem rk_snoc (own : Int) (l : List Int) (n : Int) : rk own (l ++ [n]) = if n < own then rk own l + 2 else if n = own then rk own l + 1 else rk own l := by simp [rk]
theorem rk_bd (own : Int) (l : List Int) : 1 ≤ rk own l ∧ rk own l ≤ 1 + 2 * l.length := by
  have h : ∀ (l : List Int) (r : Int), r ≤ l.foldl (fun r n => if n < own then r + 2 else if n = own then r + 1 else r) r ∧ l.foldl (fun r n => if n < own then r + 2 else if n = own then r + 1 else r) r ≤ r + 2 * l.length := by
    intro l
    induction l with
    | nil => intro r; simp
    | cons n l ih =>
      intro r
      simp only [List.foldl_cons, List.length_cons]
      have := ih (if n < own then r + 2 else if n = own then r + 1 else r)
      split at this
      · rename_i hn; simp only [hn, if_true]; omega
      · rename_i hn
        split at this
        · rename_i hm; simp only [hm, if_true]; simp at this ⊢; omega
        · rename_i hm; simp only [hn, hm, if_false]; omega
  exact h l 1
def ranks (xs : List Int) : List Int := xs.map fun o => rk o xs
/-- The first i of the ranks. -/
def ranksTo (xs : List Int) (i : Nat) : List Int := (xs.take i).map fun o => rk o xs
theorem ranksTo_zero (xs : List Int) : ranksTo xs 0 = [] := rfl
theorem ranksTo_snoc {xs : List Int} {i : Nat} {x : Int} (h : xs[i]? = some x) : ranksTo xs (i + 1) = ranksTo xs i ++ [rk x xs] := by simp [ranksTo, take_snoc h]
theorem ranksTo_end (xs : List Int) : ranksTo xs xs.length = ranks xs := by simp [ranksTo, ranks]
theorem ranksTo_len {xs : List Int} {i : Nat} (h : i ≤ xs.length) : (ranksTo xs i).length = i := by simp [ranksTo]; omega
theorem ranks_len (xs : List Int) : (ranks xs).length = xs.length := by simp [ranks]

theorem own_lit0 (w : World) (E : TypeId) : (w.alloc (.cells #[] E)).ownsRow w.heap.size E 1 (.slice (some ⟨w.heap.size, 0, none⟩) 0 0) 0 [] := by
  simpa using World.ownsRow_lit (w := w) (base := w.heap.size) (e := E) (size := 1) #[] 0 (Nat.le_refl _) (by decide) rfl

set_option maxHeartbeats 800000 in
theorem l06Ranks_any (v : Value) (xs : List Int) (hn : xs.length ≤ 1000000) (w : World) (hr : Rd iV w v xs) :
    Calls Try.prog 43 #[v] w fun e w' => ∃ v', e = .returned v' ∧ Own iV 2 w' w.heap.size v' (ranks xs) ∧ Below w.heap.size w w' := by
  obtain ⟨A, cap, rfl, hcap, hA⟩ := hr
  have HA := Lib.hid hA
  clear hA
  go_enter Try.func43, Try.ntmps43
  go_wp2
  go_loopw [3, 4] (fun so si wr => ∃ i : Nat, i ≤ xs.length ∧ si = .int .i64 i ∧ wr.ownsRow w.heap.size 2 1 so i ((ranksTo xs i).map iV) ∧ Below w.heap.size w wr)
    (fun _ si _ => xs.length - (intOf si).toNat)
  case atStart => exact ⟨0, by omega, rfl, own_lit0 _ _, (Below.refl _ _).alloc (Nat.le_refl _) _⟩
  case round =>
    obtain ⟨i, hi, rfl, hown, hb⟩ := hrel
    obtain ⟨wo, rfl⟩ : ∃ wo : World, wo = wr := ⟨_, rfl⟩
    by_cases hlt : i < xs.length
    · obtain ⟨own, ho⟩ := get_of_lt hlt
      obtain ⟨ad, rfl, hbl, hc⟩ := HA.out i own ho
      have hci : wo.cell? (ad.add i) = some (iV own) := by rw [hb.cell (by rw [add_block]; exact hbl)]; exact hc
      have HO := Lib.hid ho
      clear ho hc
      go_wp2
      go_loopw [5, 6] (fun sr sk wr => ∃ k : Nat, k ≤ xs.length ∧ sk = .int .i64 k ∧ sr = .int .i64 (rk own (xs.take k)) ∧ ∃ n, wo.drewN n = wr)
        (fun _ sk _ => xs.length - (intOf sk).toNat)
      case atStart => exact ⟨0, by omega, rfl, rfl, 0, rfl⟩
      case round =>
        obtain ⟨k, hk, rfl, rfl, n, rfl⟩ := hrel
        have hrk := rk_bd own (xs.take k)
        rw [List.length_take, Nat.min_eq_left hk] at hrk
        by_cases hlk : k < xs.length
        · obtain ⟨x, hx⟩ := get_of_lt hlk
          obtain ⟨_, e, _, hc⟩ := HA.out k x hx
          cases e
          have hck : wo.cell? (ad.add k) = some (iV x) := by rw [hb.cell (by rw [add_block]; exact hbl)]; exact hc
          have hsn := rk_snoc own (xs.take k) x
          rw [← take_snoc hx] at hsn
          have HS := Lib.hid hsn
          clear hsn hc hx
          have hi0 : (0 : Int) ≤ (i : Int) := by omega
          have hi1 : (i : Int) < (xs.length : Int) := by omega
          have hk0 : (0 : Int) ≤ (k : Int) := by omega
          have hk1 : (k : Int) < (xs.length : Int) := by omega
          by_cases h1 : x < own
          · have h2 : (x == own) = false := by simp; omega
            go_wp2
            go_quiet (fail)
            go_wp2
            go_quiet (fail)
            go_wp2
            go_roundw
            case rel => exact ⟨k + 1, by omega, by go_num, by rw [HS.out, if_pos h1], _, rfl⟩
            case measure => simp [intOf]; omega
          · by_cases h2 : x = own
            · have h3 : (x == own) = true := by simp [h2]
              have H2 := Lib.hid h2
              clear h2
              go_wp2
              go_quiet (fail)
              go_wp2
              go_quiet (fail)
              go_wp2
              go_roundw
              case rel => exact ⟨k + 1, by omega, by go_num, by rw [HS.out, if_neg (by omega), if_pos H2.out], _, rfl⟩
              case measure => simp [intOf]; omega
            · have h3 : (x == own) = false := by simp [h2]
              go_wp2
              go_quiet (fail)
              go_wp2
              go_quiet (fail)
              go_wp2
              go_roundw
              case rel => exact ⟨k + 1, by omega, by go_num, by rw [HS.out, if_neg (by omega), if_neg h2], _, rfl⟩
              case measure => simp [intOf]; omega
        · have hke : k = xs.length := by omega
          have HKE := Lib.hid hke
          clear hke
          have hz := hb.size
          go_wp2_with (at_builtin; go_loud (refine elI_.append _ rfl _ _ rfl w.heap.size _ i ((ranksTo xs i).map iV) rfl (World.ownsRow.alloc (World.ownsRow.drewN' hown _) _) ⟨wo.heap.size, 0, none⟩ 1 1 [.int .i64 (rk own (xs.take k))] rfl rfl (new_one _ _ _) (one_one rfl) (by omega) (by omega) (by simp; omega) ?_))
          intro v' w' hown6 hgr6 hb6
          rw [HKE.out, List.take_length] at hown6
          have e2 : (ranksTo xs i).map iV ++ [Value.int .i64 (rk own xs)] = (ranksTo xs (i + 1)).map iV := by rw [ranksTo_snoc HO.out]; simp
          rw [e2] at hown6
          clear e2
          go_wp2
          go_roundw
          case rel => exact ⟨i + 1, by omega, by go_num, hown6, ((below_drewN' _ hb).alloc (by simpa using hz) _).trans hb6⟩
          case measure => simp [intOf]; omega
    · have hie : i = xs.length := by omega
      have HIE := Lib.hid hie
      clear hie
      go_wp2
      go_ret
      refine ⟨_, rfl, ?_, hb⟩
      unfold Own
      rw [ranks_len, ← ranksTo_end, ← HIE.out]
      exact hown

set_option maxHeartbeats 800000 in
theorem ranksOf_any (v : Value) (xs : List Int) (hn : xs.length ≤ 1000000) (w : World) (hr : Rd iV w v xs) :
    Calls Try.prog 48 #[v] w fun e w' => ∃ v', e = .returned v' ∧ Own iV 2 w' w.heap.size v' (ranks xs) ∧ Below w.heap.size w w' := by
  obtain ⟨A, cap, rfl, hcap, hA⟩ := hr
  have HA := Lib.hid hA
  clear hA
  go_enter Try.func48, Try.ntmps48
  go_wp2
  go_loopw [3, 12] (fun so si wr => ∃ i : Nat, i ≤ xs.length ∧ si = .int .i64 i ∧ wr.ownsRow w.heap.size 2 1 so i ((ranksTo xs i).map iV) ∧ Below w.heap.size w wr)
    (fun _ si _ => xs.length - (intOf si).toNat)
  case atStart => exact ⟨0, by omega, rfl, own_lit0 _ _, (Below.refl _ _).alloc (Nat.le_refl _) _⟩
  case round =>
    obtain ⟨i, hi, rfl, hown, hb⟩ := hrel
    obtain ⟨wo, rfl⟩ : ∃ wo : World, wo = wr := ⟨_, rfl⟩
    by_cases hlt : i < xs.length
    · obtain ⟨own, ho⟩ := get_of_lt hlt
      obtain ⟨ad, rfl, hbl, hc⟩ := HA.out i own ho
      have hci : wo.cell? (ad.add i) = some (iV own) := by rw [hb.cell (by rw [add_block]; exact hbl)]; exact hc
      have HO := Lib.hid ho
      clear ho hc
      go_wp2
      go_loop [6, 18] (fun sr sk => ∃ k : Nat, k ≤ xs.length ∧ sk = .int .i64 k ∧ sr = .int .i64 (rk own (xs.take k)))
        (fun _ sk => xs.length - (intOf sk).toNat)
      case atStart => exact ⟨0, by omega, rfl, rfl⟩
      case round =>
        obtain ⟨k, hk, rfl, rfl⟩ := hrel
        have hrk := rk_bd own (xs.take k)
        rw [List.length_take, Nat.min_eq_left hk] at hrk
        by_cases hlk : k < xs.length
        · obtain ⟨x, hx⟩ := get_of_lt hlk
          obtain ⟨_, e, _, hc⟩ := HA.out k x hx
          cases e
          have hck : wo.cell? (ad.add k) = some (iV x) := by rw [hb.cell (by rw [add_block]; exact hbl)]; exact hc
          have hsn := rk_snoc own (xs.take k) x
          rw [← take_snoc hx] at hsn
          have HS := Lib.hid hsn
          clear hsn hc hx
          by_cases h1 : x < own
          · go_wp2
            go_round
            case rel => exact ⟨k + 1, by omega, by go_num, by rw [HS.out, if_pos h1]⟩
            case measure => simp [intOf]; omega
          · by_cases h2 : x = own
            · have h3 : (x == own) = true := by simp [h2]
              have H2 := Lib.hid h2
              clear h2
              go_wp2
              go_round
              case rel => exact ⟨k + 1, by omega, by go_num, by rw [HS.out, if_neg (by omega), if_pos H2.out]⟩
              case measure => simp [intOf]; omega
            · have h3 : (x == own) = false := by simp [h2]
              go_wp2
              go_round
              case rel => exact ⟨k + 1, by omega, by go_num, by rw [HS.out, if_neg (by omega), if_neg h2]⟩
              case measure => simp [intOf]; omega
        · have hke : k = xs.length := by omega
          have HKE := Lib.hid hke
          clear hke
          have hz := hb.size
          go_wp2_with (at_builtin; go_loud (refine elI_.append _ rfl _ _ rfl w.heap.size _ i ((ranksTo xs i).map iV) rfl (World.ownsRow.alloc hown _) ⟨wo.heap.size, 0, none⟩ 1 1 [.int .i64 (rk own (xs.take k))] rfl rfl (new_one _ _ _) (one_one rfl) (by omega) (by omega) (by simp; omega) ?_))
          intro v' w' hown6 hgr6 hb6
          rw [HKE.out, List.take_length] at hown6
          have e2 : (ranksTo xs i).map iV ++ [Value.int .i64 (rk own xs)] = (ranksTo xs (i + 1)).map iV := by rw [ranksTo_snoc HO.out]; simp
          rw [e2] at hown6
          clear e2
          go_wp2
          go_roundw
          case rel => exact ⟨i + 1, by omega, by go_num, hown6, (hb.alloc (by simpa using hz) _).trans hb6⟩
          case measure => simp [intOf]; omega
    · have hie : i = xs.length := by omega
      have HIE := Lib.hid hie
      clear hie
      go_wp2
      go_ret
      refine ⟨_, rfl, ?_, hb⟩
      unfold Own
      rw [ranks_len, ← ranksTo_end, ← HIE.out]
      exact hown
end Go.Proofs.Ytmhmekfbnaafmaa
