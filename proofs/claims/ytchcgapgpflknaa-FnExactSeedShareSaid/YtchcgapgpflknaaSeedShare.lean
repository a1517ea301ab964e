/-
  For every seed and share: the program's SeedShare returns what the reference's returns. No condition.
-/
import Derived.Test.YtchcgapgpflknaaSeedL
import Derived.Test.YtchcgapgpflknaaShareOpen
import Derived.Deep.RegionHeld3
namespace Go.Proofs.Ytchcgapgpflknaa
open Go.RowKit
attribute [local go_sem] run_up_

theorem ss_parts (k a b : Int) (x0 x1 : List Nat) : ∃ K A B : Int, ssSeed k a b x0 x1 = sdV K A B := by
  unfold ssSeed
  split
  · exact ⟨_, _, _, rfl⟩
  · exact ⟨_, _, _, rfl⟩

theorem seed_last {w1 w4 : World} {T : TypeId} {B : Nat} {v0 v1 v2 : Value} (hc : Below B w1 w4) (hB : B ≤ w4.heap.size) : BoxAt (w4.alloc (.cells #[v0, v1, v2] T)) w4.heap.size [v0, v1, v2] ∧ Below B w1 (w4.alloc (.cells #[v0, v1, v2] T)) ∧ B ≤ w4.heap.size :=
  ⟨BoxAt.new w4 [v0, v1, v2] T, hc.alloc hB _, hB⟩
theorem seed_set {w1 w4 : World} {S B : Nat} {v0 v1 v2 z0 z1 z2 : Value} (KB : BoxAt w4 S [z0, z1, z2]) (hc : Below B w1 w4) (hS : B ≤ S) :
    BoxAt (((w4.setCell ⟨S, 0, none⟩ v0).setCell ⟨S, 1, none⟩ v1).setCell ⟨S, 2, none⟩ v2) S [v0, v1, v2] ∧ Below B w1 (((w4.setCell ⟨S, 0, none⟩ v0).setCell ⟨S, 1, none⟩ v1).setCell ⟨S, 2, none⟩ v2) ∧ B ≤ S :=
  ⟨((KB.set (i := 0) rfl v0).set (i := 1) rfl v1).set (i := 2) rfl v2, ((hc.setCell (p := ⟨S, 0, none⟩) hS v0).setCell (p := ⟨S, 1, none⟩) hS v1).setCell (p := ⟨S, 2, none⟩) hS v2, hS⟩

set_option maxHeartbeats 3200000 in
theorem lawSeedShare_any (k a b : Int) (hb0 : 0 ≤ b) (s0 : Value) (x0 : List Nat) (s1 : Value) (x1 : List Nat) (w : World) (hr0 : Rd fV w s0 x0) (hx0 : x0.length ≤ 9223372036854775807) (hr1 : Rd fV w s1 x1) (hx1 : x1.length ≤ 9223372036854775807) :
    Calls Try.prog 13 #[sdV k a b, shV s0 s1] w fun e w' => e = .returned (.bool true) ∧ Below w.heap.size w w' := by
  have HR0 := Lib.hid hr0
  obtain ⟨A0, cap0, rfl, hcap0, hA0⟩ := hr0
  clear hA0
  have HR1 := Lib.hid hr1
  obtain ⟨A1, cap1, rfl, hcap1, hA1⟩ := hr1
  clear hA1
  obtain ⟨K, A, B, hsd⟩ := ss_parts k a b x0 x1
  have HSD := Lib.hid hsd
  clear hsd
  go_enter Try.func13, Try.ntmps13
  go_wp2_with fail
  have Bs : BoxAt ((w.alloc (.cells ([.int .i64 k, u64V a, u64V b] : List Value).toArray 73)).alloc (.cells ([.slice A0 x0.length cap0, .slice A1 x1.length cap1] : List Value).toArray 54)) w.heap.size [.int .i64 k, u64V a, u64V b] := (BoxAt.new w _ _).alloc _
  have Ba : BoxAt ((w.alloc (.cells ([.int .i64 k, u64V a, u64V b] : List Value).toArray 73)).alloc (.cells ([.slice A0 x0.length cap0, .slice A1 x1.length cap1] : List Value).toArray 54)) (w.heap.size + 1) [.slice A0 x0.length cap0, .slice A1 x1.length cap1] := by
    have := BoxAt.new (w.alloc (.cells ([.int .i64 k, u64V a, u64V b] : List Value).toArray 73)) [.slice A0 x0.length cap0, .slice A1 x1.length cap1] 54
    rwa [size_alloc] at this
  have hT : Below w.heap.size w ((w.alloc (.cells ([.int .i64 k, u64V a, u64V b] : List Value).toArray 73)).alloc (.cells ([.slice A0 x0.length cap0, .slice A1 x1.length cap1] : List Value).toArray 54)) := ((Below.refl _ _).alloc (Nat.le_refl _) _).alloc (by simp) _
  generalize hg : (w.alloc _).alloc _ = W0 at *
  clear hg
  refine (szShare_any _ x0 _ x1 (1048576) (by omega) (by omega) _ (HR0.out.below hT) (HR1.out.below hT) hx0 hx1).mono ?_
  rintro e w1 ⟨rfl, hb⟩
  replace Bs := Bs.below hb
  replace Ba := Ba.below hb
  replace hT := below_to hT hb hT.size
  clear hb
  by_cases hna : 1048576 < (x0.length : Int) + (x1.length : Int)
  · rw [if_pos hna]
    have d0 := Ba.cell 0 _ rfl
    have d1 := Ba.cell 1 _ rfl
    go_wp2
    go_ret
    exact ⟨rfl, hT⟩
  rw [if_neg hna]
  have hm0 : x0.length ≤ 1099511627776 := by omega
  have hm1 : x1.length ≤ 1099511627776 := by omega
  have hd := Int.not_lt.1 hna
  clear hna
  have d0 := Ba.cell 0 _ rfl
  have d1 := Ba.cell 1 _ rfl
  have c0 := Bs.cell 0 _ rfl
  have c1 := Bs.cell 1 _ rfl
  have c2 := Bs.cell 2 _ rfl
  have lz := Ba.lt
  have HT := Lib.hid hT
  have HBs := Lib.hid Bs
  have HBa := Lib.hid Ba
  clear Bs Ba hT
  go_wp2
  go_region_held3 (fun w' => w'.cell? ⟨w.heap.size, 0, none⟩ = some (.int .i64 k) ∧ w'.cell? ⟨w.heap.size, 1, none⟩ = some (u64V a) ∧ w'.cell? ⟨w.heap.size, 2, none⟩ = some (u64V b) ∧ w'.cell? ⟨w.heap.size + 1, 0, none⟩ = some (.slice A0 x0.length cap0) ∧ w'.cell? ⟨w.heap.size + 1, 1, none⟩ = some (.slice A1 x1.length cap1))
    (first
      | go_keep
      | (refine ⟨?_, ?_, ?_, ?_, ?_⟩ <;> (rw [Below.cell (hc4.alloc hc4.size _) (by dsimp only; omega)]; assumption))
      | (refine ⟨?_, ?_, ?_, ?_, ?_⟩ <;> (rw [Below.cell (hc4) (by dsimp only; omega)]; assumption))
      | (refine ⟨?_, ?_, ?_, ?_, ?_⟩ <;> (rw [Below.cell (hc3.alloc hc3.size _) (by dsimp only; omega)]; assumption))
      | (refine ⟨?_, ?_, ?_, ?_, ?_⟩ <;> (rw [Below.cell (hc3) (by dsimp only; omega)]; assumption))
      | (refine ⟨?_, ?_, ?_, ?_, ?_⟩ <;> (rw [Below.cell (hc2.alloc hc2.size _) (by dsimp only; omega)]; assumption))
      | (refine ⟨?_, ?_, ?_, ?_, ?_⟩ <;> (rw [Below.cell (hc2) (by dsimp only; omega)]; assumption))
      | (refine ⟨?_, ?_, ?_, ?_, ?_⟩ <;> (rw [Below.cell (Below.setCell (p := ⟨w1.heap.size, 2, none⟩) (Below.setCell (p := ⟨w1.heap.size, 1, none⟩) (Below.setCell (p := ⟨w1.heap.size, 0, none⟩) (hc4) (Nat.le_refl _) (.int .i64 K)) (Nat.le_refl _) (u64V A)) (Nat.le_refl _) (u64V B)) (by dsimp only; omega)]; assumption))
      | (refine ⟨?_, ?_, ?_, ?_, ?_⟩ <;> (rw [Below.cell (Below.setCell (p := ⟨w2.heap.size, 2, none⟩) (Below.setCell (p := ⟨w2.heap.size, 1, none⟩) (Below.setCell (p := ⟨w2.heap.size, 0, none⟩) (hc4) (hc2.size) (.int .i64 K)) (hc2.size) (u64V A)) (hc2.size) (u64V B)) (by dsimp only; omega)]; assumption))
      | (refine ⟨?_, ?_, ?_, ?_, ?_⟩ <;> (rw [Below.cell (Below.setCell (p := ⟨w3.heap.size, 2, none⟩) (Below.setCell (p := ⟨w3.heap.size, 1, none⟩) (Below.setCell (p := ⟨w3.heap.size, 0, none⟩) (hc4) (hc3.size) (.int .i64 K)) (hc3.size) (u64V A)) (hc3.size) (u64V B)) (by dsimp only; omega)]; assumption)))
    (first
      | (go_at_call 53; refine (toSeed_any k a b _).mono ?_; rintro e w2 ⟨rfl, hb2⟩; have hc2 : Below w1.heap.size w1 w2 := (by first | exact below_to (Below.refl w1.heap.size w1).drew hb2 (by simp) | exact below_to ((Below.refl w1.heap.size w1).alloc (Nat.le_refl _) _).drew hb2 (by simp)); (try have KB2 : BoxAt w2 w1.heap.size [.int .i64 0, u64V 0, u64V 0] := ((BoxAt.new w1 _ _).below (Below.refl _ _).drew).below hb2))
      | (go_at_call 39; refine (toShare_any _ x0 _ x1 hm0 hm1 _ ?_ ?_).mono ?_; (exact HR0.out.below (by first | exact HT.out.trans (hc2.mono HT.out.size) | exact (HT.out.trans (hc2.mono HT.out.size)).alloc (by have := HT.out.size; have := hc2.size; omega) _)); (exact HR1.out.below (by first | exact HT.out.trans (hc2.mono HT.out.size) | exact (HT.out.trans (hc2.mono HT.out.size)).alloc (by have := HT.out.size; have := hc2.size; omega) _)); rintro e w3 ⟨v0, v1, m1, rfl, i0, i1, -, -, hb3⟩; have hc3 : Below w1.heap.size w1 w3 := (by first | exact below_to hc2 hb3 hc2.size | exact below_to (hc2.alloc hc2.size _) hb3 (by have := hc2.size; simp; omega)); (try first | (have KB3 := KB2.below hb3) | (have KB3 : BoxAt w3 w2.heap.size [.int .i64 0, u64V 0, u64V 0] := (BoxAt.new w2 _ _).below hb3)))
      | (go_at_call 52; refine (specSeedShare_any k a b hb0 _ x0 _ x1 hm0 hm1 _ ?_ ?_).mono ?_; (first | exact i0.rd | exact i0.rd.below (below_alloc _ _)); (first | exact i1.rd | exact i1.rd.below (below_alloc _ _)); rintro e w4 ⟨he4, hb4⟩; rw [HSD.out] at he4; subst he4; have hc4 : Below w1.heap.size w1 w4 := (by first | exact below_to hc3 hb4 hc3.size | exact below_to (hc3.alloc hc3.size _) hb4 (by have := hc3.size; simp; omega)); (try first | (have KB4 := KB3.below hb4) | (have KB4 : BoxAt w4 w3.heap.size [.int .i64 0, u64V 0, u64V 0] := (BoxAt.new w3 _ _).below hb4)); (try (have k0 := KB4.cell 0 _ rfl; have k1 := KB4.cell 1 _ rfl; have k2 := KB4.cell 2 _ rfl; have k3 := KB4.free 0; have k4 := KB4.free 1; have k5 := KB4.free 2))))
  all_goals
    first
    | (obtain ⟨B6, hc5, hS5⟩ := seed_set (v0 := .int .i64 K) (v1 := u64V A) (v2 := u64V B) (KB4 : BoxAt w4 w3.heap.size _) hc4 (hc3.size)
       generalize ((w4.setCell ⟨w3.heap.size, 0, none⟩ (.int .i64 K)).setCell ⟨w3.heap.size, 1, none⟩ (u64V A)).setCell ⟨w3.heap.size, 2, none⟩ (u64V B) = W5 at B6 hc5 ⊢
       obtain ⟨S, hS⟩ : ∃ S, S = w3.heap.size := ⟨_, rfl⟩
       have B6' : BoxAt W5 S [.int .i64 K, u64V A, u64V B] := by rw [hS]; exact B6
       have hS' : w1.heap.size ≤ S := by rw [hS]; exact hS5
       rw [← hS]
       clear B6 hS5 hS)
    | (obtain ⟨B6, hc5, hS5⟩ := seed_set (v0 := .int .i64 K) (v1 := u64V A) (v2 := u64V B) (KB4 : BoxAt w4 w2.heap.size _) hc4 (hc2.size)
       generalize ((w4.setCell ⟨w2.heap.size, 0, none⟩ (.int .i64 K)).setCell ⟨w2.heap.size, 1, none⟩ (u64V A)).setCell ⟨w2.heap.size, 2, none⟩ (u64V B) = W5 at B6 hc5 ⊢
       obtain ⟨S, hS⟩ : ∃ S, S = w2.heap.size := ⟨_, rfl⟩
       have B6' : BoxAt W5 S [.int .i64 K, u64V A, u64V B] := by rw [hS]; exact B6
       have hS' : w1.heap.size ≤ S := by rw [hS]; exact hS5
       rw [← hS]
       clear B6 hS5 hS)
    | (obtain ⟨B6, hc5, hS5⟩ := seed_set (v0 := .int .i64 K) (v1 := u64V A) (v2 := u64V B) (KB4 : BoxAt w4 w1.heap.size _) hc4 (Nat.le_refl _)
       generalize ((w4.setCell ⟨w1.heap.size, 0, none⟩ (.int .i64 K)).setCell ⟨w1.heap.size, 1, none⟩ (u64V A)).setCell ⟨w1.heap.size, 2, none⟩ (u64V B) = W5 at B6 hc5 ⊢
       obtain ⟨S, hS⟩ : ∃ S, S = w1.heap.size := ⟨_, rfl⟩
       have B6' : BoxAt W5 S [.int .i64 K, u64V A, u64V B] := by rw [hS]; exact B6
       have hS' : w1.heap.size ≤ S := by rw [hS]; exact hS5
       rw [← hS]
       clear B6 hS5 hS)
    | (obtain ⟨B6', hc5, hS'⟩ := seed_last (T := 74) (v0 := .int .i64 K) (v1 := u64V A) (v2 := u64V B) hc4 hc4.size
       generalize w4.alloc (.cells #[.int .i64 K, u64V A, u64V B] 74) = W5 at B6' hc5 ⊢
       generalize w4.heap.size = S at B6' hS' ⊢)
    have hT5 : Below w.heap.size w W5 := HT.out.trans (hc5.mono HT.out.size)
    have Bs := HBs.out.below hc5
    have Ba := HBa.out.below hc5
    clear hc5 i0 i1 d0 d1 c0 c1 c2
    have d0 := Ba.cell 0 _ rfl
    have d1 := Ba.cell 1 _ rfl
    clear hb2 hb3 hb4 hc2 hc3 hc4
    go_wp2_with fail
    refine (toShare_any _ x0 _ x1 hm0 hm1 _ (HR0.out.below hT5) (HR1.out.below hT5)).mono ?_
    rintro e w6 ⟨vx0, vx1, mx, rfl, xa0, xa1, qx0, qx1, hb⟩
    obtain ⟨Ax0, cx0, rfl, -, -⟩ := xa0.rd
    obtain ⟨Ax1, cx1, rfl, -, -⟩ := xa1.rd
    clear d0 d1
    replace Bs := Bs.below hb
    replace Ba := Ba.below hb
    replace B6' := B6'.below hb
    replace hT5 := below_to hT5 hb hT5.size
    clear hb
    have hb : Below w6.heap.size w6 (w6.alloc (.cells ([.slice Ax0 x0.length cx0, .slice Ax1 x1.length cx1] : List Value).toArray 57)) := below_alloc _ _
    have Bz : BoxAt (w6.alloc (.cells ([.slice Ax0 x0.length cx0, .slice Ax1 x1.length cx1] : List Value).toArray 57)) w6.heap.size [.slice Ax0 x0.length cx0, .slice Ax1 x1.length cx1] := BoxAt.new _ _ _
    have lBa := Ba.lt
    go_wp2
    generalize w6.alloc (.cells #[.slice Ax0 x0.length cx0, .slice Ax1 x1.length cx1] 57) = w7 at hb Bz ⊢
    replace Bs := Bs.below hb
    replace Ba := Ba.below hb
    replace B6' := B6'.below hb
    replace xa0 := xa0.below hb
    replace xa1 := xa1.below hb
    replace hT5 := below_to hT5 hb hT5.size
    have lz7 := Bz.lt
    have ls7 := Bs.lt
    clear hb
    have X0 := Lib.hid xa0
    have X1 := Lib.hid xa1
    have HBs7 := Lib.hid Bs
    have HBa7 := Lib.hid Ba
    have HB6 := Lib.hid B6'
    have HBz := Lib.hid Bz
    have HT7 := Lib.hid hT5
    have c0 := Bs.cell 0 _ rfl
    have c1 := Bs.cell 1 _ rfl
    have c2 := Bs.cell 2 _ rfl
    have d0 := Bz.cell 0 _ rfl
    have d1 := Bz.cell 1 _ rfl
    clear Bs Ba B6' Bz hT5 xa0 xa1
    go_region_held3 (fun w' => w'.cell? ⟨w.heap.size, 0, none⟩ = some (.int .i64 k) ∧ w'.cell? ⟨w.heap.size, 1, none⟩ = some (u64V a) ∧ w'.cell? ⟨w.heap.size, 2, none⟩ = some (u64V b) ∧ w'.cell? ⟨w6.heap.size, 0, none⟩ = some (.slice Ax0 x0.length cx0) ∧ w'.cell? ⟨w6.heap.size, 1, none⟩ = some (.slice Ax1 x1.length cx1))
      (first
        | go_keep
        | (refine ⟨?_, ?_, ?_, ?_, ?_⟩ <;> (rw [Below.cell (hc9.alloc hc9.size _) (by dsimp only; omega)]; assumption))
        | (refine ⟨?_, ?_, ?_, ?_, ?_⟩ <;> (rw [Below.cell (hc9) (by dsimp only; omega)]; assumption))
        | (refine ⟨?_, ?_, ?_, ?_, ?_⟩ <;> (rw [Below.cell (hc8.alloc hc8.size _) (by dsimp only; omega)]; assumption))
        | (refine ⟨?_, ?_, ?_, ?_, ?_⟩ <;> (rw [Below.cell (hc8) (by dsimp only; omega)]; assumption))
        | (refine ⟨?_, ?_, ?_, ?_, ?_⟩ <;> (rw [Below.cell (Below.setCell (p := ⟨w7.heap.size, 2, none⟩) (Below.setCell (p := ⟨w7.heap.size, 1, none⟩) (Below.setCell (p := ⟨w7.heap.size, 0, none⟩) (hc9) (Nat.le_refl _) (.int .i64 K)) (Nat.le_refl _) (u64V A)) (Nat.le_refl _) (u64V B)) (by dsimp only; omega)]; assumption))
        | (refine ⟨?_, ?_, ?_, ?_, ?_⟩ <;> (rw [Below.cell (Below.setCell (p := ⟨w8.heap.size, 2, none⟩) (Below.setCell (p := ⟨w8.heap.size, 1, none⟩) (Below.setCell (p := ⟨w8.heap.size, 0, none⟩) (hc9) (hc8.size) (.int .i64 K)) (hc8.size) (u64V A)) (hc8.size) (u64V B)) (by dsimp only; omega)]; assumption)))
      (first
        | (go_at_call 53; refine (toSeed_any k a b _).mono ?_; rintro e w8 ⟨rfl, hb8⟩; have hc8 : Below w7.heap.size w7 w8 := (by first | exact below_to (Below.refl w7.heap.size w7).drew hb8 (by simp) | exact below_to ((Below.refl w7.heap.size w7).alloc (Nat.le_refl _) _).drew hb8 (by simp)); (try have KB8 : BoxAt w8 w7.heap.size [.int .i64 0, u64V 0, u64V 0] := ((BoxAt.new w7 _ _).below (Below.refl _ _).drew).below hb8))
        | (go_at_call 54; refine (implSeedShare_any k a b hb0 _ x0 _ x1 hm0 hm1 _ ?_ ?_).mono ?_; (exact X0.out.rd.below (by first | exact hc8 | exact hc8.alloc hc8.size _)); (exact X1.out.rd.below (by first | exact hc8 | exact hc8.alloc hc8.size _)); rintro e w9 ⟨he9, hb9⟩; rw [HSD.out] at he9; subst he9; have hc9 : Below w7.heap.size w7 w9 := (by first | exact below_to hc8 hb9 hc8.size | exact below_to (hc8.alloc hc8.size _) hb9 (by have := hc8.size; simp; omega)); (try first | (have KB9 := KB8.below hb9) | (have KB9 : BoxAt w9 w8.heap.size [.int .i64 0, u64V 0, u64V 0] := (BoxAt.new w8 _ _).below hb9)); (try (have k0 := KB9.cell 0 _ rfl; have k1 := KB9.cell 1 _ rfl; have k2 := KB9.cell 2 _ rfl; have k3 := KB9.free 0; have k4 := KB9.free 1; have k5 := KB9.free 2))))
    all_goals
      first
      | (obtain ⟨D6, hc10, hS5⟩ := seed_set (v0 := .int .i64 K) (v1 := u64V A) (v2 := u64V B) (KB9 : BoxAt w9 w8.heap.size _) hc9 (hc8.size)
         generalize ((w9.setCell ⟨w8.heap.size, 0, none⟩ (.int .i64 K)).setCell ⟨w8.heap.size, 1, none⟩ (u64V A)).setCell ⟨w8.heap.size, 2, none⟩ (u64V B) = W10 at D6 hc10 ⊢
         obtain ⟨S2, hS⟩ : ∃ S2, S2 = w8.heap.size := ⟨_, rfl⟩
         have D6' : BoxAt W10 S2 [.int .i64 K, u64V A, u64V B] := by rw [hS]; exact D6
         rw [← hS]
         clear D6 hS5 hS)
      | (obtain ⟨D6, hc10, hS5⟩ := seed_set (v0 := .int .i64 K) (v1 := u64V A) (v2 := u64V B) (KB9 : BoxAt w9 w7.heap.size _) hc9 (Nat.le_refl _)
         generalize ((w9.setCell ⟨w7.heap.size, 0, none⟩ (.int .i64 K)).setCell ⟨w7.heap.size, 1, none⟩ (u64V A)).setCell ⟨w7.heap.size, 2, none⟩ (u64V B) = W10 at D6 hc10 ⊢
         obtain ⟨S2, hS⟩ : ∃ S2, S2 = w7.heap.size := ⟨_, rfl⟩
         have D6' : BoxAt W10 S2 [.int .i64 K, u64V A, u64V B] := by rw [hS]; exact D6
         rw [← hS]
         clear D6 hS5 hS)
      | (obtain ⟨D6', hc10, hS5⟩ := seed_last (T := 74) (v0 := .int .i64 K) (v1 := u64V A) (v2 := u64V B) hc9 hc9.size
         generalize w9.alloc (.cells #[.int .i64 K, u64V A, u64V B] 74) = W10 at D6' hc10 ⊢
         generalize w9.heap.size = S2 at D6' ⊢)
      clear hb8 hb9 hc8 hc9 c0 c1 c2 d0 d1
      have hT : Below w.heap.size w W10 := HT7.out.trans (hc10.mono HT7.out.size)
      have Ba := HBa7.out.below hc10
      have Bz := HBz.out.below hc10
      have B6 := HB6.out.below hc10
      have x0' := X0.out.below hc10
      have x1' := X1.out.below hc10
      have c0 := B6.cell 0 _ rfl
      have c1 := B6.cell 1 _ rfl
      have c2 := B6.cell 2 _ rfl
      have d0 := D6'.cell 0 _ rfl
      have d1 := D6'.cell 1 _ rfl
      have d2 := D6'.cell 2 _ rfl
      go_wp2_with fail
      refine (eqSeed_any K A B _).mono ?_
      rintro e w11 ⟨rfl, hb⟩
      replace Ba := Ba.below hb
      replace Bz := Bz.below hb
      replace x0' := x0'.below hb
      replace x1' := x1'.below hb
      replace hT := below_to hT hb hT.size
      clear hb c0 c1 c2 d0 d1 d2 B6 D6'
      go_wp2_with fail
      refine (sameFloat_any _ _ (by rw [abs_upR, abs_upR]) _).mono ?_
      rintro e zw7 ⟨rfl, rfl⟩
      generalize hg : World.drewN w11 _ = w12
      have hb : Below w11.heap.size w11 w12 := by rw [← hg]; exact below_drewN' _ (Below.refl _ _)
      clear hg
      replace Ba := Ba.below hb
      replace Bz := Bz.below hb
      replace x0' := x0'.below hb
      replace x1' := x1'.below hb
      replace hT := below_to hT hb hT.size
      clear hb
      have c0 := Ba.cell 0 _ rfl
      have c1 := Ba.cell 1 _ rfl
      have d0 := Bz.cell 0 _ rfl
      have d1 := Bz.cell 1 _ rfl
      have lA := Ba.lt
      have lZ := Bz.lt
      go_wp2
      go_region_held3 (fun w' => w'.cell? ⟨w6.heap.size, 0, none⟩ = some (.slice Ax0 x0.length cx0) ∧ w'.cell? ⟨w6.heap.size, 1, none⟩ = some (.slice Ax1 x1.length cx1) ∧ w'.cell? ⟨w.heap.size + 1, 0, none⟩ = some (.slice A0 x0.length cap0) ∧ w'.cell? ⟨w.heap.size + 1, 1, none⟩ = some (.slice A1 x1.length cap1))
        (first
          | go_keep
          | (go_split_ands; refine ⟨?_, ?_, ?_, ?_⟩ <;> (rw [hb14.cell (by have z0 := hb13.size; simp at z0 ⊢; omega)]; assumption))
          | (go_split_ands; refine ⟨?_, ?_, ?_, ?_⟩ <;> (rw [hb13.cell (by try simp; omega)]; assumption)))
        (first
          | (go_at_call 39; refine (toShare_any _ x0 _ x1 hm0 hm1 _ ?_ ?_).mono ?_; (exact HR0.out.below (hT.drew)); (exact HR1.out.below (hT.drew)); rintro e w13 ⟨vt0, vt1, mt1, rfl, it0, it1, -, -, hb13⟩)
          | (go_at_call 41; refine (eqShare_any _ _ x0 x0 _ _ x1 x1 hm0 hm0 hm1 hm1 _ ?_ ?_ rfl ?_ ?_ rfl).mono ?_; (exact ((x0'.below ((Below.refl _ _).drew)).below hb13).rd); (exact it0.rd); (exact ((x1'.below ((Below.refl _ _).drew)).below hb13).rd); (exact it1.rd); rintro e w14 ⟨rfl, hb14⟩))
      have hb : Below w12.heap.size w12 w14 := below_to (below_to ((Below.refl w12.heap.size w12).drew) hb13 (by simp)) hb14 (by have z0 := hb13.size; simp at z0 ⊢; omega)
      replace hT := below_to hT hb hT.size
      go_wp2
      go_ret
      exact ⟨rfl, hT⟩

/-! The row's step, and the statement. -/
end Go.Proofs.Ytchcgapgpflknaa
