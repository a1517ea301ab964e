/-
  SeedShare, walked in the program and in the reference.
  SeedShare, walked in the reference.
-/
import Derived.Test.YtjajlddnhmbekaaGreatSeedK
import Derived.Test.YtjajlddnhmbekaaGreatQuant
import Derived.Deep.RegionHeld3
import Derived.Deep.RegionWith
namespace Go.Proofs.YtjajlddnhmbekaaGreat
section
open Go.RowKit
attribute [local go_sem] run_fl_add run_fl_sub run_fl_mul run_fl_quo run_up_ run_store_float

def gtA (U o : Option Nat) : Bool := ordF .f32 o U == some .gt
def gtB (u x : Nat) : Bool := FloatKind.f32.format.order x u == some .gt
theorem gtA_bits {u : Nat} {U : Option Nat} (hu : absF .f32 u = U) (x : Nat) : gtB u x = gtA U (absF .f32 x) := by
  unfold gtB gtA
  rw [ord_abs .f32, hu]
section
variable (k a b : Int) (x0 x1 : List Nat)
def ssOk : Bool := seedB k a b && shareB x0 x1
def ssSeed : Value := if ssOk k a b x0 x1 = true then sdV k (nextA k a b) (nextB k a b) else sdV 0 0 0
def ssVal : Nat := if ssOk k a b x0 x1 = true then qv x0 x1 (gtA (shareU k a b)) else 0
def RetSeedShare (w : World) (e : Ending) (w' : World) : Prop :=
  e = .returned (.tuple #[ssSeed k a b x0 x1, fV (ssVal k a b x0 x1), .bool (ssOk k a b x0 x1)]) ∧ Below w.heap.size w w'
end
variable {k a b : Int} {x0 x1 : List Nat}
theorem ss_no {w w' : World} (h : ssOk k a b x0 x1 = false) (hb : Below w.heap.size w w') : RetSeedShare k a b x0 x1 w (.returned (.tuple #[sdV 0 0 0, fV 0, .bool false])) w' := by
  refine ⟨?_, hb⟩
  unfold ssSeed ssVal
  rw [h]
  rfl
theorem ss_yes {w w' : World} {x : Nat} {A B : Int} (h : ssOk k a b x0 x1 = true) (hA : nextA k a b = A) (hB : nextB k a b = B) (hx : qv x0 x1 (gtA (shareU k a b)) = x) (hb : Below w.heap.size w w') : RetSeedShare k a b x0 x1 w (.returned (.tuple #[sdV k A B, fV x, .bool true])) w' := by
  refine ⟨?_, hb⟩
  unfold ssSeed ssVal
  rw [h, hx, hA, hB]
  rfl
theorem ss_f1 (h : seedB k a b = false) : ssOk k a b x0 x1 = false := by unfold ssOk; rw [h]; rfl
theorem ss_f2 (h : shareB x0 x1 = false) : ssOk k a b x0 x1 = false := by unfold ssOk; rw [h]; simp
theorem ss_t (h1 : seedB k a b = true) (h2 : shareB x0 x1 = true) : ssOk k a b x0 x1 = true := by unfold ssOk; rw [h1, h2]; rfl
theorem seedShare1_any (x u g : Nat) (w : World) (h : w.cell? ⟨g, 0, none⟩ = some (fV u)) :
    Calls Tryz.prog 41 #[fV x, .pointer (some ⟨g, 0, none⟩)] w fun e w' => e = .returned (.bool (gtB u x)) ∧ w = w' := by
  go_enter Tryz.func41, Tryz.ntmps41
  go_wp2
  go_ret
  exact ⟨rfl, rfl⟩
theorem enter_seedShare1 (args : Array Value) (w : World) : (callFunc 41 args).run Tryz.prog w = .ok (.enter 41 args) w :=
  enter_of Tryz.func41 (by kernel_rfl) (by kernel_rfl) args w

set_option maxHeartbeats 3200000 in
theorem implSeedShare_any (k a b : Int) (hb0 : 0 ≤ b) (s0 : Value) (x0 : List Nat) (s1 : Value) (x1 : List Nat) (hn0 : x0.length ≤ 1099511627776) (hn1 : x1.length ≤ 1099511627776) (w : World) (hr0 : Rd fV w s0 x0) (hr1 : Rd fV w s1 x1) :
    Calls Tryz.prog 15 #[sdV k a b, shV s0 s1] w (RetSeedShare k a b x0 x1 w) := by
  have HR0 := Lib.hid hr0
  obtain ⟨A0, cap0, rfl, hcap0, hA0⟩ := hr0
  have HA0 := Lib.hid hA0
  clear hA0
  have HR1 := Lib.hid hr1
  obtain ⟨A1, cap1, rfl, hcap1, hA1⟩ := hr1
  have HA1 := Lib.hid hA1
  clear hA1
  go_enter Tryz.func15, Tryz.ntmps15
  go_wp2_with fail
  have B0 : BoxAt (((w.alloc (.cells ([.int .i64 k, u64V a, u64V b] : List Value).toArray 40)).alloc (.cells ([.slice A0 x0.length cap0, .slice A1 x1.length cap1] : List Value).toArray 26)).alloc (.cells ([.int .i64 0, u64V 0, u64V 0] : List Value).toArray 40)) w.heap.size [.int .i64 k, u64V a, u64V b] := ((BoxAt.new w _ _).alloc _).alloc _
  have B1 : BoxAt (((w.alloc (.cells ([.int .i64 k, u64V a, u64V b] : List Value).toArray 40)).alloc (.cells ([.slice A0 x0.length cap0, .slice A1 x1.length cap1] : List Value).toArray 26)).alloc (.cells ([.int .i64 0, u64V 0, u64V 0] : List Value).toArray 40)) (w.heap.size + 1) [.slice A0 x0.length cap0, .slice A1 x1.length cap1] := by
    have := (BoxAt.new (w.alloc (.cells ([.int .i64 k, u64V a, u64V b] : List Value).toArray 40)) [.slice A0 x0.length cap0, .slice A1 x1.length cap1] 26).alloc (.cells ([.int .i64 0, u64V 0, u64V 0] : List Value).toArray 40)
    rwa [size_alloc] at this
  have B2 : BoxAt (((w.alloc (.cells ([.int .i64 k, u64V a, u64V b] : List Value).toArray 40)).alloc (.cells ([.slice A0 x0.length cap0, .slice A1 x1.length cap1] : List Value).toArray 26)).alloc (.cells ([.int .i64 0, u64V 0, u64V 0] : List Value).toArray 40)) (w.heap.size + 1 + 1) [.int .i64 0, u64V 0, u64V 0] := by
    have := BoxAt.new ((w.alloc (.cells ([.int .i64 k, u64V a, u64V b] : List Value).toArray 40)).alloc (.cells ([.slice A0 x0.length cap0, .slice A1 x1.length cap1] : List Value).toArray 26)) [.int .i64 0, u64V 0, u64V 0] 40
    rwa [size_alloc, size_alloc] at this
  have hT : Below w.heap.size w (((w.alloc (.cells ([.int .i64 k, u64V a, u64V b] : List Value).toArray 40)).alloc (.cells ([.slice A0 x0.length cap0, .slice A1 x1.length cap1] : List Value).toArray 26)).alloc (.cells ([.int .i64 0, u64V 0, u64V 0] : List Value).toArray 40)) := (((Below.refl _ _).alloc (Nat.le_refl _) _).alloc (by simp) _).alloc (by simp; omega) _
  generalize hg : ((w.alloc _).alloc _).alloc _ = W0 at *
  clear hg
  refine (validSeed_any k a b hb0 _).mono ?_
  rintro e w1 ⟨rfl, hb⟩
  replace B0 := B0.below hb
  replace B1 := B1.below hb
  replace B2 := B2.below hb
  replace hT := below_to hT hb hT.size
  clear hb
  cases hs : seedB k a b
  · have Ho := Lib.hid (ss_f1 (x0 := x0) (x1 := x1) hs)
    have Hs := Lib.hid hs
    clear hs
    have d0 := B2.cell 0 _ rfl
    have d1 := B2.cell 1 _ rfl
    have d2 := B2.cell 2 _ rfl
    have f0 := B2.free 0
    have f1 := B2.free 1
    have f2 := B2.free 2
    have HT := Lib.hid hT
    clear hT
    go_wp2
    refine bodyPost_ret (v := .tuple #[sdV 0 0 0, fV 0, .bool false]) (by simp [results, Tryz.results15, go_sem, *]) rfl (ss_no Ho.out ?_)
    exact ((HT.out.setCell (by simp; omega) _).setCell (by simp; omega) _).setCell (by simp; omega) _
  have Hs := Lib.hid hs
  clear hs
  have c0 := B1.cell 0 _ rfl
  have c1 := B1.cell 1 _ rfl
  go_wp2_with fail
  refine (implValidShare_any _ x0 _ x1 hn0 hn1 _ (HR0.out.below hT) (HR1.out.below hT)).mono ?_
  rintro e w2 ⟨rfl, hb⟩
  clear c0 c1
  replace B0 := B0.below hb
  replace B1 := B1.below hb
  replace B2 := B2.below hb
  replace hT := below_to hT hb hT.size
  clear hb
  cases hf : shareB x0 x1
  · have Ho := Lib.hid (ss_f2 (k := k) (a := a) (b := b) hf)
    have Hf := Lib.hid hf
    clear hf
    have d0 := B2.cell 0 _ rfl
    have d1 := B2.cell 1 _ rfl
    have d2 := B2.cell 2 _ rfl
    have f0 := B2.free 0
    have f1 := B2.free 1
    have f2 := B2.free 2
    have HT := Lib.hid hT
    clear hT
    go_wp2
    refine bodyPost_ret (v := .tuple #[sdV 0 0 0, fV 0, .bool false]) (by simp [results, Tryz.results15, go_sem, *]) rfl (ss_no Ho.out ?_)
    exact ((HT.out.setCell (by simp; omega) _).setCell (by simp; omega) _).setCell (by simp; omega) _
  have hl := shareB_len hf
  have Ho := Lib.hid (ss_t Hs.out hf)
  have Hf := Lib.hid hf
  clear hf
  have Hl := Lib.hid hl
  clear hl
  have c0 := B0.cell 0 _ rfl
  have c1 := B0.cell 1 _ rfl
  have c2 := B0.cell 2 _ rfl
  go_wp2_with fail
  refine (share_any k a b _).mono ?_
  rintro e w3 ⟨u, rfl, hu, hb⟩
  clear c0 c1 c2
  replace B0 := B0.below hb
  replace B1 := B1.below hb
  replace B2 := B2.below hb
  replace hT := below_to hT hb hT.size
  clear hb
  have HU := Lib.hid hu
  clear hu
  obtain ⟨A', hA⟩ : ∃ A', nextA k a b = A' := ⟨_, rfl⟩
  obtain ⟨B', hB⟩ : ∃ B', nextB k a b = B' := ⟨_, rfl⟩
  have HA := Lib.hid hA
  have HB := Lib.hid hB
  rw [hA, hB]
  clear hA hB
  have hz := B2.lt
  have BU := BoxAt.new w3 [fV 0] 28
  replace B0 := B0.alloc (.cells ([fV 0] : List Value).toArray 28)
  replace B1 := B1.alloc (.cells ([fV 0] : List Value).toArray 28)
  replace B2 := B2.alloc (.cells ([fV 0] : List Value).toArray 28)
  replace hT := hT.alloc hT.size (.cells ([fV 0] : List Value).toArray 28)
  have F0 := B0.free 0
  have F1 := B0.free 1
  have F2 := B0.free 2
  have FU := BU.free 0
  have c0 := B0.cell 0 _ rfl
  have c1 := B0.cell 1 _ rfl
  have c2 := B0.cell 2 _ rfl
  have u0 := BU.cell 0 _ rfl
  go_wp2
  have B0' := (((B0.set (i := 0) rfl (.int .i64 k)).set (i := 1) rfl (u64V A')).set (i := 2) rfl (u64V B')).other (p := ⟨w3.heap.size, 0, none⟩) (by show w3.heap.size ≠ _; omega) (fV u)
  have B1' := (((B1.other (p := ⟨w.heap.size, 0, none⟩) (by show w.heap.size ≠ _; omega) (.int .i64 k)).other (p := ⟨w.heap.size, 1, none⟩) (by show w.heap.size ≠ _; omega) (u64V A')).other (p := ⟨w.heap.size, 2, none⟩) (by show w.heap.size ≠ _; omega) (u64V B')).other (p := ⟨w3.heap.size, 0, none⟩) (by show w3.heap.size ≠ _; omega) (fV u)
  have B2' := (((B2.other (p := ⟨w.heap.size, 0, none⟩) (by show w.heap.size ≠ _; omega) (.int .i64 k)).other (p := ⟨w.heap.size, 1, none⟩) (by show w.heap.size ≠ _; omega) (u64V A')).other (p := ⟨w.heap.size, 2, none⟩) (by show w.heap.size ≠ _; omega) (u64V B')).other (p := ⟨w3.heap.size, 0, none⟩) (by show w3.heap.size ≠ _; omega) (fV u)
  have BU' := (((BU.other (p := ⟨w.heap.size, 0, none⟩) (by show w.heap.size ≠ _; omega) (.int .i64 k)).other (p := ⟨w.heap.size, 1, none⟩) (by show w.heap.size ≠ _; omega) (u64V A')).other (p := ⟨w.heap.size, 2, none⟩) (by show w.heap.size ≠ _; omega) (u64V B')).set (i := 0) rfl (fV u)
  have hT' := (((hT.setCell (p := ⟨w.heap.size, 0, none⟩) (Nat.le_refl _) (.int .i64 k)).setCell (p := ⟨w.heap.size, 1, none⟩) (Nat.le_refl _) (u64V A')).setCell (p := ⟨w.heap.size, 2, none⟩) (Nat.le_refl _) (u64V B')).setCell (p := ⟨w3.heap.size, 0, none⟩) (by show _ ≤ w3.heap.size; omega) (fV u)
  generalize hW : World.setCell (World.setCell (World.setCell (World.setCell (World.alloc w3 _) _ _) _ _) _ _) _ _ = W5 at B0' B1' B2' BU' hT' ⊢
  clear hW B0 B1 B2 BU hT F0 F1 F2 FU c0 c1 c2 u0
  have E0 : BoxAt W5 w.heap.size [.int .i64 k, u64V A', u64V B'] := B0'
  have E2 : BoxAt W5 (w.heap.size + 1 + 1) [.int .i64 0, u64V 0, u64V 0] := B2'
  have EU : BoxAt W5 w3.heap.size [fV u] := BU'
  clear B0' B2' BU'
  have l0 := E0.lt
  have l2 := E2.lt
  have HE2 := Lib.hid E2
  have HE0 := Lib.hid E0
  have HE1 := Lib.hid B1'
  have HEU := Lib.hid EU
  have HT := Lib.hid hT'
  have HC : Hid (∀ (x : Nat) (w' : World), Below W5.drew.heap.size W5.drew w' → Calls Tryz.prog 41 (#[fV x] ++ #[.pointer (some ⟨w3.heap.size, 0, none⟩)]) w' fun e w'' => e = .returned (.bool (gtB u x)) ∧ w' = w'') := fun x w' hw' => seedShare1_any x u _ w' (((HEU.out.below (Below.refl _ _).drew).below hw').cell 0 _ rfl)
  have c0 := E0.cell 0 _ rfl
  have c1 := E0.cell 1 _ rfl
  have c2 := E0.cell 2 _ rfl
  have d0 := B1'.cell 0 _ rfl
  have d1 := B1'.cell 1 _ rfl
  clear E0 E2 EU hT'
  go_region_with
    (first
      | (go_at_call 25; refine (valueWhere_any (gtB u) (gtA (shareU k a b)) (gtA_bits HU.out) 41 #[.pointer (some ⟨w3.heap.size, 0, none⟩)] _ _ x0 x1 hn0 Hl.out.1.1 Hl.out.2 enter_seedShare1 _ HC.out (HR0.out.below HT.out.drew) (HR1.out.below HT.out.drew)).mono ?_; rintro e w6 ⟨rfl, hb6⟩; have hz6 : W5.heap.size ≤ w6.heap.size := hb6.size; have z0 := ((HE0.out.below (Below.refl _ _).drew).below hb6).cell 0 _ rfl; have z1 := ((HE0.out.below (Below.refl _ _).drew).below hb6).cell 1 _ rfl; have z2 := ((HE0.out.below (Below.refl _ _).drew).below hb6).cell 2 _ rfl; have z3 := ((HE1.out.below (Below.refl _ _).drew).below hb6).cell 0 _ rfl; have z4 := ((HE1.out.below (Below.refl _ _).drew).below hb6).cell 1 _ rfl; have r0 := ((HE2.out.below (Below.refl _ _).drew).below hb6).cell 0 _ rfl; have r1 := ((HE2.out.below (Below.refl _ _).drew).below hb6).cell 1 _ rfl; have r2 := ((HE2.out.below (Below.refl _ _).drew).below hb6).cell 2 _ rfl; have q0 := ((HE2.out.below (Below.refl _ _).drew).below hb6).free 0; have q1 := ((HE2.out.below (Below.refl _ _).drew).below hb6).free 1; have q2 := ((HE2.out.below (Below.refl _ _).drew).below hb6).free 2))
  all_goals
    have HT6 := Lib.hid (below_to HT.out.drew hb6 (by have := HT.out.size; simpa using this))
    go_wp2
    refine bodyPost_ret (v := .tuple #[sdV k A' B', fV (qv x0 x1 (gtA (shareU k a b))), .bool true]) (by simp [results, Tryz.results15, go_sem, *]) rfl (ss_yes Ho.out HA.out HB.out rfl ?_)
    exact ((HT6.out.setCell (by simp; omega) _).setCell (by simp; omega) _).setCell (by simp; omega) _
end

section
open Go.RowKit
attribute [local go_sem] run_fl_add run_fl_sub run_fl_mul run_fl_quo run_up_ run_store_float

set_option maxHeartbeats 3200000 in
theorem specSeedShare_any (k a b : Int) (hb0 : 0 ≤ b) (s0 : Value) (x0 : List Nat) (s1 : Value) (x1 : List Nat) (hn0 : x0.length ≤ 1099511627776) (hn1 : x1.length ≤ 1099511627776) (w : World) (hr0 : Rd fV w s0 x0) (hr1 : Rd fV w s1 x1) :
    Calls Tryz.prog 16 #[sdV k a b, shV s0 s1] w (RetSeedShare k a b x0 x1 w) := by
  have HR0 := Lib.hid hr0
  obtain ⟨A0, cap0, rfl, hcap0, hA0⟩ := hr0
  have HA0 := Lib.hid hA0
  clear hA0
  have HR1 := Lib.hid hr1
  obtain ⟨A1, cap1, rfl, hcap1, hA1⟩ := hr1
  have HA1 := Lib.hid hA1
  clear hA1
  go_enter Tryz.func16, Tryz.ntmps16
  go_wp2_with fail
  have B0 : BoxAt (((w.alloc (.cells ([.int .i64 k, u64V a, u64V b] : List Value).toArray 40)).alloc (.cells ([.slice A0 x0.length cap0, .slice A1 x1.length cap1] : List Value).toArray 26)).alloc (.cells ([.int .i64 0, u64V 0, u64V 0] : List Value).toArray 40)) w.heap.size [.int .i64 k, u64V a, u64V b] := ((BoxAt.new w _ _).alloc _).alloc _
  have B1 : BoxAt (((w.alloc (.cells ([.int .i64 k, u64V a, u64V b] : List Value).toArray 40)).alloc (.cells ([.slice A0 x0.length cap0, .slice A1 x1.length cap1] : List Value).toArray 26)).alloc (.cells ([.int .i64 0, u64V 0, u64V 0] : List Value).toArray 40)) (w.heap.size + 1) [.slice A0 x0.length cap0, .slice A1 x1.length cap1] := by
    have := (BoxAt.new (w.alloc (.cells ([.int .i64 k, u64V a, u64V b] : List Value).toArray 40)) [.slice A0 x0.length cap0, .slice A1 x1.length cap1] 26).alloc (.cells ([.int .i64 0, u64V 0, u64V 0] : List Value).toArray 40)
    rwa [size_alloc] at this
  have B2 : BoxAt (((w.alloc (.cells ([.int .i64 k, u64V a, u64V b] : List Value).toArray 40)).alloc (.cells ([.slice A0 x0.length cap0, .slice A1 x1.length cap1] : List Value).toArray 26)).alloc (.cells ([.int .i64 0, u64V 0, u64V 0] : List Value).toArray 40)) (w.heap.size + 1 + 1) [.int .i64 0, u64V 0, u64V 0] := by
    have := BoxAt.new ((w.alloc (.cells ([.int .i64 k, u64V a, u64V b] : List Value).toArray 40)).alloc (.cells ([.slice A0 x0.length cap0, .slice A1 x1.length cap1] : List Value).toArray 26)) [.int .i64 0, u64V 0, u64V 0] 40
    rwa [size_alloc, size_alloc] at this
  have hT : Below w.heap.size w (((w.alloc (.cells ([.int .i64 k, u64V a, u64V b] : List Value).toArray 40)).alloc (.cells ([.slice A0 x0.length cap0, .slice A1 x1.length cap1] : List Value).toArray 26)).alloc (.cells ([.int .i64 0, u64V 0, u64V 0] : List Value).toArray 40)) := (((Below.refl _ _).alloc (Nat.le_refl _) _).alloc (by simp) _).alloc (by simp; omega) _
  generalize hg : ((w.alloc _).alloc _).alloc _ = W0 at *
  clear hg
  refine (l02IsSeed_any _ k a b hb0 _ B0).mono ?_
  rintro e w1 ⟨rfl, rfl⟩
  cases hs : seedB k a b
  · have Ho := Lib.hid (ss_f1 (x0 := x0) (x1 := x1) hs)
    have Hs := Lib.hid hs
    clear hs
    have d0 := B2.cell 0 _ rfl
    have d1 := B2.cell 1 _ rfl
    have d2 := B2.cell 2 _ rfl
    have f0 := B2.free 0
    have f1 := B2.free 1
    have f2 := B2.free 2
    have HT := Lib.hid hT
    clear hT
    go_wp2
    refine bodyPost_ret (v := .tuple #[sdV 0 0 0, fV 0, .bool false]) (by simp [results, Tryz.results16, go_sem, *]) rfl (ss_no Ho.out ?_)
    exact ((HT.out.setCell (by simp; omega) _).setCell (by simp; omega) _).setCell (by simp; omega) _
  have Hs := Lib.hid hs
  clear hs
  go_wp2_with fail
  refine (l05Is_any _ _ _ x0 x1 hn0 hn1 _ B1 (HR0.out.below hT) (HR1.out.below hT)).mono ?_
  rintro e w2 ⟨rfl, hb⟩
  replace B0 := B0.below hb
  replace B1 := B1.below hb
  replace B2 := B2.below hb
  replace hT := below_to hT hb hT.size
  clear hb
  cases hf : shareB x0 x1
  · have Ho := Lib.hid (ss_f2 (k := k) (a := a) (b := b) hf)
    have Hf := Lib.hid hf
    clear hf
    have d0 := B2.cell 0 _ rfl
    have d1 := B2.cell 1 _ rfl
    have d2 := B2.cell 2 _ rfl
    have f0 := B2.free 0
    have f1 := B2.free 1
    have f2 := B2.free 2
    have HT := Lib.hid hT
    clear hT
    go_wp2
    refine bodyPost_ret (v := .tuple #[sdV 0 0 0, fV 0, .bool false]) (by simp [results, Tryz.results16, go_sem, *]) rfl (ss_no Ho.out ?_)
    exact ((HT.out.setCell (by simp; omega) _).setCell (by simp; omega) _).setCell (by simp; omega) _
  have hl := shareB_len hf
  have Ho := Lib.hid (ss_t Hs.out hf)
  have Hf := Lib.hid hf
  clear hf
  have Hl := Lib.hid hl
  clear hl
  go_wp2_with fail
  refine (l02Share_any _ k a b _ B0).mono ?_
  rintro e w3 ⟨u, rfl, hu, hB0, ht⟩
  have HU := Lib.hid hu
  clear hu B0
  replace B1 := B1.touch ht (.inr (by omega))
  replace B2 := B2.touch ht (.inr (by omega))
  replace hT : Below w.heap.size w w3 := hT.trans (ht.below (Nat.le_refl _) hT.size)
  clear ht
  obtain ⟨A', hA⟩ : ∃ A', nextA k a b = A' := ⟨_, rfl⟩
  obtain ⟨B', hB⟩ : ∃ B', nextB k a b = B' := ⟨_, rfl⟩
  have HA := Lib.hid hA
  have HB := Lib.hid hB
  rw [hA, hB] at hB0
  clear hA hB
  have HGT : Hid (∀ b0 : Nat, gtB u b0 = gtA (shareU k a b) (absF .f32 b0)) := gtA_bits HU.out
  have e1 := Hl.out.2
  rw [e1] at hcap1 B1
  clear e1
  have hpos := Hl.out.1.1
  have c0 := B1.cell 0 _ rfl
  have c1 := B1.cell 1 _ rfl
  go_wp2
  go_loopw [8, 21] (fun ss si wr => ∃ (j s : Nat), j ≤ x0.length ∧ si = .int .i64 j ∧ ss = fV s ∧ Hid (absF .f32 s = sumF (absL (x1.take j))) ∧ Hid (∀ i, i < j → gtA (shareU k a b) (qSum x1 i) = false) ∧ Below w3.heap.size w3 wr) (fun _ si _ => x0.length - (intOf si).toNat)
  case atStart => exact ⟨0, 0, by omega, rfl, rfl, abs_zero, fun i hi => absurd hi (Nat.not_lt_zero _), Below.refl _ _⟩
  case round =>
    obtain ⟨j, s, hj, rfl, rfl, hs, hno, hb⟩ := hrel
    have E0 := hB0.below hb
    have E1 := B1.below hb
    have E2 := B2.below hb
    have HT := Lib.hid (below_to hT hb hT.size)
    clear c0 c1
    have d0 := E1.cell 0 _ rfl
    have d1 := E1.cell 1 _ rfl
    have s0 := E0.cell 0 _ rfl
    have s1 := E0.cell 1 _ rfl
    have s2 := E0.cell 2 _ rfl
    have r0 := E2.cell 0 _ rfl
    have r1 := E2.cell 1 _ rfl
    have r2 := E2.cell 2 _ rfl
    have f0 := E2.free 0
    have f1 := E2.free 1
    have f2 := E2.free 2
    by_cases hlt : j < x0.length
    · obtain ⟨x, hx⟩ := get_of_lt hlt
      obtain ⟨c, hc⟩ := get_of_lt (xs := x1) (k := j) (by rw [Hl.out.2]; exact hlt)
      obtain ⟨ad, rfl, hbl, hcell⟩ := HA0.out j x hx
      obtain ⟨ad1, rfl, hbl1, hcell1⟩ := HA1.out j c hc
      have e0 : wr.cell? (ad.add j) = some (fV x) := by rw [HT.out.cell (by rw [add_block]; exact hbl)]; exact hcell
      have e1 : wr.cell? (ad1.add j) = some (fV c) := by rw [HT.out.cell (by rw [add_block]; exact hbl1)]; exact hcell1
      have HX := Lib.hid hx
      have HCc := Lib.hid hc
      have hq : (FloatKind.f32.format.order (flR .add .f32 s c wr) u == some .gt) = gtA (shareU k a b) (qSum x1 j) := by
        have := HGT.out (flR .add .f32 s c wr)
        rw [abs_flR .add rfl, hs.out, ← qSum_at hc] at this
        exact this
      have hk0 : (0 : Int) ≤ (j : Int) := by omega
      have hk1 : (j : Int) < (x0.length : Int) := by omega
      clear hx hc hcell hcell1
      cases h1 : (FloatKind.f32.format.order (flR .add .f32 s c wr) u == some .gt)
      · rw [h1] at hq
        have HQ := Lib.hid hq
        clear hq
        go_wp2
        go_roundw
        case rel => exact ⟨j + 1, _, by omega, by go_num, rfl, by unfold Hid; rw [absL_snoc HCc.out, sumF_snoc, abs_flR .add rfl, hs.out], (fun i hi => by rcases Nat.lt_succ_iff_lt_or_eq.1 hi with h | h; exact hno.out i h; rw [h]; exact HQ.out.symm), below_drewN_ hb⟩
        case measure => simp [intOf]; omega
      · rw [h1] at hq
        have HQ := Lib.hid hq
        clear hq
        have HQV := Lib.hid (qv_hit (p := gtA (shareU k a b)) (c := x1) HX.out hno.out HQ.out.symm)
        go_wp2
        have z0 := (box_drew E0 (flN .add .f32 s c)).cell 0 _ rfl
        have z1 := (box_drew E0 (flN .add .f32 s c)).cell 1 _ rfl
        have z2 := (box_drew E0 (flN .add .f32 s c)).cell 2 _ rfl
        have y0 := (box_drew E1 (flN .add .f32 s c)).cell 0 _ rfl
        have x2 := (box_drew E2 (flN .add .f32 s c)).cell 0 _ rfl
        have x3 := (box_drew E2 (flN .add .f32 s c)).cell 1 _ rfl
        have x4 := (box_drew E2 (flN .add .f32 s c)).cell 2 _ rfl
        have g0 := (box_drew E2 (flN .add .f32 s c)).free 0
        have g1 := (box_drew E2 (flN .add .f32 s c)).free 1
        have g2 := (box_drew E2 (flN .add .f32 s c)).free 2
        have t0 : (wr.drewN (flN .add .f32 s c)).cell? (ad.add j) = some (fV x) := e0
        have hzs := (box_drew E2 (flN .add .f32 s c)).lt
        have HTD := Lib.hid (below_drewN_ (n := flN .add .f32 s c) HT.out)
        generalize wr.drewN (flN .add .f32 s c) = ws at z0 z1 z2 y0 x2 x3 x4 g0 g1 g2 t0 hzs HTD ⊢
        have t1 := ((((Touch.setCell ws ⟨w.heap.size + 1 + 1, 0, none⟩ (.int .i64 k)).trans (Touch.setCell _ ⟨w.heap.size + 1 + 1, 1, none⟩ (u64V A'))).trans (Touch.setCell _ ⟨w.heap.size + 1 + 1, 2, none⟩ (u64V B'))).cell (p := ad.add j) (by rw [add_block]; omega) (by rw [add_block]; exact .inl (by dsimp only; omega))).trans t0
        have y1 := ((((Touch.setCell ws ⟨w.heap.size + 1 + 1, 0, none⟩ (.int .i64 k)).trans (Touch.setCell _ ⟨w.heap.size + 1 + 1, 1, none⟩ (u64V A'))).trans (Touch.setCell _ ⟨w.heap.size + 1 + 1, 2, none⟩ (u64V B'))).cell (p := ⟨w.heap.size + 1, 0, none⟩) (by dsimp only; omega) (by dsimp only; omega)).trans y0
        clear d0 d1 s0 s1 s2 r0 r1 r2 f0 f1 f2 e0 e1
        go_region
        all_goals
          go_wp2
          refine bodyPost_ret (v := .tuple #[sdV k A' B', fV x, .bool true]) (by simp [results, Tryz.results16, go_sem, *]) rfl (ss_yes Ho.out HA.out HB.out HQV.out ?_)
          exact (((HTD.out.setCell (by simp; omega) _).setCell (by simp; omega) _).setCell (by simp; omega) _).drew
    · have hke : j = x0.length := by omega
      obtain ⟨x, hx⟩ := get_of_lt (xs := x0) (k := x0.length - 1) (by omega)
      obtain ⟨ad, rfl, hbl, hcell⟩ := HA0.out _ x hx
      have t0 : wr.cell? (ad.add (x0.length - 1)) = some (fV x) := by rw [HT.out.cell (by rw [add_block]; exact hbl)]; exact hcell
      have HQV := Lib.hid (qv_none (p := gtA (shareU k a b)) (c := x1) hx (by rw [← hke]; exact hno.out))
      have hzs := E2.lt
      have h1 : (x0.length : Int) - 1 = ((x0.length - 1 : Nat) : Int) := by omega
      have h2 : IntKind.i64.wrap ((x0.length - 1 : Nat) : Int) = ((x0.length - 1 : Nat) : Int) := IntWalk.i64_in _ (by omega)
      have i0 : (0 : Int) ≤ ((x0.length - 1 : Nat) : Int) := by omega
      have i1 : ((x0.length - 1 : Nat) : Int) < (x0.length : Int) := by omega
      have HTD := Lib.hid HT.out
      have t1 := ((((Touch.setCell wr ⟨w.heap.size + 1 + 1, 0, none⟩ (.int .i64 k)).trans (Touch.setCell _ ⟨w.heap.size + 1 + 1, 1, none⟩ (u64V A'))).trans (Touch.setCell _ ⟨w.heap.size + 1 + 1, 2, none⟩ (u64V B'))).cell (p := ad.add (x0.length - 1)) (by rw [add_block]; omega) (by rw [add_block]; exact .inl (by dsimp only; omega))).trans t0
      have y1 := ((((Touch.setCell wr ⟨w.heap.size + 1 + 1, 0, none⟩ (.int .i64 k)).trans (Touch.setCell _ ⟨w.heap.size + 1 + 1, 1, none⟩ (u64V A'))).trans (Touch.setCell _ ⟨w.heap.size + 1 + 1, 2, none⟩ (u64V B'))).cell (p := ⟨w.heap.size + 1, 0, none⟩) (by dsimp only; omega) (by dsimp only; omega)).trans d0
      clear hx hcell hke
      go_wp2
      go_region
      all_goals
          go_wp2
          refine bodyPost_ret (v := .tuple #[sdV k A' B', fV x, .bool true]) (by simp [results, Tryz.results16, go_sem, *]) rfl (ss_yes Ho.out HA.out HB.out HQV.out ?_)
          exact (((HTD.out.setCell (by simp; omega) _).setCell (by simp; omega) _).setCell (by simp; omega) _).drew
end
end Go.Proofs.YtjajlddnhmbekaaGreat
