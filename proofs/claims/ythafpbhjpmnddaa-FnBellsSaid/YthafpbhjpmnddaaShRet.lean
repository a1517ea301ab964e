/-
  Functions that give a share back: what they return, by name; impl.checkedShare, impl.countsFrom0; shares by what their words stand for.
-/
import Derived.Test.YthafpbhjpmnddaaMean
import Derived.Test.YthafpbhjpmnddaaApp
namespace Go.Proofs.Ythafpbhjpmnddaa
open Go.RowKit
attribute [local go_sem] run_fl_add run_fl_sub run_fl_mul run_fl_quo run_up_

def leastA : Option Nat → Bool | none => false | some b => leastB b
theorem least_abs (b : Nat) : leastB b = leastA (absF .f32 b) := by
  cases h : (FloatKind.f32.decode b).isNaN
  · rw [absF_of h]; rfl
  · rw [absF_nan h]
    have : finB b = false := by rw [fin_abs, absF_nan h]; rfl
    unfold leastB
    rw [this]; rfl
/-- A share by its values and by what its chances stand for. -/
def shareAB (v : List Nat) (C : List (Option Nat)) : Bool := decide (1 ≤ v.length ∧ v.length ≤ 64) && decide (C.length = v.length) && v.all finB && riseTo v v.length && (C.all leastA && nearA (sumF C))
theorem shareB_abs (v c : List Nat) : shareB v c = shareAB v (absL c) := by
  have h : c.all leastB = (absL c).all leastA := by
    unfold absL
    rw [List.all_map]
    congr 1
    funext b
    exact least_abs b
  unfold shareB shareAB
  rw [h, show (absL c).length = c.length by simp [absL]]
/-- What a function that gives a share back returns: rows of its own, apart; none where there is no share. -/
def RetSh (ok : Bool) (V C : List (Option Nat)) (w : World) (e : Ending) (w' : World) : Prop :=
  ∃ v0 y0 v1 y1, e = .returned (.tuple #[shV v0 v1, .bool ok]) ∧ Own fV 24 w' w.heap.size v0 y0 ∧ Own fV 24 w' w.heap.size v1 y1 ∧ (v0.ownBlock = none ∨ v0.ownBlock ≠ v1.ownBlock) ∧ y0.length ≤ 1099511627 ∧ y1.length ≤ 1099511627 ∧
    absL y0 = (if ok then V else []) ∧ absL y1 = (if ok then C else []) ∧ Below w.heap.size w w'
theorem RetSh.none {V C : List (Option Nat)} {w w' : World} (hb : Below w.heap.size w w') : RetSh false V C w (.returned (.tuple #[shV (.slice none 0 0) (.slice none 0 0), .bool false])) w' :=
  ⟨_, [], _, [], rfl, Own.nil, Own.nil, .inl rfl, by simp, by simp, rfl, rfl, hb⟩
theorem Touch.drewN {lo hi : Nat} {a w : World} (h : Touch lo hi a w) (n : Nat) : Touch lo hi a (w.drewN n) := ⟨h.os, h.tape, h.output, h.size, h.block⟩
theorem Touch.refl (lo hi : Nat) (w : World) : Touch lo hi w w := ⟨rfl, rfl, rfl, Nat.le_refl _, fun _ _ _ => rfl⟩

/-- One of two values. -/
def chkV (b : Bool) (x y : Value) : Value := if b then x else y

theorem checkedShare_any (s0 : Value) (x0 : List Nat) (s1 : Value) (x1 : List Nat) (hn0 : x0.length ≤ 1099511627776) (hn1 : x1.length ≤ 1099511627776) (w : World) (hr0 : Rd fV w s0 x0) (hr1 : Rd fV w s1 x1) :
    Calls Try.prog 17 #[shV s0 s1] w fun e w' => e = .returned (.tuple #[chkV (shareB x0 x1) (shV s0 s1) (shV (.slice none 0 0) (.slice none 0 0)), .bool (shareB x0 x1)]) ∧ Below w.heap.size w w' := by
  have HR0 := Lib.hid hr0
  obtain ⟨A0, cap0, rfl, hcap0, hA0⟩ := hr0
  have HA0 := Lib.hid hA0
  clear hA0
  have HR1 := Lib.hid hr1
  obtain ⟨A1, cap1, rfl, hcap1, hA1⟩ := hr1
  have HA1 := Lib.hid hA1
  clear hA1
  go_enter Try.func17, Try.ntmps17
  go_wp2_with fail
  have B0 : BoxAt ((w.alloc (.cells ([.slice A0 x0.length cap0, .slice A1 x1.length cap1] : List Value).toArray 32)).alloc (.cells ([.slice none 0 0, .slice none 0 0] : List Value).toArray 32)) w.heap.size [.slice A0 x0.length cap0, .slice A1 x1.length cap1] := (BoxAt.new w _ _).alloc _
  have B1 : BoxAt ((w.alloc (.cells ([.slice A0 x0.length cap0, .slice A1 x1.length cap1] : List Value).toArray 32)).alloc (.cells ([.slice none 0 0, .slice none 0 0] : List Value).toArray 32)) (w.heap.size + 1) [.slice none 0 0, .slice none 0 0] := by
    have := BoxAt.new (w.alloc (.cells ([.slice A0 x0.length cap0, .slice A1 x1.length cap1] : List Value).toArray 32)) [.slice none 0 0, .slice none 0 0] 32
    rwa [size_alloc] at this
  have hT : Below w.heap.size w ((w.alloc (.cells ([.slice A0 x0.length cap0, .slice A1 x1.length cap1] : List Value).toArray 32)).alloc (.cells ([.slice none 0 0, .slice none 0 0] : List Value).toArray 32)) := ((Below.refl _ _).alloc (Nat.le_refl _) _).alloc (by simp) _
  generalize hg : (w.alloc _).alloc _ = W0 at *
  clear hg
  refine (implValidShare_any _ x0 _ x1 hn0 hn1 _ (HR0.out.below hT) (HR1.out.below hT)).mono ?_
  rintro e w1 ⟨rfl, hb⟩
  replace B0 := B0.below hb
  replace B1 := B1.below hb
  replace hT := below_to hT hb hT.size
  clear hb
  cases hs : shareB x0 x1
  all_goals
    have HS := Lib.hid hs
    clear hs
    have c0 := B0.cell 0 _ rfl
    have c1 := B0.cell 1 _ rfl
    have d0 := B1.cell 0 _ rfl
    have d1 := B1.cell 1 _ rfl
    have f0 := B1.free 0
    have f1 := B1.free 1
    have HT := Lib.hid hT
    clear hT
    go_wp2
    first
      | (refine bodyPost_ret (v := .tuple #[shV (.slice none 0 0) (.slice none 0 0), .bool false]) (by simp [results, Try.results17, go_sem, *]) rfl ⟨by rw [HS.out]; rfl, ?_⟩
         exact (HT.out.setCell (by simp) _).setCell (by simp) _)
      | (refine bodyPost_ret (v := .tuple #[shV (.slice A0 x0.length cap0) (.slice A1 x1.length cap1), .bool true]) (by simp [results, Try.results17, go_sem, *]) rfl ⟨by rw [HS.out]; rfl, ?_⟩
         exact (HT.out.setCell (by simp) _).setCell (by simp) _)

/-- The numbers from 0 to n - 1 as words. -/
def cntL (n : Nat) : List Nat := (List.range n).map fun (i : Nat) => floatOfInt .f32 (i : Int)
theorem cntL_succ (n : Nat) : cntL (n + 1) = cntL n ++ [floatOfInt .f32 (n : Int)] := by simp [cntL, List.range_succ]
theorem cntL_len (n : Nat) : (cntL n).length = n := by simp [cntL]
theorem countsFrom0_any (N : Nat) (hN : N ≤ 1000) (w : World) :
    Calls Try.prog 18 #[.int .i64 N] w fun e w' => ∃ v', e = .returned v' ∧ Own fV 24 w' w.heap.size v' (cntL (N + 1)) ∧ Below w.heap.size w w' := by
  go_enter Try.func18, Try.ntmps18
  go_wp2
  go_loopw [3, 8] (fun so si wr => ∃ k : Nat, k ≤ N + 1 ∧ si = .int .i64 k ∧ Own fV 24 wr w.heap.size so (cntL k) ∧ Below w.heap.size w wr) (fun _ si _ => N + 1 - (intOf si).toNat)
  case atStart => exact ⟨0, by omega, rfl, own_nil_new fV _ _, (Below.refl _ _).alloc (Nat.le_refl _) _⟩
  case round =>
    obtain ⟨k, hk, rfl, hown, hb⟩ := hrel
    by_cases hlt : k < N + 1
    · have hz := hb.size
      have hcl := cntL_len k
      have Hcl := Lib.hid hcl
      clear hcl
      go_wp2_with (at_builtin; go_loud (refine elF_.app (fun _ => rfl) _ rfl _ _ rfl w.heap.size _ (cntL k) rfl (Own.alloc hown _) _ _ rfl (rd_one fV _ _ _) (by omega) (by rw [Hcl.out]; simp; omega) (by simp; omega) ?_))
      intro v' w' ho hg hbb hp
      rw [← cntL_succ] at ho
      go_wp2
      go_roundw
      case rel => exact ⟨k + 1, by omega, by go_num, ho, (hb.alloc (by simpa using hz) _).trans hbb⟩
      case measure => simp [intOf]; omega
    · have hke : k = N + 1 := by omega
      have Hke := Lib.hid hke
      clear hke
      go_wp2
      go_ret
      exact ⟨_, rfl, by rw [← Hke.out]; exact hown, hb⟩
end Go.Proofs.Ythafpbhjpmnddaa
