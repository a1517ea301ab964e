/-
  SumShare, walked in the program and in the reference.
-/
import Derived.Test.YtkohhhmllekokaaSumP
import Derived.Test.YtkohhhmllekokaaAdd
import Derived.Test.YtkohhhmllekokaaCloneF
import Derived.Test.YtkohhhmllekokaaWithin
import Derived.Test.YtkohhhmllekokaaOrdT
import Derived.Deep.DeepCutAuto
import Derived.Deep.RegionHeld3
namespace Go.Proofs.Ytkohhhmllekokaa
open Go.RowKit

/-- A variable that holds two rows which nothing else holds. -/
def Held (x0 x1 : List Nat) (w1 wx : World) (sp : Value) : Prop :=
  ∃ S v0 v1, sp = .pointer (some ⟨S, 0, none⟩) ∧ Grow wx w1.heap.size S v0 v1 x0 x1 ∧ Below w1.heap.size w1 wx ∧ w1.heap.size ≤ S
section
variable {wr wA wB : World} {vA vB : Value} {xs ys : List Nat} {T : TypeId}
theorem held_last (hbA : Below wr.drew.heap.size wr.drew wA) (oA : Own fV 25 wA wr.drew.heap.size vA xs) (hbB : Below wA.heap.size wA wB) (oB : Own fV 25 wB wA.heap.size vB ys) :
    Held xs ys wr (wB.alloc (.cells #[vA, vB] T)) (.pointer (some ⟨wB.heap.size, 0, none⟩)) := by
  obtain ⟨h1, h2, h3⟩ := grow_last (T := T) hbA oA hbB oB
  exact ⟨_, _, _, rfl, h1, h2, h3⟩
theorem held_first {o : Obj} (hbA : Below (wr.alloc o).drew.heap.size (wr.alloc o).drew wA) (oA : Own fV 25 wA (wr.alloc o).drew.heap.size vA xs) (hbB : Below wA.heap.size wA wB) (oB : Own fV 25 wB wA.heap.size vB ys) (KC : BoxAt wB wr.heap.size [.slice none 0 0, .slice none 0 0]) :
    Held xs ys wr ((wB.setCell ⟨wr.heap.size, 0, none⟩ vA).setCell ⟨wr.heap.size, 1, none⟩ vB) (.pointer (some ⟨wr.heap.size, 0, none⟩)) := by
  obtain ⟨h1, h2, h3⟩ := grow_first hbA oA hbB oB KC
  exact ⟨_, _, _, rfl, h1, h2, h3⟩
theorem held_mid {o : Obj} (hbA : Below wr.drew.heap.size wr.drew wA) (oA : Own fV 25 wA wr.drew.heap.size vA xs) (hbB : Below (wA.alloc o).heap.size (wA.alloc o) wB) (oB : Own fV 25 wB (wA.alloc o).heap.size vB ys) (KC : BoxAt wB wA.heap.size [.slice none 0 0, .slice none 0 0]) :
    Held xs ys wr ((wB.setCell ⟨wA.heap.size, 0, none⟩ vA).setCell ⟨wA.heap.size, 1, none⟩ vB) (.pointer (some ⟨wA.heap.size, 0, none⟩)) := by
  obtain ⟨h1, h2, h3⟩ := grow_mid hbA oA hbB oB KC
  exact ⟨_, _, _, rfl, h1, h2, h3⟩
end
/-- Two rows in the making, and perhaps the variable for them. -/
structure Q3 (base : Nat) (w : World) (vA : Value) (xA : List Nat) (vB : Value) (xB : List Nat) (S : Option Nat) : Prop where
  oA : Own fV 25 w base vA xA
  oB : Own fV 25 w base vB xB
  ap : vA.ownBlock = none ∨ vA.ownBlock ≠ vB.ownBlock
  box : ∀ s, S = some s → BoxAt w s [.slice none 0 0, .slice none 0 0] ∧ vA.ownBlock ≠ some s ∧ vB.ownBlock ≠ some s ∧ base ≤ s
section
variable {base : Nat} {w w' : World} {vA vB v' : Value} {xA xB ys : List Nat} {S : Option Nat}
theorem Q3.nil (base : Nat) (w : World) : Q3 base w (.slice none 0 0) [] (.slice none 0 0) [] none := ⟨Own.nil, Own.nil, .inl rfl, fun s h => by cases h⟩
theorem Q3.makeA (h : Q3 base w vA xA vB xB S) (hb : base ≤ w.heap.size) : Q3 base (w.alloc (.cells #[] 25)) (.slice (some ⟨w.heap.size, 0, none⟩) 0 0) [] vB xB S := by
  refine ⟨(own_nil_new fV w _).base_ hb, h.oB.alloc _, .inr fun e => ?_, fun s hs => ?_⟩
  · have h9 := (h.oB.lt _ e.symm).2; simp at h9
  · obtain ⟨k1, k2, k3, k4⟩ := h.box s hs
    exact ⟨k1.alloc _, fun e => by have hl := k1.lt; simp [Value.ownBlock] at e; omega, k3, k4⟩
theorem Q3.makeB (h : Q3 base w vA xA vB xB S) (hb : base ≤ w.heap.size) : Q3 base (w.alloc (.cells #[] 25)) vA xA (.slice (some ⟨w.heap.size, 0, none⟩) 0 0) [] S := by
  refine ⟨h.oA.alloc _, (own_nil_new fV w _).base_ hb, .inr fun e => ?_, fun s hs => ?_⟩
  · have h9 := (h.oA.lt _ e).2; simp at h9
  · obtain ⟨k1, k2, k3, k4⟩ := h.box s hs
    exact ⟨k1.alloc _, k2, fun e => by have hl := k1.lt; simp [Value.ownBlock] at e; omega, k4⟩
theorem Q3.appA (h : Q3 base w vA xA vB xB S) (ho : Own fV 25 w' base v' ys) (hg : w.grownBy w' vA.ownBlock) (hp : v'.ownBlock = vA.ownBlock ∨ v'.ownBlock = some w.heap.size) : Q3 base w' v' ys vB xB S := by
  refine ⟨ho, h.oB.kept hg (apart_symm h.ap), own_apart h.oB h.ap (Nat.le_refl _) hp, fun s hs => ?_⟩
  obtain ⟨k1, k2, k3, k4⟩ := h.box s hs
  refine ⟨k1.kept hg k2, fun e => ?_, k3, k4⟩
  rcases hp with e' | e'
  · exact k2 (e'.symm.trans e)
  · have hl := k1.lt
    rw [e'] at e; injection e with e; omega
theorem Q3.appB (h : Q3 base w vA xA vB xB S) (ho : Own fV 25 w' base v' ys) (hg : w.grownBy w' vB.ownBlock) (hp : v'.ownBlock = vB.ownBlock ∨ v'.ownBlock = some w.heap.size) : Q3 base w' vA xA v' ys S := by
  refine ⟨h.oA.kept hg h.ap, ho, own_apart2 h.oA h.ap hp, fun s hs => ?_⟩
  obtain ⟨k1, k2, k3, k4⟩ := h.box s hs
  refine ⟨k1.kept hg k3, k2, fun e => ?_, k4⟩
  rcases hp with e' | e'
  · exact k3 (e'.symm.trans e)
  · have hl := k1.lt
    rw [e'] at e; injection e with e; omega
theorem Q3.room (h : Q3 base w vA xA vB xB none) (hb : base ≤ w.heap.size) (T : TypeId) : Q3 base (w.alloc (.cells #[.slice none 0 0, .slice none 0 0] T)) vA xA vB xB (some w.heap.size) := by
  refine ⟨h.oA.alloc _, h.oB.alloc _, h.ap, fun s hs => ?_⟩
  injection hs with hs
  subst hs
  exact ⟨BoxAt.new w [.slice none 0 0, .slice none 0 0] T, fun e => by have := (h.oA.lt _ e).2; omega, fun e => by have := (h.oB.lt _ e).2; omega, hb⟩
theorem Q3.held {w1 : World} {s : Nat} {x0 x1 : List Nat} (h : Q3 w1.heap.size w vA x0 vB x1 (some s)) (hb : Below w1.heap.size w1 w) : Held x0 x1 w1 ((w.setCell ⟨s, 0, none⟩ vA).setCell ⟨s, 1, none⟩ vB) (.pointer (some ⟨s, 0, none⟩)) := by
  obtain ⟨k1, k2, k3, k4⟩ := h.box s rfl
  exact ⟨s, vA, vB, rfl, ⟨(k1.set (i := 0) rfl vA).set (i := 1) rfl vB, Own.other (Own.other h.oA k2 _) k2 _, Own.other (Own.other h.oB k3 _) k3 _, k2, k3, h.ap⟩, (hb.setCell (p := ⟨s, 0, none⟩) k4 _).setCell (p := ⟨s, 1, none⟩) k4 _, k4⟩
end
/-- New rows take the place of the old ones. -/
theorem grow_put {w5 w6 : World} {base S : Nat} {u0 u1 z0' z1' : Value} {z0 z1 : List Nat} (KB : BoxAt w6 S [z0', z1']) (o0 : Own fV 25 w6 w5.heap.size u0 z0) (o1 : Own fV 25 w6 w5.heap.size u1 z1) (ap : u0.ownBlock = none ∨ u0.ownBlock ≠ u1.ownBlock) (hS : S < w5.heap.size) (hb : base ≤ w5.heap.size) :
    Grow ((w6.setCell ⟨S, 0, none⟩ u0).setCell ⟨S, 1, none⟩ u1) base S u0 u1 z0 z1 := by
  have n0 : u0.ownBlock ≠ some S := fun e => by have := (o0.lt _ e).1; omega
  have n1 : u1.ownBlock ≠ some S := fun e => by have := (o1.lt _ e).1; omega
  exact ⟨(KB.set (i := 0) rfl u0).set (i := 1) rfl u1, Own.other (Own.other (o0.base_ hb) n0 _) n0 _, Own.other (Own.other (o1.base_ hb) n1 _) n1 _, n0, n1, ap⟩

set_option maxHeartbeats 3200000 in
set_option maxRecDepth 100000 in
theorem implSumShare_any (s0 : Value) (x0 : List Nat) (s1 : Value) (x1 : List Nat) (hn0 : x0.length ≤ 1099511627776) (hn1 : x1.length ≤ 1099511627776) (n : Int) (w : World) (hr0 : Rd fV w s0 x0) (hr1 : Rd fV w s1 x1) :
    Calls Try.prog 36 #[shV s0 s1, .int .i64 n] w (RetSumShare x0 x1 n w) := by
  have HR0 := Lib.hid hr0
  obtain ⟨A0, cap0, rfl, hcap0, hA0⟩ := hr0
  have HA0 := Lib.hid hA0
  clear hA0
  have HR1 := Lib.hid hr1
  obtain ⟨A1, cap1, rfl, hcap1, hA1⟩ := hr1
  have HA1 := Lib.hid hA1
  clear hA1
  go_enter Try.func36, Try.ntmps36
  go_wp2_with fail
  have B0 : BoxAt ((w.alloc (.cells ([.slice A0 x0.length cap0, .slice A1 x1.length cap1] : List Value).toArray 27)).alloc (.cells ([.slice none 0 0, .slice none 0 0] : List Value).toArray 27)) w.heap.size [.slice A0 x0.length cap0, .slice A1 x1.length cap1] := (BoxAt.new w _ _).alloc _
  have B1 : BoxAt ((w.alloc (.cells ([.slice A0 x0.length cap0, .slice A1 x1.length cap1] : List Value).toArray 27)).alloc (.cells ([.slice none 0 0, .slice none 0 0] : List Value).toArray 27)) (w.heap.size + 1) [.slice none 0 0, .slice none 0 0] := by
    have := BoxAt.new (w.alloc (.cells ([.slice A0 x0.length cap0, .slice A1 x1.length cap1] : List Value).toArray 27)) [.slice none 0 0, .slice none 0 0] 27
    rwa [size_alloc] at this
  have hT : Below w.heap.size w ((w.alloc (.cells ([.slice A0 x0.length cap0, .slice A1 x1.length cap1] : List Value).toArray 27)).alloc (.cells ([.slice none 0 0, .slice none 0 0] : List Value).toArray 27)) := ((Below.refl _ _).alloc (Nat.le_refl _) _).alloc (by simp) _
  have hW : w.heap.size + 2 ≤ ((w.alloc (.cells ([.slice A0 x0.length cap0, .slice A1 x1.length cap1] : List Value).toArray 27)).alloc (.cells ([.slice none 0 0, .slice none 0 0] : List Value).toArray 27)).heap.size := by simp
  generalize hg : (w.alloc _).alloc _ = W0 at *
  clear hg
  refine (implValidShare_any _ x0 _ x1 hn0 hn1 _ (HR0.out.below hT) (HR1.out.below hT)).mono ?_
  rintro e w1 ⟨rfl, hb⟩
  replace hW : w.heap.size + 2 ≤ w1.heap.size := Nat.le_trans hW hb.size
  replace B0 := B0.below hb
  replace B1 := B1.below hb
  replace hT := below_to hT hb hT.size
  clear hb
  cases hs : shareB x0 x1
  · have Ho := Lib.hid (sumOk_f (n := n) (show sumG x0 x1 n = false by unfold sumG; rw [hs]; rfl))
    clear hs
    have d0 := B1.cell 0 _ rfl
    have d1 := B1.cell 1 _ rfl
    have f0 := B1.free 0
    have f1 := B1.free 1
    have HT := Lib.hid hT
    clear hT
    go_wp2
    refine bodyPost_ret (v := .tuple #[shV (.slice none 0 0) (.slice none 0 0), .bool false]) (by simp [results, Try.results36, go_sem, *]) rfl ?_
    unfold RetSumShare
    rw [Ho.out]
    exact RetSh.none ((HT.out.setCell (by first | (simp; done) | (simp; omega)) _).setCell (by first | (simp; done) | (simp; omega)) _)
  have Hs := Lib.hid hs
  have hl := shareB_len hs
  have h64 : x0.length ≤ 64 := hl.1.2
  have h641 : x1.length ≤ 64 := by have := hl.2; omega
  clear hs hl
  go_wp2_with fail
  refine (within_any _ _ _ _).mono ?_
  rintro e w9 ⟨rfl, rfl⟩
  cases hin : inB n 1 16
  · have Ho := Lib.hid (sumOk_f (show sumG x0 x1 n = false by unfold sumG; rw [hin]; simp))
    clear hin
    have d0 := B1.cell 0 _ rfl
    have d1 := B1.cell 1 _ rfl
    have f0 := B1.free 0
    have f1 := B1.free 1
    have HT := Lib.hid hT
    clear hT
    go_wp2
    refine bodyPost_ret (v := .tuple #[shV (.slice none 0 0) (.slice none 0 0), .bool false]) (by simp [results, Try.results36, go_sem, *]) rfl ?_
    unfold RetSumShare
    rw [Ho.out]
    exact RetSh.none ((HT.out.setCell (by first | (simp; done) | (simp; omega)) _).setCell (by first | (simp; done) | (simp; omega)) _)
  have HG := Lib.hid (show sumG x0 x1 n = true by unfold sumG; rw [Hs.out, hin]; rfl)
  obtain ⟨hn1', hn16⟩ := inB_true hin
  clear hin
  obtain ⟨w2, rfl⟩ : ∃ w2, w2 = w1 := ⟨_, rfl⟩
  have c0 := B0.cell 0 _ rfl
  have c1 := B0.cell 1 _ rfl
  have hlt0 := B0.lt
  go_upto_region 3 with fail
  go_cut [6, 7] (fun sp so wx => Held x0 x1 w2 wx sp ∧ so = .bool true)
  case first =>
    go_region_held3 (fun w' => w'.cell? ⟨w.heap.size, 0, none⟩ = some (.slice A0 x0.length cap0) ∧ w'.cell? ⟨w.heap.size, 1, none⟩ = some (.slice A1 x1.length cap1))
      (first
        | go_keep
        | (refine ⟨?_, ?_⟩ <;> (rw [((below_to (below_to (Below.refl w2.heap.size w2).drew hbA (by simp)) hbB (by have q8 := hbA.size; simp at q8 ⊢; omega)).alloc (by have q8 := hbA.size; have q9 := hbB.size; simp at q8 q9 ⊢; omega) _).cell (by dsimp only; omega)]; assumption))
        | (refine ⟨?_, ?_⟩ <;> (rw [(((below_to ((Below.refl w2.heap.size w2).alloc (Nat.le_refl _) _).drew hbA (by simp)).trans (hbB.mono (by have q8 := hbA.size; simp at q8 ⊢; omega))).setCell (p := ⟨w2.heap.size, 0, none⟩) (Nat.le_refl _) _ |>.setCell (p := ⟨w2.heap.size, 1, none⟩) (Nat.le_refl _) _).cell (by dsimp only; omega)]; assumption))
        | (refine ⟨?_, ?_⟩ <;> (rw [(((below_to (Below.refl w2.heap.size w2).drew hbA (by simp)).alloc (by have q8 := hbA.size; simp at q8 ⊢; omega) _).trans (hbB.mono (by have q8 := hbA.size; simp at q8 ⊢; omega)) |>.setCell (p := ⟨wA.heap.size, 0, none⟩) (by have q8 := hbA.size; simp at q8 ⊢; omega) _ |>.setCell (p := ⟨wA.heap.size, 1, none⟩) (by have q8 := hbA.size; simp at q8 ⊢; omega) _).cell (by dsimp only; omega)]; assumption))
        | (go_split_ands; refine ⟨?_, ?_⟩ <;> (rw [hbB.cell (by have q9 := hbA.size; simp at q9 ⊢; omega)]; assumption))
        | (go_split_ands; refine ⟨?_, ?_⟩ <;> (rw [hbA.cell (by simp; omega)]; assumption)))
      (first
        | (go_at_call 63; refine (clone_any _ x0 (by omega) _ ?_).mono ?_; (exact HR0.out.below (by first | exact hT.drew | exact (hT.alloc hT.size _).drew)); rintro e wA ⟨vA, rfl, oA, hbA⟩; obtain ⟨gA, cA, rfl, -, -⟩ := oA.rd; (try have KB : BoxAt wA w2.heap.size [.slice none 0 0, .slice none 0 0] := ((BoxAt.new w2 _ _).below (Below.refl _ _).drew).below hbA))
        | (go_at_call 63; refine (clone_any _ x1 (by omega) _ ?_).mono ?_; (exact HR1.out.below (by first | exact below_to hT.drew hbA hT.size | exact below_to (hT.alloc hT.size _).drew hbA (by have := hT.size; simp; omega) | exact (below_to hT.drew hbA hT.size).alloc (by have := hT.size; have := hbA.size; simp at this; omega) _)); rintro e wB ⟨vB, rfl, oB, hbB⟩; obtain ⟨gB, cB, rfl, -, -⟩ := oB.rd; (try first | (have KC := KB.below hbB) | (have KC : BoxAt wB wA.heap.size [.slice none 0 0, .slice none 0 0] := (BoxAt.new wA _ _).below hbB)); (try (have k0 := KC.cell 0 _ rfl; have k1 := KC.cell 1 _ rfl; have k2 := KC.free 0; have k3 := KC.free 1))))
    all_goals (go_wp2_with fail)
    all_goals go_meet
    all_goals
      first
      | exact ⟨held_last hbA oA hbB oB, rfl⟩
      | exact ⟨held_mid hbA oA hbB oB KC, rfl⟩
      | exact ⟨held_first hbA oA hbB oB KC, rfl⟩
  obtain ⟨w3, hwc⟩ : ∃ W, W = wc := ⟨_, rfl⟩
  subst hwc
  obtain ⟨⟨S, v0, v1, rfl, hG, hb, hS⟩, rfl⟩ := hcut
  clear c0 c1 hlt0
  go_wp2
  go_loopw [7, 8] (fun so si wr => ∃ (j : Nat) (ok : Bool) (v0 v1 : Value) (y0 y1 : List Nat), (j : Int) + 1 ≤ n ∧ si = .int .i64 (j + 2) ∧ so = .bool ok ∧ SumSt x0 x1 ok j y0 y1 ∧ y0.length ≤ 1099511627 ∧ y1.length ≤ 1099511627 ∧ Grow wr w2.heap.size S v0 v1 y0 y1 ∧ Below w2.heap.size w2 wr) (fun _ si _ => 20 - (intOf si).toNat)
  case atStart => exact ⟨0, true, v0, v1, x0, x1, by omega, by first | rfl | go_num, rfl, sumSt_start Hs.out, by omega, by omega, hG, hb⟩
  case round =>
    clear hG hb
    obtain ⟨j, ok, v0, v1, y0, y1, hj, rfl, rfl, hst, hl0, hl1, hG, hb⟩ := hrel
    obtain ⟨E0, ce0, rfl, -, -⟩ := hG.o0.rd
    obtain ⟨E1, ce1, rfl, -, -⟩ := hG.o1.rd
    have hTr : Below w.heap.size w wr := hT.trans (hb.mono hT.size)
    have B1r := B1.below hb
    have hSl := hG.box.lt
    have g0 := hG.box.cell 0 _ rfl
    have g1 := hG.box.cell 1 _ rfl
    have r0 := B1r.cell 0 _ rfl
    have r1 := B1r.cell 1 _ rfl
    have f0 := B1r.free 0
    have f1 := B1r.free 1
    have hW' : w.heap.size + 1 < wr.heap.size := by have := hb.size; omega
    by_cases hlt : (j : Int) + 2 ≤ n
    · cases ok
      · obtain ⟨e1, e2, e3⟩ := sumSt_end HG.out hst hj (fun e => by cases e)
        have HF := Lib.hid (fun u v => retSh_stored (w := w) (w5 := w2) (b := w.heap.size + 1) hG.o0 hG.o1 hG.ap hl0 hl1 e2 e3 hTr (by omega) (by omega) hT.size u v)
        have HE1 := Lib.hid e1
        clear e1 e2 e3 hst hG hb hTr B1r hT B0 B1
        go_wp2
        refine bodyPost_ret (v := .tuple #[shV (.slice E0 y0.length ce0) (.slice E1 y1.length ce1), .bool false]) (by simp [results, Try.results36, go_sem, *]) rfl ?_
        unfold RetSumShare
        rw [HE1.out]
        exact HF.out _ _
      · obtain ⟨hs1, hs2⟩ := sumSt_t hst
        have B0r := B0.below hb
        have c0 := B0r.cell 0 _ rfl
        have c1 := B0r.cell 1 _ rfl
        have hlt0' : w.heap.size < wr.heap.size := by omega
        have HST := Lib.hid hst
        have HS2 := Lib.hid hs2
        clear hst hs1 hs2 B1r r0 r1 f0 f1
        go_wp2_with fail
        refine (implAddShares_any _ y0 _ y1 (by omega) (by omega) _ x0 _ x1 hn0 hn1 _ hG.o0.rd hG.o1.rd (HR0.out.below hTr) (HR1.out.below hTr)).mono ?_
        rintro e w6 ⟨u0, z0, u1, z1, rfl, o0, o1, ap, l0, l1, a0, a1, hb6⟩
        obtain ⟨F0, cf0, rfl, -, -⟩ := o0.rd
        obtain ⟨F1, cf1, rfl, -, -⟩ := o1.rd
        have HST2 := Lib.hid (sumSt_step Hs.out HST.out a0 a1)
        obtain ⟨OK, hOK⟩ : ∃ b, b = combOk (pairG true) y0 y1 x0 x1 := ⟨_, rfl⟩
        rw [← hOK] at HST2 ⊢
        have KB := hG.box.below hb6
        have HG2 := Lib.hid (grow_put (base := w2.heap.size) KB o0 o1 ap hSl hb.size)
        have HB6 := Lib.hid (((hb.trans (hb6.mono hb.size)).setCell (p := ⟨S, 0, none⟩) hS (.slice F0 z0.length cf0)).setCell (p := ⟨S, 1, none⟩) hS (.slice F1 z1.length cf1))
        have k0 := KB.cell 0 _ rfl
        have k1 := KB.cell 1 _ rfl
        have k2 := KB.free 0
        have k3 := KB.free 1
        have hS6 := KB.lt
        clear hOK a0 a1 o0 o1 ap KB B0r c0 c1 g0 g1 hG hTr hb6
        go_wp2
        go_roundw
        case rel => exact ⟨j + 1, OK, _, _, z0, z1, by omega, by go_num, by first | rfl | trivial, HST2.out, l0, l1, HG2.out, HB6.out⟩
        case measure => simp [intOf]; omega
    · obtain ⟨e1, e2, e3⟩ := sumSt_end HG.out hst hj (fun _ => by omega)
      have HF := Lib.hid (fun u v => retSh_stored (w := w) (w5 := w2) (b := w.heap.size + 1) hG.o0 hG.o1 hG.ap hl0 hl1 e2 e3 hTr (by omega) (by omega) hT.size u v)
      have HE1 := Lib.hid e1
      clear e1 e2 e3 hst hG hb hTr B1r hT B0 B1
      go_wp2
      refine bodyPost_ret (v := .tuple #[shV (.slice E0 y0.length ce0) (.slice E1 y1.length ce1), .bool ok]) (by simp [results, Try.results36, go_sem, *]) rfl ?_
      unfold RetSumShare
      rw [HE1.out]
      exact HF.out _ _

set_option maxHeartbeats 3200000 in
set_option maxRecDepth 100000 in
theorem specSumShare_any (s0 : Value) (x0 : List Nat) (s1 : Value) (x1 : List Nat) (hn0 : x0.length ≤ 1099511627776) (hn1 : x1.length ≤ 1099511627776) (n : Int) (w : World) (hr0 : Rd fV w s0 x0) (hr1 : Rd fV w s1 x1) :
    Calls Try.prog 35 #[shV s0 s1, .int .i64 n] w (RetSumShare x0 x1 n w) := by
  have HR0 := Lib.hid hr0
  obtain ⟨A0, cap0, rfl, hcap0, hA0⟩ := hr0
  have HA0 := Lib.hid hA0
  clear hA0
  have HR1 := Lib.hid hr1
  obtain ⟨A1, cap1, rfl, hcap1, hA1⟩ := hr1
  have HA1 := Lib.hid hA1
  clear hA1
  go_enter Try.func35, Try.ntmps35
  go_wp2_with fail
  have B0 : BoxAt ((w.alloc (.cells ([.slice A0 x0.length cap0, .slice A1 x1.length cap1] : List Value).toArray 27)).alloc (.cells ([.slice none 0 0, .slice none 0 0] : List Value).toArray 27)) w.heap.size [.slice A0 x0.length cap0, .slice A1 x1.length cap1] := (BoxAt.new w _ _).alloc _
  have B1 : BoxAt ((w.alloc (.cells ([.slice A0 x0.length cap0, .slice A1 x1.length cap1] : List Value).toArray 27)).alloc (.cells ([.slice none 0 0, .slice none 0 0] : List Value).toArray 27)) (w.heap.size + 1) [.slice none 0 0, .slice none 0 0] := by
    have := BoxAt.new (w.alloc (.cells ([.slice A0 x0.length cap0, .slice A1 x1.length cap1] : List Value).toArray 27)) [.slice none 0 0, .slice none 0 0] 27
    rwa [size_alloc] at this
  have hT : Below w.heap.size w ((w.alloc (.cells ([.slice A0 x0.length cap0, .slice A1 x1.length cap1] : List Value).toArray 27)).alloc (.cells ([.slice none 0 0, .slice none 0 0] : List Value).toArray 27)) := ((Below.refl _ _).alloc (Nat.le_refl _) _).alloc (by simp) _
  have hW : w.heap.size + 2 ≤ ((w.alloc (.cells ([.slice A0 x0.length cap0, .slice A1 x1.length cap1] : List Value).toArray 27)).alloc (.cells ([.slice none 0 0, .slice none 0 0] : List Value).toArray 27)).heap.size := by simp
  generalize hg : (w.alloc _).alloc _ = W0 at *
  clear hg
  refine (l05Is_any _ _ _ x0 x1 hn0 hn1 _ B0 (HR0.out.below hT) (HR1.out.below hT)).mono ?_
  rintro e w1 ⟨rfl, hb⟩
  replace hW : w.heap.size + 2 ≤ w1.heap.size := Nat.le_trans hW hb.size
  replace B0 := B0.below hb
  replace B1 := B1.below hb
  replace hT := below_to hT hb hT.size
  clear hb
  cases hs : shareB x0 x1
  · have Ho := Lib.hid (sumOk_f (n := n) (show sumG x0 x1 n = false by unfold sumG; rw [hs]; rfl))
    clear hs
    have d0 := B1.cell 0 _ rfl
    have d1 := B1.cell 1 _ rfl
    have f0 := B1.free 0
    have f1 := B1.free 1
    have HT := Lib.hid hT
    clear hT
    go_wp2
    refine bodyPost_ret (v := .tuple #[shV (.slice none 0 0) (.slice none 0 0), .bool false]) (by simp [results, Try.results35, go_sem, *]) rfl ?_
    unfold RetSumShare
    rw [Ho.out]
    exact RetSh.none ((HT.out.setCell (by first | (simp; done) | (simp; omega)) _).setCell (by first | (simp; done) | (simp; omega)) _)
  have Hs := Lib.hid hs
  have hl := shareB_len hs
  have h64 : x0.length ≤ 64 := hl.1.2
  have h641 : x1.length ≤ 64 := by have := hl.2; omega
  clear hs hl
  go_wp2_with fail
  refine (l00In_any _ _ _ _).mono ?_
  rintro e w9 ⟨rfl, rfl⟩
  cases hin : inB n 1 16
  · have Ho := Lib.hid (sumOk_f (show sumG x0 x1 n = false by unfold sumG; rw [hin]; simp))
    clear hin
    have d0 := B1.cell 0 _ rfl
    have d1 := B1.cell 1 _ rfl
    have f0 := B1.free 0
    have f1 := B1.free 1
    have HT := Lib.hid hT
    clear hT
    go_wp2
    refine bodyPost_ret (v := .tuple #[shV (.slice none 0 0) (.slice none 0 0), .bool false]) (by simp [results, Try.results35, go_sem, *]) rfl ?_
    unfold RetSumShare
    rw [Ho.out]
    exact RetSh.none ((HT.out.setCell (by first | (simp; done) | (simp; omega)) _).setCell (by first | (simp; done) | (simp; omega)) _)
  have HG := Lib.hid (show sumG x0 x1 n = true by unfold sumG; rw [Hs.out, hin]; rfl)
  obtain ⟨hn1', hn16⟩ := inB_true hin
  clear hin
  obtain ⟨w2, rfl⟩ : ∃ w2, w2 = w1 := ⟨_, rfl⟩
  have c0 := B0.cell 0 _ rfl
  have c1 := B0.cell 1 _ rfl
  have hlt0 := B0.lt
  have hx0 : 0 < x0.length := by have := (shareB_len Hs.out).1.1; omega
  have hx1 : 0 < x1.length := by have := (shareB_len Hs.out); omega
  go_upto_region 3 with fail
  go_cut [6] (fun sp wx => Held x0 x1 w2 wx sp)
  case first =>
    refine wp_region_T (S4 ⟨w.heap.size, 0, none⟩ ⟨w.heap.size, 1, none⟩ ⟨w.heap.size, 0, none⟩ ⟨w.heap.size, 1, none⟩ (.slice A0 x0.length cap0) (.slice A1 x1.length cap1) (.slice A0 x0.length cap0) (.slice A1 x1.length cap1)) [] (by kernel_rfl) ⟨c0, c1, c0, c1⟩ (fun hS1 => ?_)
    simp only [List.size_toArray, List.length_cons, List.length_nil, Nat.reduceAdd]
    refine wpAnyT_takeY (i := 1) (v := ?_) rfl (by kernel_rfl) (by kernel_rfl) (by kernel_rfl) (fun _ _ _ h => h) (Or.inl ⟨by rfl, ?_⟩) ?_
    rotate_left
    · intro wq; first | (go_simp; done) | (go_simp; with_reducible rfl)
    repeat (first | simp only [List.getElem_toArray] | simp only [List.getElem_cons_succ] | simp only [List.getElem_cons_zero] | simp only [Act.put] | simp only [List.setIfInBounds_toArray] | simp only [List.set_cons_succ] | simp only [List.set_cons_zero])
    refine wpAnyT_take (i := 2) (v := (.slice A0 x0.length cap0)) rfl (by kernel_rfl) (by kernel_rfl) (by kernel_rfl) (by kernel_rfl) (by kernel_rfl) (fun _ _ _ h => h) (Or.inl ⟨by rfl, ?_⟩) hS1 ?_
    · intro wq hq; have q0 := hq.c0; have q1 := hq.c1; clear hq; go_simp
    repeat (first | simp only [List.getElem_toArray] | simp only [List.getElem_cons_succ] | simp only [List.getElem_cons_zero] | simp only [Act.put] | simp only [List.setIfInBounds_toArray] | simp only [List.set_cons_succ] | simp only [List.set_cons_zero])
    refine wpAnyT_takeY (i := 5) (v := ?_) rfl (by kernel_rfl) (by kernel_rfl) (by kernel_rfl) (fun _ _ _ h => h) (Or.inl ⟨by rfl, ?_⟩) ?_
    rotate_left
    · intro wq; first | (go_simp; done) | (go_simp; with_reducible rfl)
    repeat (first | simp only [List.getElem_toArray] | simp only [List.getElem_cons_succ] | simp only [List.getElem_cons_zero] | simp only [Act.put] | simp only [List.setIfInBounds_toArray] | simp only [List.set_cons_succ] | simp only [List.set_cons_zero])
    refine wpAnyT_take (i := 6) (v := (.slice A1 x1.length cap1)) rfl (by kernel_rfl) (by kernel_rfl) (by kernel_rfl) (by kernel_rfl) (by kernel_rfl) (fun _ _ _ h => h) (Or.inl ⟨by rfl, ?_⟩) hS1 ?_
    · intro wq hq; have q0 := hq.c0; have q1 := hq.c1; clear hq; go_simp
    repeat (first | simp only [List.getElem_toArray] | simp only [List.getElem_cons_succ] | simp only [List.getElem_cons_zero] | simp only [Act.put] | simp only [List.setIfInBounds_toArray] | simp only [List.set_cons_succ] | simp only [List.set_cons_zero])
    have BW : Below w2.heap.size w2 w2.drew := (Below.refl _ _).drew
    have zb : w2.heap.size ≤ w2.drew.heap.size := Nat.le_refl _
    have HQ := Q3.nil w2.heap.size w2.drew
    clear hS1 c0 c1
    generalize w2.drew = d0 at BW zb HQ ⊢
    refine wpAnyT_ready (rs := [0, 4, 9]) (by kernel_rfl) (by simp) ?_
    refine AllT.cons rfl (fun K hK => ?_) (AllT.cons rfl (fun K hK => ?_) (AllT.cons rfl (fun K hK => ?_) AllT.nil))
    · go_simp
      refine hK.out _ _ (fun h _ => h.below' (below_alloc d0 _) (by dsimp only; omega) (by dsimp only; omega) (by dsimp only; omega) (by dsimp only; omega)) ?_
      clear hK K
      repeat (first | simp only [List.getElem_toArray] | simp only [List.getElem_cons_succ] | simp only [List.getElem_cons_zero] | simp only [Act.put] | simp only [List.setIfInBounds_toArray] | simp only [List.set_cons_succ] | simp only [List.set_cons_zero])
      replace HQ := HQ.makeA zb
      obtain ⟨g1, hg1⟩ : ∃ g, g = d0.heap.size := ⟨_, rfl⟩
      rw [← hg1] at HQ ⊢
      replace BW := BW.alloc zb (.cells #[] 25)
      clear zb hg1
      generalize d0.alloc (.cells #[] 25) = d1 at *
      have zb : w2.heap.size ≤ d1.heap.size := BW.size
      refine wpAnyT_ready (rs := [3, 4, 9]) (by kernel_rfl) (by simp) ?_
      refine AllT.cons rfl (fun K hK => ?_) (AllT.cons rfl (fun K hK => ?_) (AllT.cons rfl (fun K hK => ?_) AllT.nil))
      · refine elF_.app_step (f := fV) (fun _ => rfl) _ (by rfl) _ _ (by rfl) (w2.heap.size) (.slice (some ⟨g1, 0, none⟩) 0 0) [] (by rfl) HQ.oA _ x0 (by rfl) (HR0.out.below (hT.trans (BW.mono hT.size))) (by omega) (by first | omega | (simp; omega)) zb ?_
        intro v2 d2 ho2 hg2 hbb2 hp2
        obtain ⟨g2, c2, rfl, -, -, -⟩ := ho2.form (by simp; omega)
        simp only [List.nil_append] at ho2 hp2 ⊢
        refine hK.out _ _ (fun h _ => h.below' hbb2 (by dsimp only; omega) (by dsimp only; omega) (by dsimp only; omega) (by dsimp only; omega)) ?_
        clear hK K
        repeat (first | simp only [List.getElem_toArray] | simp only [List.getElem_cons_succ] | simp only [List.getElem_cons_zero] | simp only [Act.put] | simp only [List.setIfInBounds_toArray] | simp only [List.set_cons_succ] | simp only [List.set_cons_zero])
        replace HQ := HQ.appA ho2 hg2 hp2
        replace BW := BW.trans hbb2
        clear ho2 hg2 hp2 hbb2 zb
        have zb : w2.heap.size ≤ d2.heap.size := BW.size
        refine wpAnyT_ready (rs := [4, 9]) (by kernel_rfl) (by simp) ?_
        refine AllT.cons rfl (fun K hK => ?_) (AllT.cons rfl (fun K hK => ?_) AllT.nil)
        · go_simp
          refine hK.out _ _ (fun h _ => h.below' (below_alloc d2 _) (by dsimp only; omega) (by dsimp only; omega) (by dsimp only; omega) (by dsimp only; omega)) ?_
          clear hK K
          repeat (first | simp only [List.getElem_toArray] | simp only [List.getElem_cons_succ] | simp only [List.getElem_cons_zero] | simp only [Act.put] | simp only [List.setIfInBounds_toArray] | simp only [List.set_cons_succ] | simp only [List.set_cons_zero])
          replace HQ := HQ.makeB zb
          obtain ⟨g3, hg3⟩ : ∃ g, g = d2.heap.size := ⟨_, rfl⟩
          rw [← hg3] at HQ ⊢
          replace BW := BW.alloc zb (.cells #[] 25)
          clear zb hg3
          generalize d2.alloc (.cells #[] 25) = d3 at *
          have zb : w2.heap.size ≤ d3.heap.size := BW.size
          refine wpAnyT_ready (rs := [7, 9]) (by kernel_rfl) (by simp) ?_
          refine AllT.cons rfl (fun K hK => ?_) (AllT.cons rfl (fun K hK => ?_) AllT.nil)
          · refine elF_.app_step (f := fV) (fun _ => rfl) _ (by rfl) _ _ (by rfl) (w2.heap.size) (.slice (some ⟨g3, 0, none⟩) 0 0) [] (by rfl) HQ.oB _ x1 (by rfl) (HR1.out.below (hT.trans (BW.mono hT.size))) (by omega) (by first | omega | (simp; omega)) zb ?_
            intro v4 d4 ho4 hg4 hbb4 hp4
            obtain ⟨g4, c4, rfl, -, -, -⟩ := ho4.form (by simp; omega)
            simp only [List.nil_append] at ho4 hp4 ⊢
            refine hK.out _ _ (fun h _ => h.below' hbb4 (by dsimp only; omega) (by dsimp only; omega) (by dsimp only; omega) (by dsimp only; omega)) ?_
            clear hK K
            repeat (first | simp only [List.getElem_toArray] | simp only [List.getElem_cons_succ] | simp only [List.getElem_cons_zero] | simp only [Act.put] | simp only [List.setIfInBounds_toArray] | simp only [List.set_cons_succ] | simp only [List.set_cons_zero])
            replace HQ := HQ.appB ho4 hg4 hp4
            replace BW := BW.trans hbb4
            clear ho4 hg4 hp4 hbb4 zb
            have zb : w2.heap.size ≤ d4.heap.size := BW.size
            refine wpAnyT_takeY (i := 8) (v := ?_) rfl (by kernel_rfl) (by kernel_rfl) (by kernel_rfl) (fun _ _ _ h => h) (Or.inl ⟨by rfl, ?_⟩) ?_
            rotate_left
            · intro wq; first | (go_simp; done) | (go_simp; with_reducible rfl)
            repeat (first | simp only [List.getElem_toArray] | simp only [List.getElem_cons_succ] | simp only [List.getElem_cons_zero] | simp only [Act.put] | simp only [List.setIfInBounds_toArray] | simp only [List.set_cons_succ] | simp only [List.set_cons_zero])
            refine wpAnyT_ready (rs := [9]) (by kernel_rfl) (by simp) ?_
            refine AllT.cons rfl (fun K hK => ?_) AllT.nil
            go_simp
            refine hK.out _ _ (fun h _ => h.below' (below_alloc d4 _) (by dsimp only; omega) (by dsimp only; omega) (by dsimp only; omega) (by dsimp only; omega)) ?_
            clear hK K
            repeat (first | simp only [List.getElem_toArray] | simp only [List.getElem_cons_succ] | simp only [List.getElem_cons_zero] | simp only [Act.put] | simp only [List.setIfInBounds_toArray] | simp only [List.set_cons_succ] | simp only [List.set_cons_zero])
            replace HQ := HQ.room zb 27
            obtain ⟨g5, hg5⟩ : ∃ g, g = d4.heap.size := ⟨_, rfl⟩
            rw [← hg5] at HQ ⊢
            replace BW := BW.alloc zb (.cells #[.slice none 0 0, .slice none 0 0] 27)
            clear zb hg5
            generalize d4.alloc (.cells #[.slice none 0 0, .slice none 0 0] 27) = d5 at *
            have zb : w2.heap.size ≤ d5.heap.size := BW.size
            refine wpAnyT_ready (rs := [10]) (by kernel_rfl) (by simp) ?_
            refine AllT.cons rfl (fun K hK => ?_) AllT.nil
            obtain ⟨KB, -, -, hS⟩ := HQ.box _ rfl
            have k0 := KB.cell 0 _ rfl
            have k1 := KB.cell 1 _ rfl
            have k2 := KB.free 0
            have k3 := KB.free 1
            have hSl := KB.lt
            have HH := Lib.hid (HQ.held BW)
            clear HQ KB
            go_simp
            refine hK.out _ _ (fun h _ => h.below' (B := w2.heap.size) (((Below.refl _ _).setCell (p := ⟨g5, 0, none⟩) hS _).setCell (p := ⟨g5, 1, none⟩) hS _) (by dsimp only; omega) (by dsimp only; omega) (by dsimp only; omega) (by dsimp only; omega)) ?_
            clear hK K
            repeat (first | simp only [List.getElem_toArray] | simp only [List.getElem_cons_succ] | simp only [List.getElem_cons_zero] | simp only [Act.put] | simp only [List.setIfInBounds_toArray] | simp only [List.set_cons_succ] | simp only [List.set_cons_zero])
            refine wpAnyT_done (by kernel_rfl) ?_ _
            clear k0 k1 k2 k3
            go_wp2_with fail
            go_meet
            exact HH.out
          · go_simp
            refine hK.out _ _ (fun h _ => h.below' (below_alloc d3 _) (by dsimp only; omega) (by dsimp only; omega) (by dsimp only; omega) (by dsimp only; omega)) ?_
            clear hK K
            repeat (first | simp only [List.getElem_toArray] | simp only [List.getElem_cons_succ] | simp only [List.getElem_cons_zero] | simp only [Act.put] | simp only [List.setIfInBounds_toArray] | simp only [List.set_cons_succ] | simp only [List.set_cons_zero])
            replace HQ := HQ.room zb 27
            obtain ⟨g6, hg6⟩ : ∃ g, g = d3.heap.size := ⟨_, rfl⟩
            rw [← hg6] at HQ ⊢
            replace BW := BW.alloc zb (.cells #[.slice none 0 0, .slice none 0 0] 27)
            clear zb hg6
            generalize d3.alloc (.cells #[.slice none 0 0, .slice none 0 0] 27) = d6 at *
            have zb : w2.heap.size ≤ d6.heap.size := BW.size
            refine wpAnyT_ready (rs := [7]) (by kernel_rfl) (by simp) ?_
            refine AllT.cons rfl (fun K hK => ?_) AllT.nil
            refine elF_.app_step (f := fV) (fun _ => rfl) _ (by rfl) _ _ (by rfl) (w2.heap.size) (.slice (some ⟨g3, 0, none⟩) 0 0) [] (by rfl) HQ.oB _ x1 (by rfl) (HR1.out.below (hT.trans (BW.mono hT.size))) (by omega) (by first | omega | (simp; omega)) zb ?_
            intro v7 d7 ho7 hg7 hbb7 hp7
            obtain ⟨g7, c7, rfl, -, -, -⟩ := ho7.form (by simp; omega)
            simp only [List.nil_append] at ho7 hp7 ⊢
            refine hK.out _ _ (fun h _ => h.below' hbb7 (by dsimp only; omega) (by dsimp only; omega) (by dsimp only; omega) (by dsimp only; omega)) ?_
            clear hK K
            repeat (first | simp only [List.getElem_toArray] | simp only [List.getElem_cons_succ] | simp only [List.getElem_cons_zero] | simp only [Act.put] | simp only [List.setIfInBounds_toArray] | simp only [List.set_cons_succ] | simp only [List.set_cons_zero])
            replace HQ := HQ.appB ho7 hg7 hp7
            replace BW := BW.trans hbb7
            clear ho7 hg7 hp7 hbb7 zb
            have zb : w2.heap.size ≤ d7.heap.size := BW.size
            refine wpAnyT_takeY (i := 8) (v := ?_) rfl (by kernel_rfl) (by kernel_rfl) (by kernel_rfl) (fun _ _ _ h => h) (Or.inl ⟨by rfl, ?_⟩) ?_
            rotate_left
            · intro wq; first | (go_simp; done) | (go_simp; with_reducible rfl)
            repeat (first | simp only [List.getElem_toArray] | simp only [List.getElem_cons_succ] | simp only [List.getElem_cons_zero] | simp only [Act.put] | simp only [List.setIfInBounds_toArray] | simp only [List.set_cons_succ] | simp only [List.set_cons_zero])
            refine wpAnyT_ready (rs := [10]) (by kernel_rfl) (by simp) ?_
            refine AllT.cons rfl (fun K hK => ?_) AllT.nil
            obtain ⟨KB, -, -, hS⟩ := HQ.box _ rfl
            have k0 := KB.cell 0 _ rfl
            have k1 := KB.cell 1 _ rfl
            have k2 := KB.free 0
            have k3 := KB.free 1
            have hSl := KB.lt
            have HH := Lib.hid (HQ.held BW)
            clear HQ KB
            go_simp
            refine hK.out _ _ (fun h _ => h.below' (B := w2.heap.size) (((Below.refl _ _).setCell (p := ⟨g6, 0, none⟩) hS _).setCell (p := ⟨g6, 1, none⟩) hS _) (by dsimp only; omega) (by dsimp only; omega) (by dsimp only; omega) (by dsimp only; omega)) ?_
            clear hK K
            repeat (first | simp only [List.getElem_toArray] | simp only [List.getElem_cons_succ] | simp only [List.getElem_cons_zero] | simp only [Act.put] | simp only [List.setIfInBounds_toArray] | simp only [List.set_cons_succ] | simp only [List.set_cons_zero])
            refine wpAnyT_done (by kernel_rfl) ?_ _
            clear k0 k1 k2 k3
            go_wp2_with fail
            go_meet
            exact HH.out
        · go_simp
          refine hK.out _ _ (fun h _ => h.below' (below_alloc d2 _) (by dsimp only; omega) (by dsimp only; omega) (by dsimp only; omega) (by dsimp only; omega)) ?_
          clear hK K
          repeat (first | simp only [List.getElem_toArray] | simp only [List.getElem_cons_succ] | simp only [List.getElem_cons_zero] | simp only [Act.put] | simp only [List.setIfInBounds_toArray] | simp only [List.set_cons_succ] | simp only [List.set_cons_zero])
          replace HQ := HQ.room zb 27
          obtain ⟨g8, hg8⟩ : ∃ g, g = d2.heap.size := ⟨_, rfl⟩
          rw [← hg8] at HQ ⊢
          replace BW := BW.alloc zb (.cells #[.slice none 0 0, .slice none 0 0] 27)
          clear zb hg8
          generalize d2.alloc (.cells #[.slice none 0 0, .slice none 0 0] 27) = d8 at *
          have zb : w2.heap.size ≤ d8.heap.size := BW.size
          refine wpAnyT_ready (rs := [4]) (by kernel_rfl) (by simp) ?_
          refine AllT.cons rfl (fun K hK => ?_) AllT.nil
          go_simp
          refine hK.out _ _ (fun h _ => h.below' (below_alloc d8 _) (by dsimp only; omega) (by dsimp only; omega) (by dsimp only; omega) (by dsimp only; omega)) ?_
          clear hK K
          repeat (first | simp only [List.getElem_toArray] | simp only [List.getElem_cons_succ] | simp only [List.getElem_cons_zero] | simp only [Act.put] | simp only [List.setIfInBounds_toArray] | simp only [List.set_cons_succ] | simp only [List.set_cons_zero])
          replace HQ := HQ.makeB zb
          obtain ⟨g9, hg9⟩ : ∃ g, g = d8.heap.size := ⟨_, rfl⟩
          rw [← hg9] at HQ ⊢
          replace BW := BW.alloc zb (.cells #[] 25)
          clear zb hg9
          generalize d8.alloc (.cells #[] 25) = d9 at *
          have zb : w2.heap.size ≤ d9.heap.size := BW.size
          refine wpAnyT_ready (rs := [7]) (by kernel_rfl) (by simp) ?_
          refine AllT.cons rfl (fun K hK => ?_) AllT.nil
          refine elF_.app_step (f := fV) (fun _ => rfl) _ (by rfl) _ _ (by rfl) (w2.heap.size) (.slice (some ⟨g9, 0, none⟩) 0 0) [] (by rfl) HQ.oB _ x1 (by rfl) (HR1.out.below (hT.trans (BW.mono hT.size))) (by omega) (by first | omega | (simp; omega)) zb ?_
          intro v10 d10 ho10 hg10 hbb10 hp10
          obtain ⟨g10, c10, rfl, -, -, -⟩ := ho10.form (by simp; omega)
          simp only [List.nil_append] at ho10 hp10 ⊢
          refine hK.out _ _ (fun h _ => h.below' hbb10 (by dsimp only; omega) (by dsimp only; omega) (by dsimp only; omega) (by dsimp only; omega)) ?_
          clear hK K
          repeat (first | simp only [List.getElem_toArray] | simp only [List.getElem_cons_succ] | simp only [List.getElem_cons_zero] | simp only [Act.put] | simp only [List.setIfInBounds_toArray] | simp only [List.set_cons_succ] | simp only [List.set_cons_zero])
          replace HQ := HQ.appB ho10 hg10 hp10
          replace BW := BW.trans hbb10
          clear ho10 hg10 hp10 hbb10 zb
          have zb : w2.heap.size ≤ d10.heap.size := BW.size
          refine wpAnyT_takeY (i := 8) (v := ?_) rfl (by kernel_rfl) (by kernel_rfl) (by kernel_rfl) (fun _ _ _ h => h) (Or.inl ⟨by rfl, ?_⟩) ?_
          rotate_left
          · intro wq; first | (go_simp; done) | (go_simp; with_reducible rfl)
          repeat (first | simp only [List.getElem_toArray] | simp only [List.getElem_cons_succ] | simp only [List.getElem_cons_zero] | simp only [Act.put] | simp only [List.setIfInBounds_toArray] | simp only [List.set_cons_succ] | simp only [List.set_cons_zero])
          refine wpAnyT_ready (rs := [10]) (by kernel_rfl) (by simp) ?_
          refine AllT.cons rfl (fun K hK => ?_) AllT.nil
          obtain ⟨KB, -, -, hS⟩ := HQ.box _ rfl
          have k0 := KB.cell 0 _ rfl
          have k1 := KB.cell 1 _ rfl
          have k2 := KB.free 0
          have k3 := KB.free 1
          have hSl := KB.lt
          have HH := Lib.hid (HQ.held BW)
          clear HQ KB
          go_simp
          refine hK.out _ _ (fun h _ => h.below' (B := w2.heap.size) (((Below.refl _ _).setCell (p := ⟨g8, 0, none⟩) hS _).setCell (p := ⟨g8, 1, none⟩) hS _) (by dsimp only; omega) (by dsimp only; omega) (by dsimp only; omega) (by dsimp only; omega)) ?_
          clear hK K
          repeat (first | simp only [List.getElem_toArray] | simp only [List.getElem_cons_succ] | simp only [List.getElem_cons_zero] | simp only [Act.put] | simp only [List.setIfInBounds_toArray] | simp only [List.set_cons_succ] | simp only [List.set_cons_zero])
          refine wpAnyT_done (by kernel_rfl) ?_ _
          clear k0 k1 k2 k3
          go_wp2_with fail
          go_meet
          exact HH.out
      · go_simp
        refine hK.out _ _ (fun h _ => h.below' (below_alloc d1 _) (by dsimp only; omega) (by dsimp only; omega) (by dsimp only; omega) (by dsimp only; omega)) ?_
        clear hK K
        repeat (first | simp only [List.getElem_toArray] | simp only [List.getElem_cons_succ] | simp only [List.getElem_cons_zero] | simp only [Act.put] | simp only [List.setIfInBounds_toArray] | simp only [List.set_cons_succ] | simp only [List.set_cons_zero])
        replace HQ := HQ.makeB zb
        obtain ⟨g11, hg11⟩ : ∃ g, g = d1.heap.size := ⟨_, rfl⟩
        rw [← hg11] at HQ ⊢
        replace BW := BW.alloc zb (.cells #[] 25)
        clear zb hg11
        generalize d1.alloc (.cells #[] 25) = d11 at *
        have zb : w2.heap.size ≤ d11.heap.size := BW.size
        refine wpAnyT_ready (rs := [3, 9]) (by kernel_rfl) (by simp) ?_
        refine AllT.cons rfl (fun K hK => ?_) (AllT.cons rfl (fun K hK => ?_) AllT.nil)
        · refine elF_.app_step (f := fV) (fun _ => rfl) _ (by rfl) _ _ (by rfl) (w2.heap.size) (.slice (some ⟨g1, 0, none⟩) 0 0) [] (by rfl) HQ.oA _ x0 (by rfl) (HR0.out.below (hT.trans (BW.mono hT.size))) (by omega) (by first | omega | (simp; omega)) zb ?_
          intro v12 d12 ho12 hg12 hbb12 hp12
          obtain ⟨g12, c12, rfl, -, -, -⟩ := ho12.form (by simp; omega)
          simp only [List.nil_append] at ho12 hp12 ⊢
          refine hK.out _ _ (fun h _ => h.below' hbb12 (by dsimp only; omega) (by dsimp only; omega) (by dsimp only; omega) (by dsimp only; omega)) ?_
          clear hK K
          repeat (first | simp only [List.getElem_toArray] | simp only [List.getElem_cons_succ] | simp only [List.getElem_cons_zero] | simp only [Act.put] | simp only [List.setIfInBounds_toArray] | simp only [List.set_cons_succ] | simp only [List.set_cons_zero])
          replace HQ := HQ.appA ho12 hg12 hp12
          replace BW := BW.trans hbb12
          clear ho12 hg12 hp12 hbb12 zb
          have zb : w2.heap.size ≤ d12.heap.size := BW.size
          refine wpAnyT_ready (rs := [7, 9]) (by kernel_rfl) (by simp) ?_
          refine AllT.cons rfl (fun K hK => ?_) (AllT.cons rfl (fun K hK => ?_) AllT.nil)
          · refine elF_.app_step (f := fV) (fun _ => rfl) _ (by rfl) _ _ (by rfl) (w2.heap.size) (.slice (some ⟨g11, 0, none⟩) 0 0) [] (by rfl) HQ.oB _ x1 (by rfl) (HR1.out.below (hT.trans (BW.mono hT.size))) (by omega) (by first | omega | (simp; omega)) zb ?_
            intro v13 d13 ho13 hg13 hbb13 hp13
            obtain ⟨g13, c13, rfl, -, -, -⟩ := ho13.form (by simp; omega)
            simp only [List.nil_append] at ho13 hp13 ⊢
            refine hK.out _ _ (fun h _ => h.below' hbb13 (by dsimp only; omega) (by dsimp only; omega) (by dsimp only; omega) (by dsimp only; omega)) ?_
            clear hK K
            repeat (first | simp only [List.getElem_toArray] | simp only [List.getElem_cons_succ] | simp only [List.getElem_cons_zero] | simp only [Act.put] | simp only [List.setIfInBounds_toArray] | simp only [List.set_cons_succ] | simp only [List.set_cons_zero])
            replace HQ := HQ.appB ho13 hg13 hp13
            replace BW := BW.trans hbb13
            clear ho13 hg13 hp13 hbb13 zb
            have zb : w2.heap.size ≤ d13.heap.size := BW.size
            refine wpAnyT_takeY (i := 8) (v := ?_) rfl (by kernel_rfl) (by kernel_rfl) (by kernel_rfl) (fun _ _ _ h => h) (Or.inl ⟨by rfl, ?_⟩) ?_
            rotate_left
            · intro wq; first | (go_simp; done) | (go_simp; with_reducible rfl)
            repeat (first | simp only [List.getElem_toArray] | simp only [List.getElem_cons_succ] | simp only [List.getElem_cons_zero] | simp only [Act.put] | simp only [List.setIfInBounds_toArray] | simp only [List.set_cons_succ] | simp only [List.set_cons_zero])
            refine wpAnyT_ready (rs := [9]) (by kernel_rfl) (by simp) ?_
            refine AllT.cons rfl (fun K hK => ?_) AllT.nil
            go_simp
            refine hK.out _ _ (fun h _ => h.below' (below_alloc d13 _) (by dsimp only; omega) (by dsimp only; omega) (by dsimp only; omega) (by dsimp only; omega)) ?_
            clear hK K
            repeat (first | simp only [List.getElem_toArray] | simp only [List.getElem_cons_succ] | simp only [List.getElem_cons_zero] | simp only [Act.put] | simp only [List.setIfInBounds_toArray] | simp only [List.set_cons_succ] | simp only [List.set_cons_zero])
            replace HQ := HQ.room zb 27
            obtain ⟨g14, hg14⟩ : ∃ g, g = d13.heap.size := ⟨_, rfl⟩
            rw [← hg14] at HQ ⊢
            replace BW := BW.alloc zb (.cells #[.slice none 0 0, .slice none 0 0] 27)
            clear zb hg14
            generalize d13.alloc (.cells #[.slice none 0 0, .slice none 0 0] 27) = d14 at *
            have zb : w2.heap.size ≤ d14.heap.size := BW.size
            refine wpAnyT_ready (rs := [10]) (by kernel_rfl) (by simp) ?_
            refine AllT.cons rfl (fun K hK => ?_) AllT.nil
            obtain ⟨KB, -, -, hS⟩ := HQ.box _ rfl
            have k0 := KB.cell 0 _ rfl
            have k1 := KB.cell 1 _ rfl
            have k2 := KB.free 0
            have k3 := KB.free 1
            have hSl := KB.lt
            have HH := Lib.hid (HQ.held BW)
            clear HQ KB
            go_simp
            refine hK.out _ _ (fun h _ => h.below' (B := w2.heap.size) (((Below.refl _ _).setCell (p := ⟨g14, 0, none⟩) hS _).setCell (p := ⟨g14, 1, none⟩) hS _) (by dsimp only; omega) (by dsimp only; omega) (by dsimp only; omega) (by dsimp only; omega)) ?_
            clear hK K
            repeat (first | simp only [List.getElem_toArray] | simp only [List.getElem_cons_succ] | simp only [List.getElem_cons_zero] | simp only [Act.put] | simp only [List.setIfInBounds_toArray] | simp only [List.set_cons_succ] | simp only [List.set_cons_zero])
            refine wpAnyT_done (by kernel_rfl) ?_ _
            clear k0 k1 k2 k3
            go_wp2_with fail
            go_meet
            exact HH.out
          · go_simp
            refine hK.out _ _ (fun h _ => h.below' (below_alloc d12 _) (by dsimp only; omega) (by dsimp only; omega) (by dsimp only; omega) (by dsimp only; omega)) ?_
            clear hK K
            repeat (first | simp only [List.getElem_toArray] | simp only [List.getElem_cons_succ] | simp only [List.getElem_cons_zero] | simp only [Act.put] | simp only [List.setIfInBounds_toArray] | simp only [List.set_cons_succ] | simp only [List.set_cons_zero])
            replace HQ := HQ.room zb 27
            obtain ⟨g15, hg15⟩ : ∃ g, g = d12.heap.size := ⟨_, rfl⟩
            rw [← hg15] at HQ ⊢
            replace BW := BW.alloc zb (.cells #[.slice none 0 0, .slice none 0 0] 27)
            clear zb hg15
            generalize d12.alloc (.cells #[.slice none 0 0, .slice none 0 0] 27) = d15 at *
            have zb : w2.heap.size ≤ d15.heap.size := BW.size
            refine wpAnyT_ready (rs := [7]) (by kernel_rfl) (by simp) ?_
            refine AllT.cons rfl (fun K hK => ?_) AllT.nil
            refine elF_.app_step (f := fV) (fun _ => rfl) _ (by rfl) _ _ (by rfl) (w2.heap.size) (.slice (some ⟨g11, 0, none⟩) 0 0) [] (by rfl) HQ.oB _ x1 (by rfl) (HR1.out.below (hT.trans (BW.mono hT.size))) (by omega) (by first | omega | (simp; omega)) zb ?_
            intro v16 d16 ho16 hg16 hbb16 hp16
            obtain ⟨g16, c16, rfl, -, -, -⟩ := ho16.form (by simp; omega)
            simp only [List.nil_append] at ho16 hp16 ⊢
            refine hK.out _ _ (fun h _ => h.below' hbb16 (by dsimp only; omega) (by dsimp only; omega) (by dsimp only; omega) (by dsimp only; omega)) ?_
            clear hK K
            repeat (first | simp only [List.getElem_toArray] | simp only [List.getElem_cons_succ] | simp only [List.getElem_cons_zero] | simp only [Act.put] | simp only [List.setIfInBounds_toArray] | simp only [List.set_cons_succ] | simp only [List.set_cons_zero])
            replace HQ := HQ.appB ho16 hg16 hp16
            replace BW := BW.trans hbb16
            clear ho16 hg16 hp16 hbb16 zb
            have zb : w2.heap.size ≤ d16.heap.size := BW.size
            refine wpAnyT_takeY (i := 8) (v := ?_) rfl (by kernel_rfl) (by kernel_rfl) (by kernel_rfl) (fun _ _ _ h => h) (Or.inl ⟨by rfl, ?_⟩) ?_
            rotate_left
            · intro wq; first | (go_simp; done) | (go_simp; with_reducible rfl)
            repeat (first | simp only [List.getElem_toArray] | simp only [List.getElem_cons_succ] | simp only [List.getElem_cons_zero] | simp only [Act.put] | simp only [List.setIfInBounds_toArray] | simp only [List.set_cons_succ] | simp only [List.set_cons_zero])
            refine wpAnyT_ready (rs := [10]) (by kernel_rfl) (by simp) ?_
            refine AllT.cons rfl (fun K hK => ?_) AllT.nil
            obtain ⟨KB, -, -, hS⟩ := HQ.box _ rfl
            have k0 := KB.cell 0 _ rfl
            have k1 := KB.cell 1 _ rfl
            have k2 := KB.free 0
            have k3 := KB.free 1
            have hSl := KB.lt
            have HH := Lib.hid (HQ.held BW)
            clear HQ KB
            go_simp
            refine hK.out _ _ (fun h _ => h.below' (B := w2.heap.size) (((Below.refl _ _).setCell (p := ⟨g15, 0, none⟩) hS _).setCell (p := ⟨g15, 1, none⟩) hS _) (by dsimp only; omega) (by dsimp only; omega) (by dsimp only; omega) (by dsimp only; omega)) ?_
            clear hK K
            repeat (first | simp only [List.getElem_toArray] | simp only [List.getElem_cons_succ] | simp only [List.getElem_cons_zero] | simp only [Act.put] | simp only [List.setIfInBounds_toArray] | simp only [List.set_cons_succ] | simp only [List.set_cons_zero])
            refine wpAnyT_done (by kernel_rfl) ?_ _
            clear k0 k1 k2 k3
            go_wp2_with fail
            go_meet
            exact HH.out
        · go_simp
          refine hK.out _ _ (fun h _ => h.below' (below_alloc d11 _) (by dsimp only; omega) (by dsimp only; omega) (by dsimp only; omega) (by dsimp only; omega)) ?_
          clear hK K
          repeat (first | simp only [List.getElem_toArray] | simp only [List.getElem_cons_succ] | simp only [List.getElem_cons_zero] | simp only [Act.put] | simp only [List.setIfInBounds_toArray] | simp only [List.set_cons_succ] | simp only [List.set_cons_zero])
          replace HQ := HQ.room zb 27
          obtain ⟨g17, hg17⟩ : ∃ g, g = d11.heap.size := ⟨_, rfl⟩
          rw [← hg17] at HQ ⊢
          replace BW := BW.alloc zb (.cells #[.slice none 0 0, .slice none 0 0] 27)
          clear zb hg17
          generalize d11.alloc (.cells #[.slice none 0 0, .slice none 0 0] 27) = d17 at *
          have zb : w2.heap.size ≤ d17.heap.size := BW.size
          refine wpAnyT_ready (rs := [3]) (by kernel_rfl) (by simp) ?_
          refine AllT.cons rfl (fun K hK => ?_) AllT.nil
          refine elF_.app_step (f := fV) (fun _ => rfl) _ (by rfl) _ _ (by rfl) (w2.heap.size) (.slice (some ⟨g1, 0, none⟩) 0 0) [] (by rfl) HQ.oA _ x0 (by rfl) (HR0.out.below (hT.trans (BW.mono hT.size))) (by omega) (by first | omega | (simp; omega)) zb ?_
          intro v18 d18 ho18 hg18 hbb18 hp18
          obtain ⟨g18, c18, rfl, -, -, -⟩ := ho18.form (by simp; omega)
          simp only [List.nil_append] at ho18 hp18 ⊢
          refine hK.out _ _ (fun h _ => h.below' hbb18 (by dsimp only; omega) (by dsimp only; omega) (by dsimp only; omega) (by dsimp only; omega)) ?_
          clear hK K
          repeat (first | simp only [List.getElem_toArray] | simp only [List.getElem_cons_succ] | simp only [List.getElem_cons_zero] | simp only [Act.put] | simp only [List.setIfInBounds_toArray] | simp only [List.set_cons_succ] | simp only [List.set_cons_zero])
          replace HQ := HQ.appA ho18 hg18 hp18
          replace BW := BW.trans hbb18
          clear ho18 hg18 hp18 hbb18 zb
          have zb : w2.heap.size ≤ d18.heap.size := BW.size
          refine wpAnyT_ready (rs := [7]) (by kernel_rfl) (by simp) ?_
          refine AllT.cons rfl (fun K hK => ?_) AllT.nil
          refine elF_.app_step (f := fV) (fun _ => rfl) _ (by rfl) _ _ (by rfl) (w2.heap.size) (.slice (some ⟨g11, 0, none⟩) 0 0) [] (by rfl) HQ.oB _ x1 (by rfl) (HR1.out.below (hT.trans (BW.mono hT.size))) (by omega) (by first | omega | (simp; omega)) zb ?_
          intro v19 d19 ho19 hg19 hbb19 hp19
          obtain ⟨g19, c19, rfl, -, -, -⟩ := ho19.form (by simp; omega)
          simp only [List.nil_append] at ho19 hp19 ⊢
          refine hK.out _ _ (fun h _ => h.below' hbb19 (by dsimp only; omega) (by dsimp only; omega) (by dsimp only; omega) (by dsimp only; omega)) ?_
          clear hK K
          repeat (first | simp only [List.getElem_toArray] | simp only [List.getElem_cons_succ] | simp only [List.getElem_cons_zero] | simp only [Act.put] | simp only [List.setIfInBounds_toArray] | simp only [List.set_cons_succ] | simp only [List.set_cons_zero])
          replace HQ := HQ.appB ho19 hg19 hp19
          replace BW := BW.trans hbb19
          clear ho19 hg19 hp19 hbb19 zb
          have zb : w2.heap.size ≤ d19.heap.size := BW.size
          refine wpAnyT_takeY (i := 8) (v := ?_) rfl (by kernel_rfl) (by kernel_rfl) (by kernel_rfl) (fun _ _ _ h => h) (Or.inl ⟨by rfl, ?_⟩) ?_
          rotate_left
          · intro wq; first | (go_simp; done) | (go_simp; with_reducible rfl)
          repeat (first | simp only [List.getElem_toArray] | simp only [List.getElem_cons_succ] | simp only [List.getElem_cons_zero] | simp only [Act.put] | simp only [List.setIfInBounds_toArray] | simp only [List.set_cons_succ] | simp only [List.set_cons_zero])
          refine wpAnyT_ready (rs := [10]) (by kernel_rfl) (by simp) ?_
          refine AllT.cons rfl (fun K hK => ?_) AllT.nil
          obtain ⟨KB, -, -, hS⟩ := HQ.box _ rfl
          have k0 := KB.cell 0 _ rfl
          have k1 := KB.cell 1 _ rfl
          have k2 := KB.free 0
          have k3 := KB.free 1
          have hSl := KB.lt
          have HH := Lib.hid (HQ.held BW)
          clear HQ KB
          go_simp
          refine hK.out _ _ (fun h _ => h.below' (B := w2.heap.size) (((Below.refl _ _).setCell (p := ⟨g17, 0, none⟩) hS _).setCell (p := ⟨g17, 1, none⟩) hS _) (by dsimp only; omega) (by dsimp only; omega) (by dsimp only; omega) (by dsimp only; omega)) ?_
          clear hK K
          repeat (first | simp only [List.getElem_toArray] | simp only [List.getElem_cons_succ] | simp only [List.getElem_cons_zero] | simp only [Act.put] | simp only [List.setIfInBounds_toArray] | simp only [List.set_cons_succ] | simp only [List.set_cons_zero])
          refine wpAnyT_done (by kernel_rfl) ?_ _
          clear k0 k1 k2 k3
          go_wp2_with fail
          go_meet
          exact HH.out
      · go_simp
        refine hK.out _ _ (fun h _ => h.below' (below_alloc d1 _) (by dsimp only; omega) (by dsimp only; omega) (by dsimp only; omega) (by dsimp only; omega)) ?_
        clear hK K
        repeat (first | simp only [List.getElem_toArray] | simp only [List.getElem_cons_succ] | simp only [List.getElem_cons_zero] | simp only [Act.put] | simp only [List.setIfInBounds_toArray] | simp only [List.set_cons_succ] | simp only [List.set_cons_zero])
        replace HQ := HQ.room zb 27
        obtain ⟨g20, hg20⟩ : ∃ g, g = d1.heap.size := ⟨_, rfl⟩
        rw [← hg20] at HQ ⊢
        replace BW := BW.alloc zb (.cells #[.slice none 0 0, .slice none 0 0] 27)
        clear zb hg20
        generalize d1.alloc (.cells #[.slice none 0 0, .slice none 0 0] 27) = d20 at *
        have zb : w2.heap.size ≤ d20.heap.size := BW.size
        refine wpAnyT_ready (rs := [3, 4]) (by kernel_rfl) (by simp) ?_
        refine AllT.cons rfl (fun K hK => ?_) (AllT.cons rfl (fun K hK => ?_) AllT.nil)
        · refine elF_.app_step (f := fV) (fun _ => rfl) _ (by rfl) _ _ (by rfl) (w2.heap.size) (.slice (some ⟨g1, 0, none⟩) 0 0) [] (by rfl) HQ.oA _ x0 (by rfl) (HR0.out.below (hT.trans (BW.mono hT.size))) (by omega) (by first | omega | (simp; omega)) zb ?_
          intro v21 d21 ho21 hg21 hbb21 hp21
          obtain ⟨g21, c21, rfl, -, -, -⟩ := ho21.form (by simp; omega)
          simp only [List.nil_append] at ho21 hp21 ⊢
          refine hK.out _ _ (fun h _ => h.below' hbb21 (by dsimp only; omega) (by dsimp only; omega) (by dsimp only; omega) (by dsimp only; omega)) ?_
          clear hK K
          repeat (first | simp only [List.getElem_toArray] | simp only [List.getElem_cons_succ] | simp only [List.getElem_cons_zero] | simp only [Act.put] | simp only [List.setIfInBounds_toArray] | simp only [List.set_cons_succ] | simp only [List.set_cons_zero])
          replace HQ := HQ.appA ho21 hg21 hp21
          replace BW := BW.trans hbb21
          clear ho21 hg21 hp21 hbb21 zb
          have zb : w2.heap.size ≤ d21.heap.size := BW.size
          refine wpAnyT_ready (rs := [4]) (by kernel_rfl) (by simp) ?_
          refine AllT.cons rfl (fun K hK => ?_) AllT.nil
          go_simp
          refine hK.out _ _ (fun h _ => h.below' (below_alloc d21 _) (by dsimp only; omega) (by dsimp only; omega) (by dsimp only; omega) (by dsimp only; omega)) ?_
          clear hK K
          repeat (first | simp only [List.getElem_toArray] | simp only [List.getElem_cons_succ] | simp only [List.getElem_cons_zero] | simp only [Act.put] | simp only [List.setIfInBounds_toArray] | simp only [List.set_cons_succ] | simp only [List.set_cons_zero])
          replace HQ := HQ.makeB zb
          obtain ⟨g22, hg22⟩ : ∃ g, g = d21.heap.size := ⟨_, rfl⟩
          rw [← hg22] at HQ ⊢
          replace BW := BW.alloc zb (.cells #[] 25)
          clear zb hg22
          generalize d21.alloc (.cells #[] 25) = d22 at *
          have zb : w2.heap.size ≤ d22.heap.size := BW.size
          refine wpAnyT_ready (rs := [7]) (by kernel_rfl) (by simp) ?_
          refine AllT.cons rfl (fun K hK => ?_) AllT.nil
          refine elF_.app_step (f := fV) (fun _ => rfl) _ (by rfl) _ _ (by rfl) (w2.heap.size) (.slice (some ⟨g22, 0, none⟩) 0 0) [] (by rfl) HQ.oB _ x1 (by rfl) (HR1.out.below (hT.trans (BW.mono hT.size))) (by omega) (by first | omega | (simp; omega)) zb ?_
          intro v23 d23 ho23 hg23 hbb23 hp23
          obtain ⟨g23, c23, rfl, -, -, -⟩ := ho23.form (by simp; omega)
          simp only [List.nil_append] at ho23 hp23 ⊢
          refine hK.out _ _ (fun h _ => h.below' hbb23 (by dsimp only; omega) (by dsimp only; omega) (by dsimp only; omega) (by dsimp only; omega)) ?_
          clear hK K
          repeat (first | simp only [List.getElem_toArray] | simp only [List.getElem_cons_succ] | simp only [List.getElem_cons_zero] | simp only [Act.put] | simp only [List.setIfInBounds_toArray] | simp only [List.set_cons_succ] | simp only [List.set_cons_zero])
          replace HQ := HQ.appB ho23 hg23 hp23
          replace BW := BW.trans hbb23
          clear ho23 hg23 hp23 hbb23 zb
          have zb : w2.heap.size ≤ d23.heap.size := BW.size
          refine wpAnyT_takeY (i := 8) (v := ?_) rfl (by kernel_rfl) (by kernel_rfl) (by kernel_rfl) (fun _ _ _ h => h) (Or.inl ⟨by rfl, ?_⟩) ?_
          rotate_left
          · intro wq; first | (go_simp; done) | (go_simp; with_reducible rfl)
          repeat (first | simp only [List.getElem_toArray] | simp only [List.getElem_cons_succ] | simp only [List.getElem_cons_zero] | simp only [Act.put] | simp only [List.setIfInBounds_toArray] | simp only [List.set_cons_succ] | simp only [List.set_cons_zero])
          refine wpAnyT_ready (rs := [10]) (by kernel_rfl) (by simp) ?_
          refine AllT.cons rfl (fun K hK => ?_) AllT.nil
          obtain ⟨KB, -, -, hS⟩ := HQ.box _ rfl
          have k0 := KB.cell 0 _ rfl
          have k1 := KB.cell 1 _ rfl
          have k2 := KB.free 0
          have k3 := KB.free 1
          have hSl := KB.lt
          have HH := Lib.hid (HQ.held BW)
          clear HQ KB
          go_simp
          refine hK.out _ _ (fun h _ => h.below' (B := w2.heap.size) (((Below.refl _ _).setCell (p := ⟨g20, 0, none⟩) hS _).setCell (p := ⟨g20, 1, none⟩) hS _) (by dsimp only; omega) (by dsimp only; omega) (by dsimp only; omega) (by dsimp only; omega)) ?_
          clear hK K
          repeat (first | simp only [List.getElem_toArray] | simp only [List.getElem_cons_succ] | simp only [List.getElem_cons_zero] | simp only [Act.put] | simp only [List.setIfInBounds_toArray] | simp only [List.set_cons_succ] | simp only [List.set_cons_zero])
          refine wpAnyT_done (by kernel_rfl) ?_ _
          clear k0 k1 k2 k3
          go_wp2_with fail
          go_meet
          exact HH.out
        · go_simp
          refine hK.out _ _ (fun h _ => h.below' (below_alloc d20 _) (by dsimp only; omega) (by dsimp only; omega) (by dsimp only; omega) (by dsimp only; omega)) ?_
          clear hK K
          repeat (first | simp only [List.getElem_toArray] | simp only [List.getElem_cons_succ] | simp only [List.getElem_cons_zero] | simp only [Act.put] | simp only [List.setIfInBounds_toArray] | simp only [List.set_cons_succ] | simp only [List.set_cons_zero])
          replace HQ := HQ.makeB zb
          obtain ⟨g24, hg24⟩ : ∃ g, g = d20.heap.size := ⟨_, rfl⟩
          rw [← hg24] at HQ ⊢
          replace BW := BW.alloc zb (.cells #[] 25)
          clear zb hg24
          generalize d20.alloc (.cells #[] 25) = d24 at *
          have zb : w2.heap.size ≤ d24.heap.size := BW.size
          refine wpAnyT_ready (rs := [3]) (by kernel_rfl) (by simp) ?_
          refine AllT.cons rfl (fun K hK => ?_) AllT.nil
          refine elF_.app_step (f := fV) (fun _ => rfl) _ (by rfl) _ _ (by rfl) (w2.heap.size) (.slice (some ⟨g1, 0, none⟩) 0 0) [] (by rfl) HQ.oA _ x0 (by rfl) (HR0.out.below (hT.trans (BW.mono hT.size))) (by omega) (by first | omega | (simp; omega)) zb ?_
          intro v25 d25 ho25 hg25 hbb25 hp25
          obtain ⟨g25, c25, rfl, -, -, -⟩ := ho25.form (by simp; omega)
          simp only [List.nil_append] at ho25 hp25 ⊢
          refine hK.out _ _ (fun h _ => h.below' hbb25 (by dsimp only; omega) (by dsimp only; omega) (by dsimp only; omega) (by dsimp only; omega)) ?_
          clear hK K
          repeat (first | simp only [List.getElem_toArray] | simp only [List.getElem_cons_succ] | simp only [List.getElem_cons_zero] | simp only [Act.put] | simp only [List.setIfInBounds_toArray] | simp only [List.set_cons_succ] | simp only [List.set_cons_zero])
          replace HQ := HQ.appA ho25 hg25 hp25
          replace BW := BW.trans hbb25
          clear ho25 hg25 hp25 hbb25 zb
          have zb : w2.heap.size ≤ d25.heap.size := BW.size
          refine wpAnyT_ready (rs := [7]) (by kernel_rfl) (by simp) ?_
          refine AllT.cons rfl (fun K hK => ?_) AllT.nil
          refine elF_.app_step (f := fV) (fun _ => rfl) _ (by rfl) _ _ (by rfl) (w2.heap.size) (.slice (some ⟨g24, 0, none⟩) 0 0) [] (by rfl) HQ.oB _ x1 (by rfl) (HR1.out.below (hT.trans (BW.mono hT.size))) (by omega) (by first | omega | (simp; omega)) zb ?_
          intro v26 d26 ho26 hg26 hbb26 hp26
          obtain ⟨g26, c26, rfl, -, -, -⟩ := ho26.form (by simp; omega)
          simp only [List.nil_append] at ho26 hp26 ⊢
          refine hK.out _ _ (fun h _ => h.below' hbb26 (by dsimp only; omega) (by dsimp only; omega) (by dsimp only; omega) (by dsimp only; omega)) ?_
          clear hK K
          repeat (first | simp only [List.getElem_toArray] | simp only [List.getElem_cons_succ] | simp only [List.getElem_cons_zero] | simp only [Act.put] | simp only [List.setIfInBounds_toArray] | simp only [List.set_cons_succ] | simp only [List.set_cons_zero])
          replace HQ := HQ.appB ho26 hg26 hp26
          replace BW := BW.trans hbb26
          clear ho26 hg26 hp26 hbb26 zb
          have zb : w2.heap.size ≤ d26.heap.size := BW.size
          refine wpAnyT_takeY (i := 8) (v := ?_) rfl (by kernel_rfl) (by kernel_rfl) (by kernel_rfl) (fun _ _ _ h => h) (Or.inl ⟨by rfl, ?_⟩) ?_
          rotate_left
          · intro wq; first | (go_simp; done) | (go_simp; with_reducible rfl)
          repeat (first | simp only [List.getElem_toArray] | simp only [List.getElem_cons_succ] | simp only [List.getElem_cons_zero] | simp only [Act.put] | simp only [List.setIfInBounds_toArray] | simp only [List.set_cons_succ] | simp only [List.set_cons_zero])
          refine wpAnyT_ready (rs := [10]) (by kernel_rfl) (by simp) ?_
          refine AllT.cons rfl (fun K hK => ?_) AllT.nil
          obtain ⟨KB, -, -, hS⟩ := HQ.box _ rfl
          have k0 := KB.cell 0 _ rfl
          have k1 := KB.cell 1 _ rfl
          have k2 := KB.free 0
          have k3 := KB.free 1
          have hSl := KB.lt
          have HH := Lib.hid (HQ.held BW)
          clear HQ KB
          go_simp
          refine hK.out _ _ (fun h _ => h.below' (B := w2.heap.size) (((Below.refl _ _).setCell (p := ⟨g20, 0, none⟩) hS _).setCell (p := ⟨g20, 1, none⟩) hS _) (by dsimp only; omega) (by dsimp only; omega) (by dsimp only; omega) (by dsimp only; omega)) ?_
          clear hK K
          repeat (first | simp only [List.getElem_toArray] | simp only [List.getElem_cons_succ] | simp only [List.getElem_cons_zero] | simp only [Act.put] | simp only [List.setIfInBounds_toArray] | simp only [List.set_cons_succ] | simp only [List.set_cons_zero])
          refine wpAnyT_done (by kernel_rfl) ?_ _
          clear k0 k1 k2 k3
          go_wp2_with fail
          go_meet
          exact HH.out
    · go_simp
      refine hK.out _ _ (fun h _ => h.below' (below_alloc d0 _) (by dsimp only; omega) (by dsimp only; omega) (by dsimp only; omega) (by dsimp only; omega)) ?_
      clear hK K
      repeat (first | simp only [List.getElem_toArray] | simp only [List.getElem_cons_succ] | simp only [List.getElem_cons_zero] | simp only [Act.put] | simp only [List.setIfInBounds_toArray] | simp only [List.set_cons_succ] | simp only [List.set_cons_zero])
      replace HQ := HQ.makeB zb
      obtain ⟨g27, hg27⟩ : ∃ g, g = d0.heap.size := ⟨_, rfl⟩
      rw [← hg27] at HQ ⊢
      replace BW := BW.alloc zb (.cells #[] 25)
      clear zb hg27
      generalize d0.alloc (.cells #[] 25) = d27 at *
      have zb : w2.heap.size ≤ d27.heap.size := BW.size
      refine wpAnyT_ready (rs := [0, 9]) (by kernel_rfl) (by simp) ?_
      refine AllT.cons rfl (fun K hK => ?_) (AllT.cons rfl (fun K hK => ?_) AllT.nil)
      · go_simp
        refine hK.out _ _ (fun h _ => h.below' (below_alloc d27 _) (by dsimp only; omega) (by dsimp only; omega) (by dsimp only; omega) (by dsimp only; omega)) ?_
        clear hK K
        repeat (first | simp only [List.getElem_toArray] | simp only [List.getElem_cons_succ] | simp only [List.getElem_cons_zero] | simp only [Act.put] | simp only [List.setIfInBounds_toArray] | simp only [List.set_cons_succ] | simp only [List.set_cons_zero])
        replace HQ := HQ.makeA zb
        obtain ⟨g28, hg28⟩ : ∃ g, g = d27.heap.size := ⟨_, rfl⟩
        rw [← hg28] at HQ ⊢
        replace BW := BW.alloc zb (.cells #[] 25)
        clear zb hg28
        generalize d27.alloc (.cells #[] 25) = d28 at *
        have zb : w2.heap.size ≤ d28.heap.size := BW.size
        refine wpAnyT_ready (rs := [3, 9]) (by kernel_rfl) (by simp) ?_
        refine AllT.cons rfl (fun K hK => ?_) (AllT.cons rfl (fun K hK => ?_) AllT.nil)
        · refine elF_.app_step (f := fV) (fun _ => rfl) _ (by rfl) _ _ (by rfl) (w2.heap.size) (.slice (some ⟨g28, 0, none⟩) 0 0) [] (by rfl) HQ.oA _ x0 (by rfl) (HR0.out.below (hT.trans (BW.mono hT.size))) (by omega) (by first | omega | (simp; omega)) zb ?_
          intro v29 d29 ho29 hg29 hbb29 hp29
          obtain ⟨g29, c29, rfl, -, -, -⟩ := ho29.form (by simp; omega)
          simp only [List.nil_append] at ho29 hp29 ⊢
          refine hK.out _ _ (fun h _ => h.below' hbb29 (by dsimp only; omega) (by dsimp only; omega) (by dsimp only; omega) (by dsimp only; omega)) ?_
          clear hK K
          repeat (first | simp only [List.getElem_toArray] | simp only [List.getElem_cons_succ] | simp only [List.getElem_cons_zero] | simp only [Act.put] | simp only [List.setIfInBounds_toArray] | simp only [List.set_cons_succ] | simp only [List.set_cons_zero])
          replace HQ := HQ.appA ho29 hg29 hp29
          replace BW := BW.trans hbb29
          clear ho29 hg29 hp29 hbb29 zb
          have zb : w2.heap.size ≤ d29.heap.size := BW.size
          refine wpAnyT_ready (rs := [7, 9]) (by kernel_rfl) (by simp) ?_
          refine AllT.cons rfl (fun K hK => ?_) (AllT.cons rfl (fun K hK => ?_) AllT.nil)
          · refine elF_.app_step (f := fV) (fun _ => rfl) _ (by rfl) _ _ (by rfl) (w2.heap.size) (.slice (some ⟨g27, 0, none⟩) 0 0) [] (by rfl) HQ.oB _ x1 (by rfl) (HR1.out.below (hT.trans (BW.mono hT.size))) (by omega) (by first | omega | (simp; omega)) zb ?_
            intro v30 d30 ho30 hg30 hbb30 hp30
            obtain ⟨g30, c30, rfl, -, -, -⟩ := ho30.form (by simp; omega)
            simp only [List.nil_append] at ho30 hp30 ⊢
            refine hK.out _ _ (fun h _ => h.below' hbb30 (by dsimp only; omega) (by dsimp only; omega) (by dsimp only; omega) (by dsimp only; omega)) ?_
            clear hK K
            repeat (first | simp only [List.getElem_toArray] | simp only [List.getElem_cons_succ] | simp only [List.getElem_cons_zero] | simp only [Act.put] | simp only [List.setIfInBounds_toArray] | simp only [List.set_cons_succ] | simp only [List.set_cons_zero])
            replace HQ := HQ.appB ho30 hg30 hp30
            replace BW := BW.trans hbb30
            clear ho30 hg30 hp30 hbb30 zb
            have zb : w2.heap.size ≤ d30.heap.size := BW.size
            refine wpAnyT_takeY (i := 8) (v := ?_) rfl (by kernel_rfl) (by kernel_rfl) (by kernel_rfl) (fun _ _ _ h => h) (Or.inl ⟨by rfl, ?_⟩) ?_
            rotate_left
            · intro wq; first | (go_simp; done) | (go_simp; with_reducible rfl)
            repeat (first | simp only [List.getElem_toArray] | simp only [List.getElem_cons_succ] | simp only [List.getElem_cons_zero] | simp only [Act.put] | simp only [List.setIfInBounds_toArray] | simp only [List.set_cons_succ] | simp only [List.set_cons_zero])
            refine wpAnyT_ready (rs := [9]) (by kernel_rfl) (by simp) ?_
            refine AllT.cons rfl (fun K hK => ?_) AllT.nil
            go_simp
            refine hK.out _ _ (fun h _ => h.below' (below_alloc d30 _) (by dsimp only; omega) (by dsimp only; omega) (by dsimp only; omega) (by dsimp only; omega)) ?_
            clear hK K
            repeat (first | simp only [List.getElem_toArray] | simp only [List.getElem_cons_succ] | simp only [List.getElem_cons_zero] | simp only [Act.put] | simp only [List.setIfInBounds_toArray] | simp only [List.set_cons_succ] | simp only [List.set_cons_zero])
            replace HQ := HQ.room zb 27
            obtain ⟨g31, hg31⟩ : ∃ g, g = d30.heap.size := ⟨_, rfl⟩
            rw [← hg31] at HQ ⊢
            replace BW := BW.alloc zb (.cells #[.slice none 0 0, .slice none 0 0] 27)
            clear zb hg31
            generalize d30.alloc (.cells #[.slice none 0 0, .slice none 0 0] 27) = d31 at *
            have zb : w2.heap.size ≤ d31.heap.size := BW.size
            refine wpAnyT_ready (rs := [10]) (by kernel_rfl) (by simp) ?_
            refine AllT.cons rfl (fun K hK => ?_) AllT.nil
            obtain ⟨KB, -, -, hS⟩ := HQ.box _ rfl
            have k0 := KB.cell 0 _ rfl
            have k1 := KB.cell 1 _ rfl
            have k2 := KB.free 0
            have k3 := KB.free 1
            have hSl := KB.lt
            have HH := Lib.hid (HQ.held BW)
            clear HQ KB
            go_simp
            refine hK.out _ _ (fun h _ => h.below' (B := w2.heap.size) (((Below.refl _ _).setCell (p := ⟨g31, 0, none⟩) hS _).setCell (p := ⟨g31, 1, none⟩) hS _) (by dsimp only; omega) (by dsimp only; omega) (by dsimp only; omega) (by dsimp only; omega)) ?_
            clear hK K
            repeat (first | simp only [List.getElem_toArray] | simp only [List.getElem_cons_succ] | simp only [List.getElem_cons_zero] | simp only [Act.put] | simp only [List.setIfInBounds_toArray] | simp only [List.set_cons_succ] | simp only [List.set_cons_zero])
            refine wpAnyT_done (by kernel_rfl) ?_ _
            clear k0 k1 k2 k3
            go_wp2_with fail
            go_meet
            exact HH.out
          · go_simp
            refine hK.out _ _ (fun h _ => h.below' (below_alloc d29 _) (by dsimp only; omega) (by dsimp only; omega) (by dsimp only; omega) (by dsimp only; omega)) ?_
            clear hK K
            repeat (first | simp only [List.getElem_toArray] | simp only [List.getElem_cons_succ] | simp only [List.getElem_cons_zero] | simp only [Act.put] | simp only [List.setIfInBounds_toArray] | simp only [List.set_cons_succ] | simp only [List.set_cons_zero])
            replace HQ := HQ.room zb 27
            obtain ⟨g32, hg32⟩ : ∃ g, g = d29.heap.size := ⟨_, rfl⟩
            rw [← hg32] at HQ ⊢
            replace BW := BW.alloc zb (.cells #[.slice none 0 0, .slice none 0 0] 27)
            clear zb hg32
            generalize d29.alloc (.cells #[.slice none 0 0, .slice none 0 0] 27) = d32 at *
            have zb : w2.heap.size ≤ d32.heap.size := BW.size
            refine wpAnyT_ready (rs := [7]) (by kernel_rfl) (by simp) ?_
            refine AllT.cons rfl (fun K hK => ?_) AllT.nil
            refine elF_.app_step (f := fV) (fun _ => rfl) _ (by rfl) _ _ (by rfl) (w2.heap.size) (.slice (some ⟨g27, 0, none⟩) 0 0) [] (by rfl) HQ.oB _ x1 (by rfl) (HR1.out.below (hT.trans (BW.mono hT.size))) (by omega) (by first | omega | (simp; omega)) zb ?_
            intro v33 d33 ho33 hg33 hbb33 hp33
            obtain ⟨g33, c33, rfl, -, -, -⟩ := ho33.form (by simp; omega)
            simp only [List.nil_append] at ho33 hp33 ⊢
            refine hK.out _ _ (fun h _ => h.below' hbb33 (by dsimp only; omega) (by dsimp only; omega) (by dsimp only; omega) (by dsimp only; omega)) ?_
            clear hK K
            repeat (first | simp only [List.getElem_toArray] | simp only [List.getElem_cons_succ] | simp only [List.getElem_cons_zero] | simp only [Act.put] | simp only [List.setIfInBounds_toArray] | simp only [List.set_cons_succ] | simp only [List.set_cons_zero])
            replace HQ := HQ.appB ho33 hg33 hp33
            replace BW := BW.trans hbb33
            clear ho33 hg33 hp33 hbb33 zb
            have zb : w2.heap.size ≤ d33.heap.size := BW.size
            refine wpAnyT_takeY (i := 8) (v := ?_) rfl (by kernel_rfl) (by kernel_rfl) (by kernel_rfl) (fun _ _ _ h => h) (Or.inl ⟨by rfl, ?_⟩) ?_
            rotate_left
            · intro wq; first | (go_simp; done) | (go_simp; with_reducible rfl)
            repeat (first | simp only [List.getElem_toArray] | simp only [List.getElem_cons_succ] | simp only [List.getElem_cons_zero] | simp only [Act.put] | simp only [List.setIfInBounds_toArray] | simp only [List.set_cons_succ] | simp only [List.set_cons_zero])
            refine wpAnyT_ready (rs := [10]) (by kernel_rfl) (by simp) ?_
            refine AllT.cons rfl (fun K hK => ?_) AllT.nil
            obtain ⟨KB, -, -, hS⟩ := HQ.box _ rfl
            have k0 := KB.cell 0 _ rfl
            have k1 := KB.cell 1 _ rfl
            have k2 := KB.free 0
            have k3 := KB.free 1
            have hSl := KB.lt
            have HH := Lib.hid (HQ.held BW)
            clear HQ KB
            go_simp
            refine hK.out _ _ (fun h _ => h.below' (B := w2.heap.size) (((Below.refl _ _).setCell (p := ⟨g32, 0, none⟩) hS _).setCell (p := ⟨g32, 1, none⟩) hS _) (by dsimp only; omega) (by dsimp only; omega) (by dsimp only; omega) (by dsimp only; omega)) ?_
            clear hK K
            repeat (first | simp only [List.getElem_toArray] | simp only [List.getElem_cons_succ] | simp only [List.getElem_cons_zero] | simp only [Act.put] | simp only [List.setIfInBounds_toArray] | simp only [List.set_cons_succ] | simp only [List.set_cons_zero])
            refine wpAnyT_done (by kernel_rfl) ?_ _
            clear k0 k1 k2 k3
            go_wp2_with fail
            go_meet
            exact HH.out
        · go_simp
          refine hK.out _ _ (fun h _ => h.below' (below_alloc d28 _) (by dsimp only; omega) (by dsimp only; omega) (by dsimp only; omega) (by dsimp only; omega)) ?_
          clear hK K
          repeat (first | simp only [List.getElem_toArray] | simp only [List.getElem_cons_succ] | simp only [List.getElem_cons_zero] | simp only [Act.put] | simp only [List.setIfInBounds_toArray] | simp only [List.set_cons_succ] | simp only [List.set_cons_zero])
          replace HQ := HQ.room zb 27
          obtain ⟨g34, hg34⟩ : ∃ g, g = d28.heap.size := ⟨_, rfl⟩
          rw [← hg34] at HQ ⊢
          replace BW := BW.alloc zb (.cells #[.slice none 0 0, .slice none 0 0] 27)
          clear zb hg34
          generalize d28.alloc (.cells #[.slice none 0 0, .slice none 0 0] 27) = d34 at *
          have zb : w2.heap.size ≤ d34.heap.size := BW.size
          refine wpAnyT_ready (rs := [3]) (by kernel_rfl) (by simp) ?_
          refine AllT.cons rfl (fun K hK => ?_) AllT.nil
          refine elF_.app_step (f := fV) (fun _ => rfl) _ (by rfl) _ _ (by rfl) (w2.heap.size) (.slice (some ⟨g28, 0, none⟩) 0 0) [] (by rfl) HQ.oA _ x0 (by rfl) (HR0.out.below (hT.trans (BW.mono hT.size))) (by omega) (by first | omega | (simp; omega)) zb ?_
          intro v35 d35 ho35 hg35 hbb35 hp35
          obtain ⟨g35, c35, rfl, -, -, -⟩ := ho35.form (by simp; omega)
          simp only [List.nil_append] at ho35 hp35 ⊢
          refine hK.out _ _ (fun h _ => h.below' hbb35 (by dsimp only; omega) (by dsimp only; omega) (by dsimp only; omega) (by dsimp only; omega)) ?_
          clear hK K
          repeat (first | simp only [List.getElem_toArray] | simp only [List.getElem_cons_succ] | simp only [List.getElem_cons_zero] | simp only [Act.put] | simp only [List.setIfInBounds_toArray] | simp only [List.set_cons_succ] | simp only [List.set_cons_zero])
          replace HQ := HQ.appA ho35 hg35 hp35
          replace BW := BW.trans hbb35
          clear ho35 hg35 hp35 hbb35 zb
          have zb : w2.heap.size ≤ d35.heap.size := BW.size
          refine wpAnyT_ready (rs := [7]) (by kernel_rfl) (by simp) ?_
          refine AllT.cons rfl (fun K hK => ?_) AllT.nil
          refine elF_.app_step (f := fV) (fun _ => rfl) _ (by rfl) _ _ (by rfl) (w2.heap.size) (.slice (some ⟨g27, 0, none⟩) 0 0) [] (by rfl) HQ.oB _ x1 (by rfl) (HR1.out.below (hT.trans (BW.mono hT.size))) (by omega) (by first | omega | (simp; omega)) zb ?_
          intro v36 d36 ho36 hg36 hbb36 hp36
          obtain ⟨g36, c36, rfl, -, -, -⟩ := ho36.form (by simp; omega)
          simp only [List.nil_append] at ho36 hp36 ⊢
          refine hK.out _ _ (fun h _ => h.below' hbb36 (by dsimp only; omega) (by dsimp only; omega) (by dsimp only; omega) (by dsimp only; omega)) ?_
          clear hK K
          repeat (first | simp only [List.getElem_toArray] | simp only [List.getElem_cons_succ] | simp only [List.getElem_cons_zero] | simp only [Act.put] | simp only [List.setIfInBounds_toArray] | simp only [List.set_cons_succ] | simp only [List.set_cons_zero])
          replace HQ := HQ.appB ho36 hg36 hp36
          replace BW := BW.trans hbb36
          clear ho36 hg36 hp36 hbb36 zb
          have zb : w2.heap.size ≤ d36.heap.size := BW.size
          refine wpAnyT_takeY (i := 8) (v := ?_) rfl (by kernel_rfl) (by kernel_rfl) (by kernel_rfl) (fun _ _ _ h => h) (Or.inl ⟨by rfl, ?_⟩) ?_
          rotate_left
          · intro wq; first | (go_simp; done) | (go_simp; with_reducible rfl)
          repeat (first | simp only [List.getElem_toArray] | simp only [List.getElem_cons_succ] | simp only [List.getElem_cons_zero] | simp only [Act.put] | simp only [List.setIfInBounds_toArray] | simp only [List.set_cons_succ] | simp only [List.set_cons_zero])
          refine wpAnyT_ready (rs := [10]) (by kernel_rfl) (by simp) ?_
          refine AllT.cons rfl (fun K hK => ?_) AllT.nil
          obtain ⟨KB, -, -, hS⟩ := HQ.box _ rfl
          have k0 := KB.cell 0 _ rfl
          have k1 := KB.cell 1 _ rfl
          have k2 := KB.free 0
          have k3 := KB.free 1
          have hSl := KB.lt
          have HH := Lib.hid (HQ.held BW)
          clear HQ KB
          go_simp
          refine hK.out _ _ (fun h _ => h.below' (B := w2.heap.size) (((Below.refl _ _).setCell (p := ⟨g34, 0, none⟩) hS _).setCell (p := ⟨g34, 1, none⟩) hS _) (by dsimp only; omega) (by dsimp only; omega) (by dsimp only; omega) (by dsimp only; omega)) ?_
          clear hK K
          repeat (first | simp only [List.getElem_toArray] | simp only [List.getElem_cons_succ] | simp only [List.getElem_cons_zero] | simp only [Act.put] | simp only [List.setIfInBounds_toArray] | simp only [List.set_cons_succ] | simp only [List.set_cons_zero])
          refine wpAnyT_done (by kernel_rfl) ?_ _
          clear k0 k1 k2 k3
          go_wp2_with fail
          go_meet
          exact HH.out
      · go_simp
        refine hK.out _ _ (fun h _ => h.below' (below_alloc d27 _) (by dsimp only; omega) (by dsimp only; omega) (by dsimp only; omega) (by dsimp only; omega)) ?_
        clear hK K
        repeat (first | simp only [List.getElem_toArray] | simp only [List.getElem_cons_succ] | simp only [List.getElem_cons_zero] | simp only [Act.put] | simp only [List.setIfInBounds_toArray] | simp only [List.set_cons_succ] | simp only [List.set_cons_zero])
        replace HQ := HQ.room zb 27
        obtain ⟨g37, hg37⟩ : ∃ g, g = d27.heap.size := ⟨_, rfl⟩
        rw [← hg37] at HQ ⊢
        replace BW := BW.alloc zb (.cells #[.slice none 0 0, .slice none 0 0] 27)
        clear zb hg37
        generalize d27.alloc (.cells #[.slice none 0 0, .slice none 0 0] 27) = d37 at *
        have zb : w2.heap.size ≤ d37.heap.size := BW.size
        refine wpAnyT_ready (rs := [0]) (by kernel_rfl) (by simp) ?_
        refine AllT.cons rfl (fun K hK => ?_) AllT.nil
        go_simp
        refine hK.out _ _ (fun h _ => h.below' (below_alloc d37 _) (by dsimp only; omega) (by dsimp only; omega) (by dsimp only; omega) (by dsimp only; omega)) ?_
        clear hK K
        repeat (first | simp only [List.getElem_toArray] | simp only [List.getElem_cons_succ] | simp only [List.getElem_cons_zero] | simp only [Act.put] | simp only [List.setIfInBounds_toArray] | simp only [List.set_cons_succ] | simp only [List.set_cons_zero])
        replace HQ := HQ.makeA zb
        obtain ⟨g38, hg38⟩ : ∃ g, g = d37.heap.size := ⟨_, rfl⟩
        rw [← hg38] at HQ ⊢
        replace BW := BW.alloc zb (.cells #[] 25)
        clear zb hg38
        generalize d37.alloc (.cells #[] 25) = d38 at *
        have zb : w2.heap.size ≤ d38.heap.size := BW.size
        refine wpAnyT_ready (rs := [3]) (by kernel_rfl) (by simp) ?_
        refine AllT.cons rfl (fun K hK => ?_) AllT.nil
        refine elF_.app_step (f := fV) (fun _ => rfl) _ (by rfl) _ _ (by rfl) (w2.heap.size) (.slice (some ⟨g38, 0, none⟩) 0 0) [] (by rfl) HQ.oA _ x0 (by rfl) (HR0.out.below (hT.trans (BW.mono hT.size))) (by omega) (by first | omega | (simp; omega)) zb ?_
        intro v39 d39 ho39 hg39 hbb39 hp39
        obtain ⟨g39, c39, rfl, -, -, -⟩ := ho39.form (by simp; omega)
        simp only [List.nil_append] at ho39 hp39 ⊢
        refine hK.out _ _ (fun h _ => h.below' hbb39 (by dsimp only; omega) (by dsimp only; omega) (by dsimp only; omega) (by dsimp only; omega)) ?_
        clear hK K
        repeat (first | simp only [List.getElem_toArray] | simp only [List.getElem_cons_succ] | simp only [List.getElem_cons_zero] | simp only [Act.put] | simp only [List.setIfInBounds_toArray] | simp only [List.set_cons_succ] | simp only [List.set_cons_zero])
        replace HQ := HQ.appA ho39 hg39 hp39
        replace BW := BW.trans hbb39
        clear ho39 hg39 hp39 hbb39 zb
        have zb : w2.heap.size ≤ d39.heap.size := BW.size
        refine wpAnyT_ready (rs := [7]) (by kernel_rfl) (by simp) ?_
        refine AllT.cons rfl (fun K hK => ?_) AllT.nil
        refine elF_.app_step (f := fV) (fun _ => rfl) _ (by rfl) _ _ (by rfl) (w2.heap.size) (.slice (some ⟨g27, 0, none⟩) 0 0) [] (by rfl) HQ.oB _ x1 (by rfl) (HR1.out.below (hT.trans (BW.mono hT.size))) (by omega) (by first | omega | (simp; omega)) zb ?_
        intro v40 d40 ho40 hg40 hbb40 hp40
        obtain ⟨g40, c40, rfl, -, -, -⟩ := ho40.form (by simp; omega)
        simp only [List.nil_append] at ho40 hp40 ⊢
        refine hK.out _ _ (fun h _ => h.below' hbb40 (by dsimp only; omega) (by dsimp only; omega) (by dsimp only; omega) (by dsimp only; omega)) ?_
        clear hK K
        repeat (first | simp only [List.getElem_toArray] | simp only [List.getElem_cons_succ] | simp only [List.getElem_cons_zero] | simp only [Act.put] | simp only [List.setIfInBounds_toArray] | simp only [List.set_cons_succ] | simp only [List.set_cons_zero])
        replace HQ := HQ.appB ho40 hg40 hp40
        replace BW := BW.trans hbb40
        clear ho40 hg40 hp40 hbb40 zb
        have zb : w2.heap.size ≤ d40.heap.size := BW.size
        refine wpAnyT_takeY (i := 8) (v := ?_) rfl (by kernel_rfl) (by kernel_rfl) (by kernel_rfl) (fun _ _ _ h => h) (Or.inl ⟨by rfl, ?_⟩) ?_
        rotate_left
        · intro wq; first | (go_simp; done) | (go_simp; with_reducible rfl)
        repeat (first | simp only [List.getElem_toArray] | simp only [List.getElem_cons_succ] | simp only [List.getElem_cons_zero] | simp only [Act.put] | simp only [List.setIfInBounds_toArray] | simp only [List.set_cons_succ] | simp only [List.set_cons_zero])
        refine wpAnyT_ready (rs := [10]) (by kernel_rfl) (by simp) ?_
        refine AllT.cons rfl (fun K hK => ?_) AllT.nil
        obtain ⟨KB, -, -, hS⟩ := HQ.box _ rfl
        have k0 := KB.cell 0 _ rfl
        have k1 := KB.cell 1 _ rfl
        have k2 := KB.free 0
        have k3 := KB.free 1
        have hSl := KB.lt
        have HH := Lib.hid (HQ.held BW)
        clear HQ KB
        go_simp
        refine hK.out _ _ (fun h _ => h.below' (B := w2.heap.size) (((Below.refl _ _).setCell (p := ⟨g37, 0, none⟩) hS _).setCell (p := ⟨g37, 1, none⟩) hS _) (by dsimp only; omega) (by dsimp only; omega) (by dsimp only; omega) (by dsimp only; omega)) ?_
        clear hK K
        repeat (first | simp only [List.getElem_toArray] | simp only [List.getElem_cons_succ] | simp only [List.getElem_cons_zero] | simp only [Act.put] | simp only [List.setIfInBounds_toArray] | simp only [List.set_cons_succ] | simp only [List.set_cons_zero])
        refine wpAnyT_done (by kernel_rfl) ?_ _
        clear k0 k1 k2 k3
        go_wp2_with fail
        go_meet
        exact HH.out
    · go_simp
      refine hK.out _ _ (fun h _ => h.below' (below_alloc d0 _) (by dsimp only; omega) (by dsimp only; omega) (by dsimp only; omega) (by dsimp only; omega)) ?_
      clear hK K
      repeat (first | simp only [List.getElem_toArray] | simp only [List.getElem_cons_succ] | simp only [List.getElem_cons_zero] | simp only [Act.put] | simp only [List.setIfInBounds_toArray] | simp only [List.set_cons_succ] | simp only [List.set_cons_zero])
      replace HQ := HQ.room zb 27
      obtain ⟨g41, hg41⟩ : ∃ g, g = d0.heap.size := ⟨_, rfl⟩
      rw [← hg41] at HQ ⊢
      replace BW := BW.alloc zb (.cells #[.slice none 0 0, .slice none 0 0] 27)
      clear zb hg41
      generalize d0.alloc (.cells #[.slice none 0 0, .slice none 0 0] 27) = d41 at *
      have zb : w2.heap.size ≤ d41.heap.size := BW.size
      refine wpAnyT_ready (rs := [0, 4]) (by kernel_rfl) (by simp) ?_
      refine AllT.cons rfl (fun K hK => ?_) (AllT.cons rfl (fun K hK => ?_) AllT.nil)
      · go_simp
        refine hK.out _ _ (fun h _ => h.below' (below_alloc d41 _) (by dsimp only; omega) (by dsimp only; omega) (by dsimp only; omega) (by dsimp only; omega)) ?_
        clear hK K
        repeat (first | simp only [List.getElem_toArray] | simp only [List.getElem_cons_succ] | simp only [List.getElem_cons_zero] | simp only [Act.put] | simp only [List.setIfInBounds_toArray] | simp only [List.set_cons_succ] | simp only [List.set_cons_zero])
        replace HQ := HQ.makeA zb
        obtain ⟨g42, hg42⟩ : ∃ g, g = d41.heap.size := ⟨_, rfl⟩
        rw [← hg42] at HQ ⊢
        replace BW := BW.alloc zb (.cells #[] 25)
        clear zb hg42
        generalize d41.alloc (.cells #[] 25) = d42 at *
        have zb : w2.heap.size ≤ d42.heap.size := BW.size
        refine wpAnyT_ready (rs := [3, 4]) (by kernel_rfl) (by simp) ?_
        refine AllT.cons rfl (fun K hK => ?_) (AllT.cons rfl (fun K hK => ?_) AllT.nil)
        · refine elF_.app_step (f := fV) (fun _ => rfl) _ (by rfl) _ _ (by rfl) (w2.heap.size) (.slice (some ⟨g42, 0, none⟩) 0 0) [] (by rfl) HQ.oA _ x0 (by rfl) (HR0.out.below (hT.trans (BW.mono hT.size))) (by omega) (by first | omega | (simp; omega)) zb ?_
          intro v43 d43 ho43 hg43 hbb43 hp43
          obtain ⟨g43, c43, rfl, -, -, -⟩ := ho43.form (by simp; omega)
          simp only [List.nil_append] at ho43 hp43 ⊢
          refine hK.out _ _ (fun h _ => h.below' hbb43 (by dsimp only; omega) (by dsimp only; omega) (by dsimp only; omega) (by dsimp only; omega)) ?_
          clear hK K
          repeat (first | simp only [List.getElem_toArray] | simp only [List.getElem_cons_succ] | simp only [List.getElem_cons_zero] | simp only [Act.put] | simp only [List.setIfInBounds_toArray] | simp only [List.set_cons_succ] | simp only [List.set_cons_zero])
          replace HQ := HQ.appA ho43 hg43 hp43
          replace BW := BW.trans hbb43
          clear ho43 hg43 hp43 hbb43 zb
          have zb : w2.heap.size ≤ d43.heap.size := BW.size
          refine wpAnyT_ready (rs := [4]) (by kernel_rfl) (by simp) ?_
          refine AllT.cons rfl (fun K hK => ?_) AllT.nil
          go_simp
          refine hK.out _ _ (fun h _ => h.below' (below_alloc d43 _) (by dsimp only; omega) (by dsimp only; omega) (by dsimp only; omega) (by dsimp only; omega)) ?_
          clear hK K
          repeat (first | simp only [List.getElem_toArray] | simp only [List.getElem_cons_succ] | simp only [List.getElem_cons_zero] | simp only [Act.put] | simp only [List.setIfInBounds_toArray] | simp only [List.set_cons_succ] | simp only [List.set_cons_zero])
          replace HQ := HQ.makeB zb
          obtain ⟨g44, hg44⟩ : ∃ g, g = d43.heap.size := ⟨_, rfl⟩
          rw [← hg44] at HQ ⊢
          replace BW := BW.alloc zb (.cells #[] 25)
          clear zb hg44
          generalize d43.alloc (.cells #[] 25) = d44 at *
          have zb : w2.heap.size ≤ d44.heap.size := BW.size
          refine wpAnyT_ready (rs := [7]) (by kernel_rfl) (by simp) ?_
          refine AllT.cons rfl (fun K hK => ?_) AllT.nil
          refine elF_.app_step (f := fV) (fun _ => rfl) _ (by rfl) _ _ (by rfl) (w2.heap.size) (.slice (some ⟨g44, 0, none⟩) 0 0) [] (by rfl) HQ.oB _ x1 (by rfl) (HR1.out.below (hT.trans (BW.mono hT.size))) (by omega) (by first | omega | (simp; omega)) zb ?_
          intro v45 d45 ho45 hg45 hbb45 hp45
          obtain ⟨g45, c45, rfl, -, -, -⟩ := ho45.form (by simp; omega)
          simp only [List.nil_append] at ho45 hp45 ⊢
          refine hK.out _ _ (fun h _ => h.below' hbb45 (by dsimp only; omega) (by dsimp only; omega) (by dsimp only; omega) (by dsimp only; omega)) ?_
          clear hK K
          repeat (first | simp only [List.getElem_toArray] | simp only [List.getElem_cons_succ] | simp only [List.getElem_cons_zero] | simp only [Act.put] | simp only [List.setIfInBounds_toArray] | simp only [List.set_cons_succ] | simp only [List.set_cons_zero])
          replace HQ := HQ.appB ho45 hg45 hp45
          replace BW := BW.trans hbb45
          clear ho45 hg45 hp45 hbb45 zb
          have zb : w2.heap.size ≤ d45.heap.size := BW.size
          refine wpAnyT_takeY (i := 8) (v := ?_) rfl (by kernel_rfl) (by kernel_rfl) (by kernel_rfl) (fun _ _ _ h => h) (Or.inl ⟨by rfl, ?_⟩) ?_
          rotate_left
          · intro wq; first | (go_simp; done) | (go_simp; with_reducible rfl)
          repeat (first | simp only [List.getElem_toArray] | simp only [List.getElem_cons_succ] | simp only [List.getElem_cons_zero] | simp only [Act.put] | simp only [List.setIfInBounds_toArray] | simp only [List.set_cons_succ] | simp only [List.set_cons_zero])
          refine wpAnyT_ready (rs := [10]) (by kernel_rfl) (by simp) ?_
          refine AllT.cons rfl (fun K hK => ?_) AllT.nil
          obtain ⟨KB, -, -, hS⟩ := HQ.box _ rfl
          have k0 := KB.cell 0 _ rfl
          have k1 := KB.cell 1 _ rfl
          have k2 := KB.free 0
          have k3 := KB.free 1
          have hSl := KB.lt
          have HH := Lib.hid (HQ.held BW)
          clear HQ KB
          go_simp
          refine hK.out _ _ (fun h _ => h.below' (B := w2.heap.size) (((Below.refl _ _).setCell (p := ⟨g41, 0, none⟩) hS _).setCell (p := ⟨g41, 1, none⟩) hS _) (by dsimp only; omega) (by dsimp only; omega) (by dsimp only; omega) (by dsimp only; omega)) ?_
          clear hK K
          repeat (first | simp only [List.getElem_toArray] | simp only [List.getElem_cons_succ] | simp only [List.getElem_cons_zero] | simp only [Act.put] | simp only [List.setIfInBounds_toArray] | simp only [List.set_cons_succ] | simp only [List.set_cons_zero])
          refine wpAnyT_done (by kernel_rfl) ?_ _
          clear k0 k1 k2 k3
          go_wp2_with fail
          go_meet
          exact HH.out
        · go_simp
          refine hK.out _ _ (fun h _ => h.below' (below_alloc d42 _) (by dsimp only; omega) (by dsimp only; omega) (by dsimp only; omega) (by dsimp only; omega)) ?_
          clear hK K
          repeat (first | simp only [List.getElem_toArray] | simp only [List.getElem_cons_succ] | simp only [List.getElem_cons_zero] | simp only [Act.put] | simp only [List.setIfInBounds_toArray] | simp only [List.set_cons_succ] | simp only [List.set_cons_zero])
          replace HQ := HQ.makeB zb
          obtain ⟨g46, hg46⟩ : ∃ g, g = d42.heap.size := ⟨_, rfl⟩
          rw [← hg46] at HQ ⊢
          replace BW := BW.alloc zb (.cells #[] 25)
          clear zb hg46
          generalize d42.alloc (.cells #[] 25) = d46 at *
          have zb : w2.heap.size ≤ d46.heap.size := BW.size
          refine wpAnyT_ready (rs := [3]) (by kernel_rfl) (by simp) ?_
          refine AllT.cons rfl (fun K hK => ?_) AllT.nil
          refine elF_.app_step (f := fV) (fun _ => rfl) _ (by rfl) _ _ (by rfl) (w2.heap.size) (.slice (some ⟨g42, 0, none⟩) 0 0) [] (by rfl) HQ.oA _ x0 (by rfl) (HR0.out.below (hT.trans (BW.mono hT.size))) (by omega) (by first | omega | (simp; omega)) zb ?_
          intro v47 d47 ho47 hg47 hbb47 hp47
          obtain ⟨g47, c47, rfl, -, -, -⟩ := ho47.form (by simp; omega)
          simp only [List.nil_append] at ho47 hp47 ⊢
          refine hK.out _ _ (fun h _ => h.below' hbb47 (by dsimp only; omega) (by dsimp only; omega) (by dsimp only; omega) (by dsimp only; omega)) ?_
          clear hK K
          repeat (first | simp only [List.getElem_toArray] | simp only [List.getElem_cons_succ] | simp only [List.getElem_cons_zero] | simp only [Act.put] | simp only [List.setIfInBounds_toArray] | simp only [List.set_cons_succ] | simp only [List.set_cons_zero])
          replace HQ := HQ.appA ho47 hg47 hp47
          replace BW := BW.trans hbb47
          clear ho47 hg47 hp47 hbb47 zb
          have zb : w2.heap.size ≤ d47.heap.size := BW.size
          refine wpAnyT_ready (rs := [7]) (by kernel_rfl) (by simp) ?_
          refine AllT.cons rfl (fun K hK => ?_) AllT.nil
          refine elF_.app_step (f := fV) (fun _ => rfl) _ (by rfl) _ _ (by rfl) (w2.heap.size) (.slice (some ⟨g46, 0, none⟩) 0 0) [] (by rfl) HQ.oB _ x1 (by rfl) (HR1.out.below (hT.trans (BW.mono hT.size))) (by omega) (by first | omega | (simp; omega)) zb ?_
          intro v48 d48 ho48 hg48 hbb48 hp48
          obtain ⟨g48, c48, rfl, -, -, -⟩ := ho48.form (by simp; omega)
          simp only [List.nil_append] at ho48 hp48 ⊢
          refine hK.out _ _ (fun h _ => h.below' hbb48 (by dsimp only; omega) (by dsimp only; omega) (by dsimp only; omega) (by dsimp only; omega)) ?_
          clear hK K
          repeat (first | simp only [List.getElem_toArray] | simp only [List.getElem_cons_succ] | simp only [List.getElem_cons_zero] | simp only [Act.put] | simp only [List.setIfInBounds_toArray] | simp only [List.set_cons_succ] | simp only [List.set_cons_zero])
          replace HQ := HQ.appB ho48 hg48 hp48
          replace BW := BW.trans hbb48
          clear ho48 hg48 hp48 hbb48 zb
          have zb : w2.heap.size ≤ d48.heap.size := BW.size
          refine wpAnyT_takeY (i := 8) (v := ?_) rfl (by kernel_rfl) (by kernel_rfl) (by kernel_rfl) (fun _ _ _ h => h) (Or.inl ⟨by rfl, ?_⟩) ?_
          rotate_left
          · intro wq; first | (go_simp; done) | (go_simp; with_reducible rfl)
          repeat (first | simp only [List.getElem_toArray] | simp only [List.getElem_cons_succ] | simp only [List.getElem_cons_zero] | simp only [Act.put] | simp only [List.setIfInBounds_toArray] | simp only [List.set_cons_succ] | simp only [List.set_cons_zero])
          refine wpAnyT_ready (rs := [10]) (by kernel_rfl) (by simp) ?_
          refine AllT.cons rfl (fun K hK => ?_) AllT.nil
          obtain ⟨KB, -, -, hS⟩ := HQ.box _ rfl
          have k0 := KB.cell 0 _ rfl
          have k1 := KB.cell 1 _ rfl
          have k2 := KB.free 0
          have k3 := KB.free 1
          have hSl := KB.lt
          have HH := Lib.hid (HQ.held BW)
          clear HQ KB
          go_simp
          refine hK.out _ _ (fun h _ => h.below' (B := w2.heap.size) (((Below.refl _ _).setCell (p := ⟨g41, 0, none⟩) hS _).setCell (p := ⟨g41, 1, none⟩) hS _) (by dsimp only; omega) (by dsimp only; omega) (by dsimp only; omega) (by dsimp only; omega)) ?_
          clear hK K
          repeat (first | simp only [List.getElem_toArray] | simp only [List.getElem_cons_succ] | simp only [List.getElem_cons_zero] | simp only [Act.put] | simp only [List.setIfInBounds_toArray] | simp only [List.set_cons_succ] | simp only [List.set_cons_zero])
          refine wpAnyT_done (by kernel_rfl) ?_ _
          clear k0 k1 k2 k3
          go_wp2_with fail
          go_meet
          exact HH.out
      · go_simp
        refine hK.out _ _ (fun h _ => h.below' (below_alloc d41 _) (by dsimp only; omega) (by dsimp only; omega) (by dsimp only; omega) (by dsimp only; omega)) ?_
        clear hK K
        repeat (first | simp only [List.getElem_toArray] | simp only [List.getElem_cons_succ] | simp only [List.getElem_cons_zero] | simp only [Act.put] | simp only [List.setIfInBounds_toArray] | simp only [List.set_cons_succ] | simp only [List.set_cons_zero])
        replace HQ := HQ.makeB zb
        obtain ⟨g49, hg49⟩ : ∃ g, g = d41.heap.size := ⟨_, rfl⟩
        rw [← hg49] at HQ ⊢
        replace BW := BW.alloc zb (.cells #[] 25)
        clear zb hg49
        generalize d41.alloc (.cells #[] 25) = d49 at *
        have zb : w2.heap.size ≤ d49.heap.size := BW.size
        refine wpAnyT_ready (rs := [0]) (by kernel_rfl) (by simp) ?_
        refine AllT.cons rfl (fun K hK => ?_) AllT.nil
        go_simp
        refine hK.out _ _ (fun h _ => h.below' (below_alloc d49 _) (by dsimp only; omega) (by dsimp only; omega) (by dsimp only; omega) (by dsimp only; omega)) ?_
        clear hK K
        repeat (first | simp only [List.getElem_toArray] | simp only [List.getElem_cons_succ] | simp only [List.getElem_cons_zero] | simp only [Act.put] | simp only [List.setIfInBounds_toArray] | simp only [List.set_cons_succ] | simp only [List.set_cons_zero])
        replace HQ := HQ.makeA zb
        obtain ⟨g50, hg50⟩ : ∃ g, g = d49.heap.size := ⟨_, rfl⟩
        rw [← hg50] at HQ ⊢
        replace BW := BW.alloc zb (.cells #[] 25)
        clear zb hg50
        generalize d49.alloc (.cells #[] 25) = d50 at *
        have zb : w2.heap.size ≤ d50.heap.size := BW.size
        refine wpAnyT_ready (rs := [3]) (by kernel_rfl) (by simp) ?_
        refine AllT.cons rfl (fun K hK => ?_) AllT.nil
        refine elF_.app_step (f := fV) (fun _ => rfl) _ (by rfl) _ _ (by rfl) (w2.heap.size) (.slice (some ⟨g50, 0, none⟩) 0 0) [] (by rfl) HQ.oA _ x0 (by rfl) (HR0.out.below (hT.trans (BW.mono hT.size))) (by omega) (by first | omega | (simp; omega)) zb ?_
        intro v51 d51 ho51 hg51 hbb51 hp51
        obtain ⟨g51, c51, rfl, -, -, -⟩ := ho51.form (by simp; omega)
        simp only [List.nil_append] at ho51 hp51 ⊢
        refine hK.out _ _ (fun h _ => h.below' hbb51 (by dsimp only; omega) (by dsimp only; omega) (by dsimp only; omega) (by dsimp only; omega)) ?_
        clear hK K
        repeat (first | simp only [List.getElem_toArray] | simp only [List.getElem_cons_succ] | simp only [List.getElem_cons_zero] | simp only [Act.put] | simp only [List.setIfInBounds_toArray] | simp only [List.set_cons_succ] | simp only [List.set_cons_zero])
        replace HQ := HQ.appA ho51 hg51 hp51
        replace BW := BW.trans hbb51
        clear ho51 hg51 hp51 hbb51 zb
        have zb : w2.heap.size ≤ d51.heap.size := BW.size
        refine wpAnyT_ready (rs := [7]) (by kernel_rfl) (by simp) ?_
        refine AllT.cons rfl (fun K hK => ?_) AllT.nil
        refine elF_.app_step (f := fV) (fun _ => rfl) _ (by rfl) _ _ (by rfl) (w2.heap.size) (.slice (some ⟨g49, 0, none⟩) 0 0) [] (by rfl) HQ.oB _ x1 (by rfl) (HR1.out.below (hT.trans (BW.mono hT.size))) (by omega) (by first | omega | (simp; omega)) zb ?_
        intro v52 d52 ho52 hg52 hbb52 hp52
        obtain ⟨g52, c52, rfl, -, -, -⟩ := ho52.form (by simp; omega)
        simp only [List.nil_append] at ho52 hp52 ⊢
        refine hK.out _ _ (fun h _ => h.below' hbb52 (by dsimp only; omega) (by dsimp only; omega) (by dsimp only; omega) (by dsimp only; omega)) ?_
        clear hK K
        repeat (first | simp only [List.getElem_toArray] | simp only [List.getElem_cons_succ] | simp only [List.getElem_cons_zero] | simp only [Act.put] | simp only [List.setIfInBounds_toArray] | simp only [List.set_cons_succ] | simp only [List.set_cons_zero])
        replace HQ := HQ.appB ho52 hg52 hp52
        replace BW := BW.trans hbb52
        clear ho52 hg52 hp52 hbb52 zb
        have zb : w2.heap.size ≤ d52.heap.size := BW.size
        refine wpAnyT_takeY (i := 8) (v := ?_) rfl (by kernel_rfl) (by kernel_rfl) (by kernel_rfl) (fun _ _ _ h => h) (Or.inl ⟨by rfl, ?_⟩) ?_
        rotate_left
        · intro wq; first | (go_simp; done) | (go_simp; with_reducible rfl)
        repeat (first | simp only [List.getElem_toArray] | simp only [List.getElem_cons_succ] | simp only [List.getElem_cons_zero] | simp only [Act.put] | simp only [List.setIfInBounds_toArray] | simp only [List.set_cons_succ] | simp only [List.set_cons_zero])
        refine wpAnyT_ready (rs := [10]) (by kernel_rfl) (by simp) ?_
        refine AllT.cons rfl (fun K hK => ?_) AllT.nil
        obtain ⟨KB, -, -, hS⟩ := HQ.box _ rfl
        have k0 := KB.cell 0 _ rfl
        have k1 := KB.cell 1 _ rfl
        have k2 := KB.free 0
        have k3 := KB.free 1
        have hSl := KB.lt
        have HH := Lib.hid (HQ.held BW)
        clear HQ KB
        go_simp
        refine hK.out _ _ (fun h _ => h.below' (B := w2.heap.size) (((Below.refl _ _).setCell (p := ⟨g41, 0, none⟩) hS _).setCell (p := ⟨g41, 1, none⟩) hS _) (by dsimp only; omega) (by dsimp only; omega) (by dsimp only; omega) (by dsimp only; omega)) ?_
        clear hK K
        repeat (first | simp only [List.getElem_toArray] | simp only [List.getElem_cons_succ] | simp only [List.getElem_cons_zero] | simp only [Act.put] | simp only [List.setIfInBounds_toArray] | simp only [List.set_cons_succ] | simp only [List.set_cons_zero])
        refine wpAnyT_done (by kernel_rfl) ?_ _
        clear k0 k1 k2 k3
        go_wp2_with fail
        go_meet
        exact HH.out
  obtain ⟨w3, hwc⟩ : ∃ W, W = wc := ⟨_, rfl⟩
  subst hwc
  obtain ⟨S, v0, v1, rfl, hG, hb, hS⟩ := hcut
  clear c0 c1 hlt0
  go_wp2
  go_loopw [7] (fun si wr => ∃ (j : Nat) (v0 v1 : Value) (y0 y1 : List Nat), (j : Int) + 1 ≤ n ∧ si = .int .i64 (j + 1) ∧ SumSt x0 x1 true j y0 y1 ∧ y0.length ≤ 1099511627 ∧ y1.length ≤ 1099511627 ∧ Grow wr w2.heap.size S v0 v1 y0 y1 ∧ Below w2.heap.size w2 wr) (fun si _ => 20 - (intOf si).toNat)
  case atStart => exact ⟨0, v0, v1, x0, x1, by omega, by first | rfl | go_num, sumSt_start Hs.out, by omega, by omega, hG, hb⟩
  case round =>
    clear hG hb
    obtain ⟨j, v0, v1, y0, y1, hj, rfl, hst, hl0, hl1, hG, hb⟩ := hrel
    obtain ⟨E0, ce0, rfl, -, -⟩ := hG.o0.rd
    obtain ⟨E1, ce1, rfl, -, -⟩ := hG.o1.rd
    have hTr : Below w.heap.size w wr := hT.trans (hb.mono hT.size)
    have B1r := B1.below hb
    have hSl := hG.box.lt
    have g0 := hG.box.cell 0 _ rfl
    have g1 := hG.box.cell 1 _ rfl
    have r0 := B1r.cell 0 _ rfl
    have r1 := B1r.cell 1 _ rfl
    have f0 := B1r.free 0
    have f1 := B1r.free 1
    have hW' : w.heap.size + 1 < wr.heap.size := by have := hb.size; omega
    by_cases hlt : (j : Int) + 1 < n
    · obtain ⟨hs1, hs2⟩ := sumSt_t hst
      have B0r := B0.below hb
      have HST := Lib.hid hst
      have HS2 := Lib.hid hs2
      clear hst hs1 hs2 r0 r1 f0 f1
      go_wp2_with fail
      refine (l05Pairs_any true _ _ _ y0 _ y1 _ x0 _ x1 HS2.out Hs.out _ hG.box B0r hG.o0.rd hG.o1.rd (HR0.out.below hTr) (HR1.out.below hTr)).mono ?_
      rintro e w6 ⟨u0, z0, u1, z1, rfl, o0, o1, ap, l0, l1, a0, a1, hb6⟩
      obtain ⟨F0, cf0, rfl, -, -⟩ := o0.rd
      obtain ⟨F1, cf1, rfl, -, -⟩ := o1.rd
      have hc : combOk (pairG true) y0 y1 x0 x1 = gatOk (combV (pairG true) y0 x0) (combC y1 x1) := combOk_t (by unfold combG; rw [HS2.out, Hs.out]; rfl)
      rw [← hc] at a0 a1 ⊢
      have HST2 := Lib.hid (sumSt_step Hs.out HST.out a0 a1)
      obtain ⟨OK, hOK⟩ : ∃ b, b = combOk (pairG true) y0 y1 x0 x1 := ⟨_, rfl⟩
      rw [← hOK] at HST2 ⊢
      clear hOK a0 a1 hc
      have KB := hG.box.below hb6
      have HG2 := Lib.hid (grow_put (base := w2.heap.size) (KB.alloc (.cells #[.slice F0 z0.length cf0, .slice F1 z1.length cf1] 27)) (w5 := wr) (o0.alloc _) (o1.alloc _) ap hSl hb.size)
      have hb7 : Below w2.heap.size w2 (w6.alloc (.cells #[.slice F0 z0.length cf0, .slice F1 z1.length cf1] 27)) := (hb.trans (hb6.mono hb.size)).alloc (Nat.le_trans hb.size hb6.size) _
      have HB6 := Lib.hid ((hb7.setCell (p := ⟨S, 0, none⟩) hS (.slice F0 z0.length cf0)).setCell (p := ⟨S, 1, none⟩) hS (.slice F1 z1.length cf1))
      have hS6 := KB.lt
      clear o0 o1 ap g0 g1 hG hTr B0r
      go_upto_region 8 with fail
      have KN := BoxAt.new w6 [.slice F0 z0.length cf0, .slice F1 z1.length cf1] 27
      replace KB := KB.alloc (.cells #[.slice F0 z0.length cf0, .slice F1 z1.length cf1] 27)
      have B1n := (B1r.below hb6).alloc (.cells #[.slice F0 z0.length cf0, .slice F1 z1.length cf1] 27)
      have hsz6 := hb6.size
      obtain ⟨N, hN⟩ : ∃ N, N = w6.heap.size := ⟨_, rfl⟩
      rw [← hN] at KN ⊢
      have hNS : N ≠ S := by omega
      generalize World.alloc w6 _ = w7 at *
      clear hN
      cases OK
      · obtain ⟨h1, -, -⟩ := HST2.out
        have Ho : Hid (sumOk x0 x1 n = false) := sumOk_none (by have hd := sumIt_none h1 (n.toNat - 1 - (j + 1)); rwa [show j + 1 + (n.toNat - 1 - (j + 1)) = n.toNat - 1 by omega] at hd)
        have hTn : Below w.heap.size w w7 := hT.trans (hb7.mono hT.size)
        have d0 := B1n.cell 0 _ rfl
        have d1 := B1n.cell 1 _ rfl
        have f0 := B1n.free 0
        have f1 := B1n.free 1
        have hB1 := B1n.lt
        have HT := Lib.hid hTn
        clear hTn hT B1r B1n KB KN hb6 hb7 h1 HST2 HG2 HB6
        go_wp2
        refine bodyPost_ret (v := .tuple #[shV (.slice none 0 0) (.slice none 0 0), .bool false]) (by simp [results, Try.results35, go_sem, *]) rfl ?_
        unfold RetSumShare
        rw [Ho.out]
        exact RetSh.none ((HT.out.setCell (by first | (simp; done) | (simp; omega)) _).setCell (by first | (simp; done) | (simp; omega)) _)
      · have k0 := KB.cell 0 _ rfl
        have k1 := KB.cell 1 _ rfl
        have k2 := KB.free 0
        have k3 := KB.free 1
        have hS7 := KB.lt
        have hN7 := KN.lt
        have n0 := KN.cell 0 _ rfl
        have n1 := KN.cell 1 _ rfl
        clear B1r B1n KB KN hb6 hb7
        go_wp2
        go_roundw
        case rel => exact ⟨j + 1, _, _, z0, z1, by omega, by go_num, HST2.out, l0, l1, HG2.out, HB6.out⟩
        case measure => simp [intOf]; omega
    · obtain ⟨e1, e2, e3⟩ := sumSt_end HG.out hst hj (fun _ => by omega)
      have HF := Lib.hid (fun u v => retSh_stored (w := w) (w5 := w2) (b := w.heap.size + 1) hG.o0 hG.o1 hG.ap hl0 hl1 e2 e3 hTr (by omega) (by omega) hT.size u v)
      have HE1 := Lib.hid e1
      clear e1 e2 e3 hst hG hb hTr B1r hT B0 B1
      go_wp2
      refine bodyPost_ret (v := .tuple #[shV (.slice E0 y0.length ce0) (.slice E1 y1.length ce1), .bool true]) (by simp [results, Try.results35, go_sem, *]) rfl ?_
      unfold RetSumShare
      rw [HE1.out]
      exact HF.out _ _
end Go.Proofs.Ytkohhhmllekokaa
