/-
  SumShare, walked in the program and in the reference.
-/
import Derived.Test.YtjajlddnhmbekaaSumP
import Derived.Test.YtjajlddnhmbekaaAdd
import Derived.Test.YtjajlddnhmbekaaCloneF
import Derived.Test.YtjajlddnhmbekaaWithin
import Derived.Test.YtjajlddnhmbekaaOrdT
import Derived.Deep.DeepCutAuto
import Derived.Deep.RegionHeld3
namespace Go.Proofs.Ytjajlddnhmbekaa
open Go.RowKit

/-- A variable that holds two rows which nothing else holds. -/
def Held (x0 x1 : List Nat) (w1 wx : World) (sp : Value) : Prop :=
  ∃ S v0 v1, sp = .pointer (some ⟨S, 0, none⟩) ∧ Grow wx w1.heap.size S v0 v1 x0 x1 ∧ Below w1.heap.size w1 wx ∧ w1.heap.size ≤ S
section
variable {wr wA wB : World} {vA vB : Value} {xs ys : List Nat} {T : TypeId}
theorem held_last (hbA : Below wr.drew.heap.size wr.drew wA) (oA : Own fV 28 wA wr.drew.heap.size vA xs) (hbB : Below wA.heap.size wA wB) (oB : Own fV 28 wB wA.heap.size vB ys) :
    Held xs ys wr (wB.alloc (.cells #[vA, vB] T)) (.pointer (some ⟨wB.heap.size, 0, none⟩)) := by
  obtain ⟨h1, h2, h3⟩ := grow_last (T := T) hbA oA hbB oB
  exact ⟨_, _, _, rfl, h1, h2, h3⟩
theorem held_first {o : Obj} (hbA : Below (wr.alloc o).drew.heap.size (wr.alloc o).drew wA) (oA : Own fV 28 wA (wr.alloc o).drew.heap.size vA xs) (hbB : Below wA.heap.size wA wB) (oB : Own fV 28 wB wA.heap.size vB ys) (KC : BoxAt wB wr.heap.size [.slice none 0 0, .slice none 0 0]) :
    Held xs ys wr ((wB.setCell ⟨wr.heap.size, 0, none⟩ vA).setCell ⟨wr.heap.size, 1, none⟩ vB) (.pointer (some ⟨wr.heap.size, 0, none⟩)) := by
  obtain ⟨h1, h2, h3⟩ := grow_first hbA oA hbB oB KC
  exact ⟨_, _, _, rfl, h1, h2, h3⟩
theorem held_mid {o : Obj} (hbA : Below wr.drew.heap.size wr.drew wA) (oA : Own fV 28 wA wr.drew.heap.size vA xs) (hbB : Below (wA.alloc o).heap.size (wA.alloc o) wB) (oB : Own fV 28 wB (wA.alloc o).heap.size vB ys) (KC : BoxAt wB wA.heap.size [.slice none 0 0, .slice none 0 0]) :
    Held xs ys wr ((wB.setCell ⟨wA.heap.size, 0, none⟩ vA).setCell ⟨wA.heap.size, 1, none⟩ vB) (.pointer (some ⟨wA.heap.size, 0, none⟩)) := by
  obtain ⟨h1, h2, h3⟩ := grow_mid hbA oA hbB oB KC
  exact ⟨_, _, _, rfl, h1, h2, h3⟩
end
/-- Two rows in the making, and perhaps the variable for them. -/
structure Q3 (base : Nat) (w : World) (vA : Value) (xA : List Nat) (vB : Value) (xB : List Nat) (S : Option Nat) : Prop where
  oA : Own fV 28 w base vA xA
  oB : Own fV 28 w base vB xB
  ap : vA.ownBlock = none ∨ vA.ownBlock ≠ vB.ownBlock
  box : ∀ s, S = some s → BoxAt w s [.slice none 0 0, .slice none 0 0] ∧ vA.ownBlock ≠ some s ∧ vB.ownBlock ≠ some s ∧ base ≤ s
section
variable {base : Nat} {w w' : World} {vA vB v' : Value} {xA xB ys : List Nat} {S : Option Nat}
theorem Q3.nil (base : Nat) (w : World) : Q3 base w (.slice none 0 0) [] (.slice none 0 0) [] none := ⟨Own.nil, Own.nil, .inl rfl, fun s h => by cases h⟩
theorem Q3.makeA (h : Q3 base w vA xA vB xB S) (hb : base ≤ w.heap.size) : Q3 base (w.alloc (.cells #[] 28)) (.slice (some ⟨w.heap.size, 0, none⟩) 0 0) [] vB xB S := by
  refine ⟨(own_nil_new fV w _).base_ hb, h.oB.alloc _, .inr fun e => ?_, fun s hs => ?_⟩
  · have h9 := (h.oB.lt _ e.symm).2; simp at h9
  · obtain ⟨k1, k2, k3, k4⟩ := h.box s hs
    exact ⟨k1.alloc _, fun e => by have hl := k1.lt; simp [Value.ownBlock] at e; omega, k3, k4⟩
theorem Q3.makeB (h : Q3 base w vA xA vB xB S) (hb : base ≤ w.heap.size) : Q3 base (w.alloc (.cells #[] 28)) vA xA (.slice (some ⟨w.heap.size, 0, none⟩) 0 0) [] S := by
  refine ⟨h.oA.alloc _, (own_nil_new fV w _).base_ hb, .inr fun e => ?_, fun s hs => ?_⟩
  · have h9 := (h.oA.lt _ e).2; simp at h9
  · obtain ⟨k1, k2, k3, k4⟩ := h.box s hs
    exact ⟨k1.alloc _, k2, fun e => by have hl := k1.lt; simp [Value.ownBlock] at e; omega, k4⟩
theorem Q3.appA (h : Q3 base w vA xA vB xB S) (ho : Own fV 28 w' base v' ys) (hg : w.grownBy w' vA.ownBlock) (hp : v'.ownBlock = vA.ownBlock ∨ v'.ownBlock = some w.heap.size) : Q3 base w' v' ys vB xB S := by
  refine ⟨ho, h.oB.kept hg (apart_symm h.ap), own_apart h.oB h.ap (Nat.le_refl _) hp, fun s hs => ?_⟩
  obtain ⟨k1, k2, k3, k4⟩ := h.box s hs
  refine ⟨k1.kept hg k2, fun e => ?_, k3, k4⟩
  rcases hp with e' | e'
  · exact k2 (e'.symm.trans e)
  · have hl := k1.lt
    rw [e'] at e; injection e with e; omega
theorem Q3.appB (h : Q3 base w vA xA vB xB S) (ho : Own fV 28 w' base v' ys) (hg : w.grownBy w' vB.ownBlock) (hp : v'.ownBlock = vB.ownBlock ∨ v'.ownBlock = some w.heap.size) : Q3 base w' vA xA v' ys S := by
  refine ⟨h.oA.kept hg h.ap, ho, own_apart2 h.oA h.ap hp, fun s hs => ?_⟩
  obtain ⟨k1, k2, k3, k4⟩ := h.box s hs
  refine ⟨k1.kept hg k3, k2, fun e => ?_, k4⟩
  rcases hp with e' | e'
  · exact k3 (e'.symm.trans e)
  · have hl := k1.lt
    rw [e'] at e; injection e with e; omega
theorem Q3.room (h : Q3 base w vA xA vB xB none) (hb : base ≤ w.heap.size) (T : TypeId) : Q3 base (w.alloc (.cells #[.slice none 0 0, .slice none 0 0] T)) vA xA vB xB (some w.heap.size) := by
  refine ⟨h.oA.alloc _, h.oB.alloc _, h.ap, fun s hs => ?_⟩
  injection hs with hs
  subst hs
  exact ⟨BoxAt.new w [.slice none 0 0, .slice none 0 0] T, fun e => by have := (h.oA.lt _ e).2; omega, fun e => by have := (h.oB.lt _ e).2; omega, hb⟩
theorem Q3.held {w1 : World} {s : Nat} {x0 x1 : List Nat} (h : Q3 w1.heap.size w vA x0 vB x1 (some s)) (hb : Below w1.heap.size w1 w) : Held x0 x1 w1 ((w.setCell ⟨s, 0, none⟩ vA).setCell ⟨s, 1, none⟩ vB) (.pointer (some ⟨s, 0, none⟩)) := by
  obtain ⟨k1, k2, k3, k4⟩ := h.box s rfl
  exact ⟨s, vA, vB, rfl, ⟨(k1.set (i := 0) rfl vA).set (i := 1) rfl vB, Own.other (Own.other h.oA k2 _) k2 _, Own.other (Own.other h.oB k3 _) k3 _, k2, k3, h.ap⟩, (hb.setCell (p := ⟨s, 0, none⟩) k4 _).setCell (p := ⟨s, 1, none⟩) k4 _, k4⟩
end
/-- New rows take the place of the old ones. -/
theorem grow_put {w5 w6 : World} {base S : Nat} {u0 u1 z0' z1' : Value} {z0 z1 : List Nat} (KB : BoxAt w6 S [z0', z1']) (o0 : Own fV 28 w6 w5.heap.size u0 z0) (o1 : Own fV 28 w6 w5.heap.size u1 z1) (ap : u0.ownBlock = none ∨ u0.ownBlock ≠ u1.ownBlock) (hS : S < w5.heap.size) (hb : base ≤ w5.heap.size) :
    Grow ((w6.setCell ⟨S, 0, none⟩ u0).setCell ⟨S, 1, none⟩ u1) base S u0 u1 z0 z1 := by
  have n0 : u0.ownBlock ≠ some S := fun e => by have := (o0.lt _ e).1; omega
  have n1 : u1.ownBlock ≠ some S := fun e => by have := (o1.lt _ e).1; omega
  exact ⟨(KB.set (i := 0) rfl u0).set (i := 1) rfl u1, Own.other (Own.other (o0.base_ hb) n0 _) n0 _, Own.other (Own.other (o1.base_ hb) n1 _) n1 _, n0, n1, ap⟩

set_option maxHeartbeats 3200000 in
set_option maxRecDepth 100000 in
theorem implSumShare_any (s0 : Value) (x0 : List Nat) (s1 : Value) (x1 : List Nat) (hn0 : x0.length ≤ 1099511627776) (hn1 : x1.length ≤ 1099511627776) (n : Int) (w : World) (hr0 : Rd fV w s0 x0) (hr1 : Rd fV w s1 x1) :
    Calls Try.prog 16 #[shV s0 s1, .int .i64 n] w (RetSumShare x0 x1 n w) := by
  have HR0 := Lib.hid hr0
  obtain ⟨A0, cap0, rfl, hcap0, hA0⟩ := hr0
  have HA0 := Lib.hid hA0
  clear hA0
  have HR1 := Lib.hid hr1
  obtain ⟨A1, cap1, rfl, hcap1, hA1⟩ := hr1
  have HA1 := Lib.hid hA1
  clear hA1
  go_enter Try.func16, Try.ntmps16
  go_wp2_with fail
  have B0 : BoxAt ((w.alloc (.cells ([.slice A0 x0.length cap0, .slice A1 x1.length cap1] : List Value).toArray 26)).alloc (.cells ([.slice none 0 0, .slice none 0 0] : List Value).toArray 26)) w.heap.size [.slice A0 x0.length cap0, .slice A1 x1.length cap1] := (BoxAt.new w _ _).alloc _
  have B1 : BoxAt ((w.alloc (.cells ([.slice A0 x0.length cap0, .slice A1 x1.length cap1] : List Value).toArray 26)).alloc (.cells ([.slice none 0 0, .slice none 0 0] : List Value).toArray 26)) (w.heap.size + 1) [.slice none 0 0, .slice none 0 0] := by
    have := BoxAt.new (w.alloc (.cells ([.slice A0 x0.length cap0, .slice A1 x1.length cap1] : List Value).toArray 26)) [.slice none 0 0, .slice none 0 0] 26
    rwa [size_alloc] at this
  have hT : Below w.heap.size w ((w.alloc (.cells ([.slice A0 x0.length cap0, .slice A1 x1.length cap1] : List Value).toArray 26)).alloc (.cells ([.slice none 0 0, .slice none 0 0] : List Value).toArray 26)) := ((Below.refl _ _).alloc (Nat.le_refl _) _).alloc (by simp) _
  have hW : w.heap.size + 2 ≤ ((w.alloc (.cells ([.slice A0 x0.length cap0, .slice A1 x1.length cap1] : List Value).toArray 26)).alloc (.cells ([.slice none 0 0, .slice none 0 0] : List Value).toArray 26)).heap.size := by simp
  generalize hg : (w.alloc _).alloc _ = W0 at *
  clear hg
  refine (implValidShare_any _ x0 _ x1 hn0 hn1 _ (HR0.out.below hT) (HR1.out.below hT)).mono ?_
  rintro e w1 ⟨rfl, hb⟩
  replace hW : w.heap.size + 2 ≤ w1.heap.size := Nat.le_trans hW hb.size
  replace B0 := B0.below hb
  replace B1 := B1.below hb
  replace hT := below_to hT hb hT.size
  clear hb
  cases hs : shareB x0 x1
  · have Ho := Lib.hid (sumOk_f (n := n) (show sumG x0 x1 n = false by unfold sumG; rw [hs]; rfl))
    clear hs
    have d0 := B1.cell 0 _ rfl
    have d1 := B1.cell 1 _ rfl
    have f0 := B1.free 0
    have f1 := B1.free 1
    have HT := Lib.hid hT
    clear hT
    go_wp2
    refine bodyPost_ret (v := .tuple #[shV (.slice none 0 0) (.slice none 0 0), .bool false]) (by simp [results, Try.results16, go_sem, *]) rfl ?_
    unfold RetSumShare
    rw [Ho.out]
    exact RetSh.none ((HT.out.setCell (by first | (simp; done) | (simp; omega)) _).setCell (by first | (simp; done) | (simp; omega)) _)
  have Hs := Lib.hid hs
  have hl := shareB_len hs
  have h64 : x0.length ≤ 64 := hl.1.2
  have h641 : x1.length ≤ 64 := by have := hl.2; omega
  clear hs hl
  go_wp2_with fail
  refine (within_any _ _ _ _).mono ?_
  rintro e w9 ⟨rfl, rfl⟩
  cases hin : inB n 1 16
  · have Ho := Lib.hid (sumOk_f (show sumG x0 x1 n = false by unfold sumG; rw [hin]; simp))
    clear hin
    have d0 := B1.cell 0 _ rfl
    have d1 := B1.cell 1 _ rfl
    have f0 := B1.free 0
    have f1 := B1.free 1
    have HT := Lib.hid hT
    clear hT
    go_wp2
    refine bodyPost_ret (v := .tuple #[shV (.slice none 0 0) (.slice none 0 0), .bool false]) (by simp [results, Try.results16, go_sem, *]) rfl ?_
    unfold RetSumShare
    rw [Ho.out]
    exact RetSh.none ((HT.out.setCell (by first | (simp; done) | (simp; omega)) _).setCell (by first | (simp; done) | (simp; omega)) _)
  have HG := Lib.hid (show sumG x0 x1 n = true by unfold sumG; rw [Hs.out, hin]; rfl)
  obtain ⟨hn1', hn16⟩ := inB_true hin
  clear hin
  obtain ⟨w2, rfl⟩ : ∃ w2, w2 = w1 := ⟨_, rfl⟩
  have c0 := B0.cell 0 _ rfl
  have c1 := B0.cell 1 _ rfl
  have hlt0 := B0.lt
  go_upto_region 3 with fail
  go_cut [6, 7] (fun sp so wx => Held x0 x1 w2 wx sp ∧ so = .bool true)
  case first =>
    go_region_held3 (fun w' => w'.cell? ⟨w.heap.size, 0, none⟩ = some (.slice A0 x0.length cap0) ∧ w'.cell? ⟨w.heap.size, 1, none⟩ = some (.slice A1 x1.length cap1))
      (first
        | go_keep
        | (refine ⟨?_, ?_⟩ <;> (rw [((below_to (below_to (Below.refl w2.heap.size w2).drew hbA (by simp)) hbB (by have q8 := hbA.size; simp at q8 ⊢; omega)).alloc (by have q8 := hbA.size; have q9 := hbB.size; simp at q8 q9 ⊢; omega) _).cell (by dsimp only; omega)]; assumption))
        | (refine ⟨?_, ?_⟩ <;> (rw [(((below_to ((Below.refl w2.heap.size w2).alloc (Nat.le_refl _) _).drew hbA (by simp)).trans (hbB.mono (by have q8 := hbA.size; simp at q8 ⊢; omega))).setCell (p := ⟨w2.heap.size, 0, none⟩) (Nat.le_refl _) _ |>.setCell (p := ⟨w2.heap.size, 1, none⟩) (Nat.le_refl _) _).cell (by dsimp only; omega)]; assumption))
        | (refine ⟨?_, ?_⟩ <;> (rw [(((below_to (Below.refl w2.heap.size w2).drew hbA (by simp)).alloc (by have q8 := hbA.size; simp at q8 ⊢; omega) _).trans (hbB.mono (by have q8 := hbA.size; simp at q8 ⊢; omega)) |>.setCell (p := ⟨wA.heap.size, 0, none⟩) (by have q8 := hbA.size; simp at q8 ⊢; omega) _ |>.setCell (p := ⟨wA.heap.size, 1, none⟩) (by have q8 := hbA.size; simp at q8 ⊢; omega) _).cell (by dsimp only; omega)]; assumption))
        | (go_split_ands; refine ⟨?_, ?_⟩ <;> (rw [hbB.cell (by have q9 := hbA.size; simp at q9 ⊢; omega)]; assumption))
        | (go_split_ands; refine ⟨?_, ?_⟩ <;> (rw [hbA.cell (by simp; omega)]; assumption)))
      (first
        | (go_at_call 31; refine (clone_any _ x0 (by omega) _ ?_).mono ?_; (exact HR0.out.below (by first | exact hT.drew | exact (hT.alloc hT.size _).drew)); rintro e wA ⟨vA, rfl, oA, hbA⟩; obtain ⟨gA, cA, rfl, -, -⟩ := oA.rd; (try have KB : BoxAt wA w2.heap.size [.slice none 0 0, .slice none 0 0] := ((BoxAt.new w2 _ _).below (Below.refl _ _).drew).below hbA))
        | (go_at_call 31; refine (clone_any _ x1 (by omega) _ ?_).mono ?_; (exact HR1.out.below (by first | exact below_to hT.drew hbA hT.size | exact below_to (hT.alloc hT.size _).drew hbA (by have := hT.size; simp; omega) | exact (below_to hT.drew hbA hT.size).alloc (by have := hT.size; have := hbA.size; simp at this; omega) _)); rintro e wB ⟨vB, rfl, oB, hbB⟩; obtain ⟨gB, cB, rfl, -, -⟩ := oB.rd; (try first | (have KC := KB.below hbB) | (have KC : BoxAt wB wA.heap.size [.slice none 0 0, .slice none 0 0] := (BoxAt.new wA _ _).below hbB)); (try (have k0 := KC.cell 0 _ rfl; have k1 := KC.cell 1 _ rfl; have k2 := KC.free 0; have k3 := KC.free 1))))
    all_goals (go_wp2_with fail)
    all_goals go_meet
    all_goals
      first
      | exact ⟨held_last hbA oA hbB oB, rfl⟩
      | exact ⟨held_mid hbA oA hbB oB KC, rfl⟩
      | exact ⟨held_first hbA oA hbB oB KC, rfl⟩
  obtain ⟨w3, hwc⟩ : ∃ W, W = wc := ⟨_, rfl⟩
  subst hwc
  obtain ⟨⟨S, v0, v1, rfl, hG, hb, hS⟩, rfl⟩ := hcut
  clear c0 c1 hlt0
  go_wp2
  go_loopw [7, 8] (fun so si wr => ∃ (j : Nat) (ok : Bool) (v0 v1 : Value) (y0 y1 : List Nat), (j : Int) + 1 ≤ n ∧ si = .int .i64 (j + 2) ∧ so = .bool ok ∧ SumSt x0 x1 ok j y0 y1 ∧ y0.length ≤ 1099511627 ∧ y1.length ≤ 1099511627 ∧ Grow wr w2.heap.size S v0 v1 y0 y1 ∧ Below w2.heap.size w2 wr) (fun _ si _ => 20 - (intOf si).toNat)
  case atStart => exact ⟨0, true, v0, v1, x0, x1, by omega, by first | rfl | go_num, rfl, sumSt_start Hs.out, by omega, by omega, hG, hb⟩
  case round =>
    clear hG hb
    obtain ⟨j, ok, v0, v1, y0, y1, hj, rfl, rfl, hst, hl0, hl1, hG, hb⟩ := hrel
    obtain ⟨E0, ce0, rfl, -, -⟩ := hG.o0.rd
    obtain ⟨E1, ce1, rfl, -, -⟩ := hG.o1.rd
    have hTr : Below w.heap.size w wr := hT.trans (hb.mono hT.size)
    have B1r := B1.below hb
    have hSl := hG.box.lt
    have g0 := hG.box.cell 0 _ rfl
    have g1 := hG.box.cell 1 _ rfl
    have r0 := B1r.cell 0 _ rfl
    have r1 := B1r.cell 1 _ rfl
    have f0 := B1r.free 0
    have f1 := B1r.free 1
    have hW' : w.heap.size + 1 < wr.heap.size := by have := hb.size; omega
    by_cases hlt : (j : Int) + 2 ≤ n
    · cases ok
      · obtain ⟨e1, e2, e3⟩ := sumSt_end HG.out hst hj (fun e => by cases e)
        have HF := Lib.hid (fun u v => retSh_stored (w := w) (w5 := w2) (b := w.heap.size + 1) hG.o0 hG.o1 hG.ap hl0 hl1 e2 e3 hTr (by omega) (by omega) hT.size u v)
        have HE1 := Lib.hid e1
        clear e1 e2 e3 hst hG hb hTr B1r hT B0 B1
        go_wp2
        refine bodyPost_ret (v := .tuple #[shV (.slice E0 y0.length ce0) (.slice E1 y1.length ce1), .bool false]) (by simp [results, Try.results16, go_sem, *]) rfl ?_
        unfold RetSumShare
        rw [HE1.out]
        exact HF.out _ _
      · obtain ⟨hs1, hs2⟩ := sumSt_t hst
        have B0r := B0.below hb
        have c0 := B0r.cell 0 _ rfl
        have c1 := B0r.cell 1 _ rfl
        have hlt0' : w.heap.size < wr.heap.size := by omega
        have HST := Lib.hid hst
        have HS2 := Lib.hid hs2
        clear hst hs1 hs2 B1r r0 r1 f0 f1
        go_wp2_with fail
        refine (implAddShares_any _ y0 _ y1 (by omega) (by omega) _ x0 _ x1 hn0 hn1 _ hG.o0.rd hG.o1.rd (HR0.out.below hTr) (HR1.out.below hTr)).mono ?_
        rintro e w6 ⟨u0, z0, u1, z1, rfl, o0, o1, ap, l0, l1, a0, a1, hb6⟩
        obtain ⟨F0, cf0, rfl, -, -⟩ := o0.rd
        obtain ⟨F1, cf1, rfl, -, -⟩ := o1.rd
        have HST2 := Lib.hid (sumSt_step Hs.out HST.out a0 a1)
        obtain ⟨OK, hOK⟩ : ∃ b, b = combOk (pairG true) y0 y1 x0 x1 := ⟨_, rfl⟩
        rw [← hOK] at HST2 ⊢
        have KB := hG.box.below hb6
        have HG2 := Lib.hid (grow_put (base := w2.heap.size) KB o0 o1 ap hSl hb.size)
        have HB6 := Lib.hid (((hb.trans (hb6.mono hb.size)).setCell (p := ⟨S, 0, none⟩) hS (.slice F0 z0.length cf0)).setCell (p := ⟨S, 1, none⟩) hS (.slice F1 z1.length cf1))
        have k0 := KB.cell 0 _ rfl
        have k1 := KB.cell 1 _ rfl
        have k2 := KB.free 0
        have k3 := KB.free 1
        have hS6 := KB.lt
        clear hOK a0 a1 o0 o1 ap KB B0r c0 c1 g0 g1 hG hTr hb6
        go_wp2
        go_roundw
        case rel => exact ⟨j + 1, OK, _, _, z0, z1, by omega, by go_num, by first | rfl | trivial, HST2.out, l0, l1, HG2.out, HB6.out⟩
        case measure => simp [intOf]; omega
    · obtain ⟨e1, e2, e3⟩ := sumSt_end HG.out hst hj (fun _ => by omega)
      have HF := Lib.hid (fun u v => retSh_stored (w := w) (w5 := w2) (b := w.heap.size + 1) hG.o0 hG.o1 hG.ap hl0 hl1 e2 e3 hTr (by omega) (by omega) hT.size u v)
      have HE1 := Lib.hid e1
      clear e1 e2 e3 hst hG hb hTr B1r hT B0 B1
      go_wp2
      refine bodyPost_ret (v := .tuple #[shV (.slice E0 y0.length ce0) (.slice E1 y1.length ce1), .bool ok]) (by simp [results, Try.results16, go_sem, *]) rfl ?_
      unfold RetSumShare
      rw [HE1.out]
      exact HF.out _ _

end Go.Proofs.Ytjajlddnhmbekaa
