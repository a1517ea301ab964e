/-
  Tables with sums told: the walks of impl.eachRow and impl.areSums.
-/
import Derived.Test.YtmhmekfbnaafmaaTblJ
import Derived.Test.YtmhmekfbnaafmaaTblU
import Derived.Laws.EntriesVeiled
namespace Go.Proofs.Ytmhmekfbnaafmaa
open Go.RowKit Go.Maps

theorem put_ok {C S br bL bV bP bl bx bm bn m : Nat} {v : List Nat} (hs : PS C S br bL bV bP bl bx bm bn v) : ∀ ls, PutOk C S br bL bV bP bl bx bm bn m v ls
  | [] => put_nil hs
  | _ :: ls => put_cons hs (put_ok hs ls)

/-- What eachRow lays ahead of its own call. -/
theorem PI.start {C bl bx bm bn m : Nat} {v : List Nat} {w : World} (t1 t2 t3 t4 : TypeId) (hl : BoxAt w bl (nVs (padZ C v))) (hx : BoxAt w bx [.map (some bn)]) (hm : BoxAt w bm [iV (wrap64 (m : Int))]) :
    PI C w.heap.size (w.heap.size + 1 + 1 + 1) w.heap.size (w.heap.size + 1) (w.heap.size + 1 + 1 + 1 + 1) bl bx bm bn m v
      (((((w.alloc (.cells #[.slice (some ⟨bl, 0, none⟩) C 4] t1)).alloc (.cells #[.func (.func 56) #[] #[ptr bl, ptr bx, ptr bm]] t2)).alloc (.cells #[] 2)).alloc (.cells #[.slice (some ⟨w.heap.size + 1 + 1, 0, none⟩) 0 0] t3)).alloc
        (.cells #[.func (.func 68) #[] #[ptr (w.heap.size + 1 + 1 + 1), ptr w.heap.size, ptr (w.heap.size + 1), ptr (w.heap.size + 1 + 1 + 1 + 1)]] t4))
      (.slice (some ⟨w.heap.size + 1 + 1, 0, none⟩) 0 0) [] := by
  have n1 := BoxAt.new w [.slice (some ⟨bl, 0, none⟩) C 4] t1
  have n2 := BoxAt.new (w.alloc (.cells #[.slice (some ⟨bl, 0, none⟩) C 4] t1)) [.func (.func 56) #[] #[ptr bl, ptr bx, ptr bm]] t2
  have n3 := own_nil_new iV ((w.alloc (.cells #[.slice (some ⟨bl, 0, none⟩) C 4] t1)).alloc (.cells #[.func (.func 56) #[] #[ptr bl, ptr bx, ptr bm]] t2)) 2
  have n4 := BoxAt.new (((w.alloc (.cells #[.slice (some ⟨bl, 0, none⟩) C 4] t1)).alloc (.cells #[.func (.func 56) #[] #[ptr bl, ptr bx, ptr bm]] t2)).alloc (.cells #[] 2)) [.slice (some ⟨w.heap.size + 1 + 1, 0, none⟩) 0 0] t3
  have n5 := BoxAt.new ((((w.alloc (.cells #[.slice (some ⟨bl, 0, none⟩) C 4] t1)).alloc (.cells #[.func (.func 56) #[] #[ptr bl, ptr bx, ptr bm]] t2)).alloc (.cells #[] 2)).alloc (.cells #[.slice (some ⟨w.heap.size + 1 + 1, 0, none⟩) 0 0] t3)) [.func (.func 68) #[] #[ptr (w.heap.size + 1 + 1 + 1), ptr w.heap.size, ptr (w.heap.size + 1), ptr (w.heap.size + 1 + 1 + 1 + 1)]] t4
  simp only [size_alloc] at n2 n3 n4 n5
  exact ⟨n4.alloc _, ((n3.base_ (by omega)).alloc _).alloc _, ⟨by simp [Value.ownBlock], by simp [Value.ownBlock]; omega, by simp [Value.ownBlock], by simp [Value.ownBlock]⟩,
    (((n1.alloc _).alloc _).alloc _).alloc _, ((n2.alloc _).alloc _).alloc _, n5, ((((hl.alloc _).alloc _).alloc _).alloc _).alloc _, ((((hx.alloc _).alloc _).alloc _).alloc _).alloc _, ((((hm.alloc _).alloc _).alloc _).alloc _).alloc _⟩

set_option maxRecDepth 100000 in
set_option maxHeartbeats 1600000 in
theorem eachRow_any (C : Nat) (hC : C ≤ 4) (s : Nat) (hs : s ≤ 1000) (v : List Nat) (hv : v.length = C) (hlt : ∀ x ∈ v, x < 25) (bl bx bm bn n m : Nat) (D : DataW Unit) (F : Nat → Nat) (hn : n + wS v s (fun _ => 1) + 1 < maxLen)
    (w : World) (hbl : BoxAt w bl (nVs (padZ C v))) (hbx : BoxAt w bx [.map (some bn)]) (hbm : BoxAt w bm [iV (wrap64 (m : Int))]) (hne : bl ≠ bn ∧ bx ≠ bn ∧ bm ≠ bn) (hO : ownsA w bn n D) (hD : MapT C D F) (hK : KeysT C D) :
    Calls Try.prog 55 #[.int .i64 s, .slice (some ⟨bl, 0, none⟩) C 4, .func (.func 56) #[] #[ptr bl, ptr bx, ptr bm]] w fun e w' => e = .returned (.tuple #[]) ∧ ∃ D', ownsA w' bn (n + wS v s (fun _ => 1)) D' ∧
      MapT C D' (fun k => F k + m * wA [] v s k) ∧ KeysT C D' ∧ w.grownBy w' (some bn) := by
  have HL := Lib.hid hbl
  have HX := Lib.hid hbx
  have HM := Lib.hid hbm
  have HO := Lib.hid hO
  have HD := Lib.hid hD
  have HK := Lib.hid hK
  have HLT := Lib.hid hlt
  clear hbl hbx hbm hO hD hK hlt
  go_enter Try.func55, Try.ntmps55
  go_wp2_with fail
  have hI := PI.start (m := m) (v := v) 22 66 22 77 HL.out HX.out HM.out
  have hsz : ∀ (a b c d e : Obj), w.grownBy (((((w.alloc a).alloc b).alloc c).alloc d).alloc e) none := fun a b c d e =>
    grown_trans1 (grown_trans1 (grown_trans1 (grown_trans1 (World.grownBy_alloc w a none) (World.grownBy_alloc _ b none)) (World.grownBy_alloc _ c none)) (World.grownBy_alloc _ d none)) (World.grownBy_alloc _ e none)
  have hz : ∀ (a b c d e : Obj), w.heap.size ≤ (((((w.alloc a).alloc b).alloc c).alloc d).alloc e).heap.size := fun a b c d e => (hsz a b c d e).size
  obtain ⟨w5, hw5⟩ : ∃ W, W = (((((w.alloc (.cells #[.slice (some ⟨bl, 0, none⟩) C 4] 22)).alloc (.cells #[.func (.func 56) #[] #[ptr bl, ptr bx, ptr bm]] 66)).alloc (.cells #[] 2)).alloc (.cells #[.slice (some ⟨w.heap.size + 1 + 1, 0, none⟩) 0 0] 22)).alloc
        (.cells #[.func (.func 68) #[] #[ptr (w.heap.size + 1 + 1 + 1), ptr w.heap.size, ptr (w.heap.size + 1), ptr (w.heap.size + 1 + 1 + 1 + 1)]] 77)) := ⟨_, rfl⟩
  rw [← hw5] at hI
  have hg5 : w.grownBy w5 none := by rw [hw5]; exact hsz _ _ _ _ _
  have hO5 : ownsA w5 bn n D := HO.out.kept hg5 (by simp)
  have hps : PS C w.heap.size (w.heap.size + 1 + 1 + 1) w.heap.size (w.heap.size + 1) (w.heap.size + 1 + 1 + 1 + 1) bl bx bm bn v :=
    ⟨hC, hv, HLT.out, ⟨by omega, by omega, by omega, by omega⟩, ⟨by omega, by omega, by omega⟩, ⟨HL.out.lt, HX.out.lt, HM.out.lt, HO.out.lt⟩, hne⟩
  refine (show Calls Try.prog 68 _ _ _ from by
    have h := put_ok hps v [] s n D F w5 _ (by simp) (by simpa using hv) (fun i a b _ hb => by simp at hb) hs hg5.size hn hI hO5 HD.out HK.out
    rw [hw5] at h
    exact h).mono ?_
  rintro e w6 ⟨rfl, vr, D6, hI6, hO6, hD6, hK6, hF6, hS6⟩
  rw [← hw5] at hF6
  have hg6 : w.grownBy w6 (some bn) := ⟨hF6.os.trans hg5.os, hF6.tape.trans hg5.tape, hF6.output.trans hg5.output, Nat.le_trans hg5.size hF6.size, fun k hk hne' => (hF6.block k hk (fun e => hne' (by rw [e]))).trans (hg5.block k hk (by simp))⟩
  have hD7 : MapT C D6 (fun k => F k + m * wA [] v s k) := by
    have e : subL (v.take ([] : List Nat).length) [] = [] := rfl
    rw [e] at hD6
    exact hD6
  have HFIN := Lib.hid (And.intro hO6 (And.intro hD7 (And.intro hK6 hg6)))
  clear hI6 hO6 hD6 hK6 hF6 hS6 hg6 hD7 hI hO5 hps
  go_wp2_with fail
  first | go_end0 | refine bodyPost_ret (results_none rfl _ _ _) rfl ?_
  exact ⟨rfl, D6, HFIN.out⟩
end Go.Proofs.Ytmhmekfbnaafmaa
