/-
  slices.Chunk of whole numbers (a nil slice too).
-/
import Derived.RangeFuncBox
import Derived.RangeFuncNested
import Derived.RangeFuncBound
import Derived.RangeFuncCalls
import Derived.RangeFuncLeaves
import Derived.Shelf.Abstract
import Derived.Shelf.RegionOpen
import Derived.WalkKit
import Derived.OwnWalkIn
import Derived.TacticsInMore
import Derived.LoopNIn
import Derived.LoopIn
import Derived.Maps.AppendAt
import Derived.Sort.QuietIn
import Derived.Test.YthdnelfggmlalaaInts
namespace Go.Proofs.Ythdnelfggmlalaa
open Go.RowKit Go.Shelf
attribute [local go_sem] Oper.semAt_some

theorem finR_snoc {r k : Nat} (h : k < r) : (List.finRange r).take (k + 1) = (List.finRange r).take k ++ [⟨k, h⟩] := take_snoc (by simp [h])
/-- The k-th cut. -/
def cutV (ad : Addr) (m k : Nat) : Value := .slice (some (ad.add (k * m))) m m

/-- The two boxes that the iterator reads stay as they are. -/
def Kc (Bs Bm : Nat) (A B : World) : Prop := (∀ v, Boxed A Bs 36 v → Boxed B Bs 36 v) ∧ (∀ v, Boxed A Bm 3 v → Boxed B Bm 3 v)
theorem Kc.refl (Bs Bm : Nat) (A : World) : Kc Bs Bm A A := ⟨fun _ h => h, fun _ h => h⟩
theorem Kc.trans {Bs Bm : Nat} {A B C : World} (h : Kc Bs Bm A B) (k : Kc Bs Bm B C) : Kc Bs Bm A C := ⟨fun v hv => k.1 v (h.1 v hv), fun v hv => k.2 v (h.2 v hv)⟩
theorem Kc.put {Bs Bm : Nat} {w : World} (hs : Bs < w.heap.size) (hm : Bm < w.heap.size) (W : World) (l : Nat) (o o' : Obj) (hl : w.heap.size ≤ l) (_ : W.heap[l]? = some o) (_ : o.isCells = false) (_ : o.isWalk = false) : Kc Bs Bm W (W.putObj l o') :=
  ⟨fun v hv => (World.putObj_heap_other (by omega)).trans hv, fun v hv => (World.putObj_heap_other (by omega)).trans hv⟩
set_option maxRecDepth 100000 in
set_option maxHeartbeats 2000000 in
theorem chunk1_in (n : Nat) (hn : 1 ≤ n) (l Bs Bm : Nat) (O : Option Addr) (ad : Addr) (len cap r m : Nat) (hO : O = some ad ∨ r = 0) (hm : 1 ≤ m) (hlen : len = r * m) (hle : len ≤ 1000000) (hcap : len ≤ cap) (J Jx : List (Fin r) → World → Prop)
    (hY : ∀ pre x W, J pre W → pre.length < r → YieldAt Fence.wide (n - 1) Try.prog l #[cutV ad m x.1] W fun e W' =>
      (e = .returned (.bool true) ∧ J (pre ++ [x]) W' ∧ Kc Bs Bm W W') ∨ (e = .returned (.bool false) ∧ Jx (pre ++ [x]) W'))
    (W : World) (hBs : Boxed W Bs 36 (.slice O len cap)) (hBm : Boxed W Bm 3 (.int .i64 m)) (h0 : J [] W) (hJ : AbidesFrom W.heap.size J) :
    CallsIn Fence.wide n Try.prog 119 #[.func (.yield l) #[] #[], .pointer (some ⟨Bs, 0, none⟩), .pointer (some ⟨Bm, 0, none⟩)] W fun e W' => (∃ v, e = .returned v) ∧
      ((∃ ys, ys = List.finRange r ∧ J ys W') ∨ (∃ pre, (∃ k, k ≤ r ∧ pre = (List.finRange r).take k) ∧ Jx pre W')) := by
  refine callsIn_of_wp Try.func119 rfl trivial ?_ rfl
  simp only [Try.ntmps119, List.size_toArray, List.length_cons, List.length_nil, Nat.reduceAdd, Nat.reduceSub, Array.replicate_succ, Array.replicate_zero, List.push_toArray, List.append_toArray, List.nil_append, List.cons_append]
  gi_wp2
  gi_loopw [4] (fun i wr => ∃ k : Nat, k ≤ r ∧ i = .int .i64 ((k * m : Nat) : Int) ∧ J ((List.finRange r).take k) wr ∧ Kc Bs Bm W wr)
    (fun i _ => len - (intOf i).toNat)
  case atStart => exact ⟨0, Nat.zero_le _, by simp, by simpa using h0, Kc.refl _ _ _⟩
  case round =>
    obtain ⟨k, hk, rfl, hJs, hnx⟩ := hrel
    have hcs : wr.cell? ⟨Bs, 0, none⟩ = some (.slice O len cap) := (hnx.1 _ hBs).cell
    have hcm : wr.cell? ⟨Bm, 0, none⟩ = some (.int .i64 m) := (hnx.2 _ hBm).cell
    by_cases hlt : k < r
    · obtain rfl : O = some ad := hO.resolve_right (by omega)
      have hkm : k * m + m ≤ len := by
        rw [hlen]
        have := Nat.mul_le_mul_right m (show k + 1 ≤ r by omega)
        rw [Nat.succ_mul] at this
        exact this
      obtain ⟨K, hK⟩ : ∃ K, K = k * m := ⟨_, rfl⟩
      rw [← hK] at hkm ⊢
      have HK := Lib.hid hK
      clear hK hlen
      have h1 : (K : Int) < (len : Int) := by omega
      have h2 : (K : Int) ≤ (cap : Int) := by omega
      have h0' : (0 : Int) ≤ (K : Int) := by omega
      have h3 : ¬ cap = K := by omega
      have h4 : ¬ ((len - K : Nat) : Int) < (m : Int) := by omega
      have h5 : ((len : Int) - (K : Int)).toNat = len - K := by omega
      gi_wp2
      gi_quiet (fail)
      have hJq := hJ _ wr (wr.drewN nq) none hJs ⟨rfl, rfl, rfl, Nat.le_refl _, fun _ _ _ => rfl⟩ (fun r e => by cases e)
      have hcs' : (wr.drewN nq).cell? ⟨Bs, 0, none⟩ = some (.slice (some ad) len cap) := hcs
      have hcm' : (wr.drewN nq).cell? ⟨Bm, 0, none⟩ = some (.int .i64 m) := hcm
      have hnx' : Kc Bs Bm W (wr.drewN nq) := hnx
      clear hcs hcm hnx hJs
      generalize wr.drewN nq = wq at *
      obtain ⟨fn, tmps, assign, body, hy, hR⟩ := hY _ ⟨k, hlt⟩ wq hJq (by rw [List.length_take]; simp; omega)
      have hy' : Sem.run Try.prog (Instr.yield l #[.slice (some (ad.add K)) m m]) wq = Result.ok (Next.round l fn tmps assign body) wq := by rw [HK.out]; exact hy
      clear hy
      have h6 : (K : Int) + (m : Int) ≤ (cap : Int) := by omega
      have h7 : (0 : Int) ≤ (K : Int) + (m : Int) := by omega
      have h8 : (K : Int) ≤ (K : Int) + (m : Int) := by omega
      have h9 : ((K : Int) + (m : Int) - (K : Int)).toNat = m := by omega
      gi_wp2
      refine hR.mono ?_
      rintro e W3 (⟨rfl, hJ3, hk3⟩ | ⟨rfl, hJx3⟩)
      · have hcm3 : W3.cell? ⟨Bm, 0, none⟩ = some (.int .i64 m) := (hk3.2 _ (hnx'.2 _ hBm)).cell
        gi_wp2
        go_roundw
        case rel => exact ⟨k + 1, by omega, by rw [Nat.succ_mul, ← HK.out]; go_num, by rw [finR_snoc hlt]; exact hJ3, hnx'.trans hk3⟩
        case measure => simp [intOf]; omega
      · gi_wp2
        refine bodyPost_ret (results_none rfl _ _ _) rfl ?_
        exact ⟨⟨_, rfl⟩, .inr ⟨_, ⟨k + 1, by omega, (finR_snoc hlt).symm⟩, hJx3⟩⟩
    · obtain rfl : k = r := by omega
      have hkl : ¬ ((k * m : Nat) : Int) < (len : Int) := by omega
      gi_wp2
      go_end0
      rw [List.take_of_length_le (by simp)] at hJs
      exact ⟨⟨_, rfl⟩, .inl (by first | exact ⟨_, rfl, hJs⟩ | exact hJs)⟩

set_option maxHeartbeats 1000000 in
theorem chunk_in (n : Nat) (O : Option Addr) (len cap m : Nat) (hm : 1 ≤ m) (w : World) :
    CallsIn Fence.wide n Try.prog 87 #[.slice O len cap, .int .i64 m] w fun e w' => e = .returned (.func (.func 119) #[] #[.pointer (some ⟨w.heap.size, 0, none⟩), .pointer (some ⟨w.heap.size + 1, 0, none⟩)]) ∧ w' = (w.alloc (.cells #[.slice O len cap] 36)).alloc (.cells #[.int .i64 m] 3) := by
  have h1 : ¬ (m : Int) < 1 := by omega
  refine callsIn_of_wp Try.func87 rfl trivial ?_ rfl
  simp only [Try.ntmps87, List.size_toArray, List.length_cons, List.length_nil, Nat.reduceAdd, Nat.reduceSub, Array.replicate_succ, Array.replicate_zero, List.push_toArray, List.append_toArray, List.nil_append, List.cons_append]
  gi_wp2
  go_ret
  exact ⟨rfl, rfl⟩
theorem chunk_stops (n : Nat) (hn : 1 ≤ n) (Bs Bm : Nat) (O : Option Addr) (ad : Addr) (len cap r m : Nat) (hO : O = some ad ∨ r = 0) (hm : 1 ≤ m) (hlen : len = r * m) (hle : len ≤ 1000000) (hcap : len ≤ cap) (w : World)
    (hBs : Boxed w Bs 36 (.slice O len cap)) (hBm : Boxed w Bm 3 (.int .i64 m)) :
    SeqStopsK Fence.wide n Try.prog 119 #[.pointer (some ⟨Bs, 0, none⟩), .pointer (some ⟨Bm, 0, none⟩)] (fun x : Fin r => #[cutV ad m x.1]) (Kc Bs Bm) (fun ys => ys = List.finRange r) (fun pre => pre <+: List.finRange r) r w := fun l J Jx W hW hJ _ hY h0 => by
  refine (chunk1_in n hn l Bs Bm O ad len cap r m hO hm hlen hle hcap J Jx hY W ((hW.block Bs hBs.lt).trans hBs) ((hW.block Bm hBm.lt).trans hBm) h0 hJ).mono ?_
  rintro e W' ⟨he, ⟨ys, rfl, hj⟩ | ⟨pre, ⟨k, hk, rfl⟩, hj⟩⟩
  · exact ⟨he, .inl ⟨_, rfl, hj⟩⟩
  · exact ⟨he, .inr ⟨_, List.take_prefix _ _, hj⟩⟩

theorem hk_drew (W : World) : KeepsOthers W W.drew ∧ ∀ B, Below B W W.drew := ⟨KeepsOthers.drew _, fun _ => (Below.refl _ _).drew⟩
end Go.Proofs.Ythdnelfggmlalaa
