/-
  slices.Chunk of whole numbers, and impl.rowSums, which ranges over it.
-/
import Derived.RangeFuncBox
import Derived.RangeFuncNested
import Derived.RangeFuncBound
import Derived.RangeFuncCalls
import Derived.RangeFuncLeaves
import Derived.Shelf.Abstract
import Derived.Shelf.RegionOpen
import Derived.WalkKit
import Derived.OwnWalkIn
import Derived.TacticsInMore
import Derived.LoopNIn
import Derived.LoopIn
import Derived.Maps.AppendAt
import Derived.Sort.QuietIn
import Derived.Test.YtmhmekfbnaafmaaRowP
namespace Go.Proofs.Ytmhmekfbnaafmaa
open Go.RowKit Go.Shelf
attribute [local go_sem] Oper.semAt_some

theorem finR_snoc {r k : Nat} (h : k < r) : (List.finRange r).take (k + 1) = (List.finRange r).take k ++ [⟨k, h⟩] := take_snoc (by simp [h])
/-- The k-th cut. -/
def cutV (ad : Addr) (m k : Nat) : Value := .slice (some (ad.add (k * m))) m m

/-- The two boxes that the iterator reads stay as they are. -/
def Kc (Bs Bm : Nat) (A B : World) : Prop := (∀ v, Boxed A Bs 22 v → Boxed B Bs 22 v) ∧ (∀ v, Boxed A Bm 3 v → Boxed B Bm 3 v)
theorem Kc.refl (Bs Bm : Nat) (A : World) : Kc Bs Bm A A := ⟨fun _ h => h, fun _ h => h⟩
theorem Kc.trans {Bs Bm : Nat} {A B C : World} (h : Kc Bs Bm A B) (k : Kc Bs Bm B C) : Kc Bs Bm A C := ⟨fun v hv => k.1 v (h.1 v hv), fun v hv => k.2 v (h.2 v hv)⟩
theorem Kc.put {Bs Bm : Nat} {w : World} (hs : Bs < w.heap.size) (hm : Bm < w.heap.size) (W : World) (l : Nat) (o o' : Obj) (hl : w.heap.size ≤ l) (_ : W.heap[l]? = some o) (_ : o.isCells = false) (_ : o.isWalk = false) : Kc Bs Bm W (W.putObj l o') :=
  ⟨fun v hv => (World.putObj_heap_other (by omega)).trans hv, fun v hv => (World.putObj_heap_other (by omega)).trans hv⟩
set_option maxRecDepth 100000 in
set_option maxHeartbeats 2000000 in
theorem chunk1_in (n : Nat) (hn : 1 ≤ n) (l Bs Bm : Nat) (ad : Addr) (len cap r m : Nat) (hm : 1 ≤ m) (hlen : len = r * m) (hle : len ≤ 1000000) (hcap : len ≤ cap) (J Jx : List (Fin r) → World → Prop)
    (hY : ∀ pre x W, J pre W → pre.length < r → YieldAt Fence.wide (n - 1) Try.prog l #[cutV ad m x.1] W fun e W' =>
      (e = .returned (.bool true) ∧ J (pre ++ [x]) W' ∧ Kc Bs Bm W W') ∨ (e = .returned (.bool false) ∧ Jx (pre ++ [x]) W'))
    (W : World) (hBs : Boxed W Bs 22 (.slice (some ad) len cap)) (hBm : Boxed W Bm 3 (.int .i64 m)) (h0 : J [] W) (hJ : AbidesFrom W.heap.size J) :
    CallsIn Fence.wide n Try.prog 69 #[.func (.yield l) #[] #[], .pointer (some ⟨Bs, 0, none⟩), .pointer (some ⟨Bm, 0, none⟩)] W fun e W' => (∃ v, e = .returned v) ∧
      ((∃ ys, ys = List.finRange r ∧ J ys W') ∨ (∃ pre, (∃ k, k ≤ r ∧ pre = (List.finRange r).take k) ∧ Jx pre W')) := by
  refine callsIn_of_wp Try.func69 rfl trivial ?_ rfl
  simp only [Try.ntmps69, List.size_toArray, List.length_cons, List.length_nil, Nat.reduceAdd, Nat.reduceSub, Array.replicate_succ, Array.replicate_zero, List.push_toArray, List.append_toArray, List.nil_append, List.cons_append]
  gi_wp2
  gi_loopw [4] (fun i wr => ∃ k : Nat, k ≤ r ∧ i = .int .i64 ((k * m : Nat) : Int) ∧ J ((List.finRange r).take k) wr ∧ Kc Bs Bm W wr)
    (fun i _ => len - (intOf i).toNat)
  case atStart => exact ⟨0, Nat.zero_le _, by simp, by simpa using h0, Kc.refl _ _ _⟩
  case round =>
    obtain ⟨k, hk, rfl, hJs, hnx⟩ := hrel
    have hcs : wr.cell? ⟨Bs, 0, none⟩ = some (.slice (some ad) len cap) := (hnx.1 _ hBs).cell
    have hcm : wr.cell? ⟨Bm, 0, none⟩ = some (.int .i64 m) := (hnx.2 _ hBm).cell
    by_cases hlt : k < r
    · have hkm : k * m + m ≤ len := by
        rw [hlen]
        have := Nat.mul_le_mul_right m (show k + 1 ≤ r by omega)
        rw [Nat.succ_mul] at this
        exact this
      obtain ⟨K, hK⟩ : ∃ K, K = k * m := ⟨_, rfl⟩
      rw [← hK] at hkm ⊢
      have HK := Lib.hid hK
      clear hK hlen
      have h1 : (K : Int) < (len : Int) := by omega
      have h2 : (K : Int) ≤ (cap : Int) := by omega
      have h0' : (0 : Int) ≤ (K : Int) := by omega
      have h3 : ¬ cap = K := by omega
      have h4 : ¬ ((len - K : Nat) : Int) < (m : Int) := by omega
      have h5 : ((len : Int) - (K : Int)).toNat = len - K := by omega
      gi_wp2
      gi_quiet (fail)
      have hJq := hJ _ wr (wr.drewN nq) none hJs ⟨rfl, rfl, rfl, Nat.le_refl _, fun _ _ _ => rfl⟩ (fun r e => by cases e)
      have hcs' : (wr.drewN nq).cell? ⟨Bs, 0, none⟩ = some (.slice (some ad) len cap) := hcs
      have hcm' : (wr.drewN nq).cell? ⟨Bm, 0, none⟩ = some (.int .i64 m) := hcm
      have hnx' : Kc Bs Bm W (wr.drewN nq) := hnx
      clear hcs hcm hnx hJs
      generalize wr.drewN nq = wq at *
      obtain ⟨fn, tmps, assign, body, hy, hR⟩ := hY _ ⟨k, hlt⟩ wq hJq (by rw [List.length_take]; simp; omega)
      have hy' : Sem.run Try.prog (Instr.yield l #[.slice (some (ad.add K)) m m]) wq = Result.ok (Next.round l fn tmps assign body) wq := by rw [HK.out]; exact hy
      clear hy
      have h6 : (K : Int) + (m : Int) ≤ (cap : Int) := by omega
      have h7 : (0 : Int) ≤ (K : Int) + (m : Int) := by omega
      have h8 : (K : Int) ≤ (K : Int) + (m : Int) := by omega
      have h9 : ((K : Int) + (m : Int) - (K : Int)).toNat = m := by omega
      gi_wp2
      refine hR.mono ?_
      rintro e W3 (⟨rfl, hJ3, hk3⟩ | ⟨rfl, hJx3⟩)
      · have hcm3 : W3.cell? ⟨Bm, 0, none⟩ = some (.int .i64 m) := (hk3.2 _ (hnx'.2 _ hBm)).cell
        gi_wp2
        go_roundw
        case rel => exact ⟨k + 1, by omega, by rw [Nat.succ_mul, ← HK.out]; go_num, by rw [finR_snoc hlt]; exact hJ3, hnx'.trans hk3⟩
        case measure => simp [intOf]; omega
      · gi_wp2
        refine bodyPost_ret (results_none rfl _ _ _) rfl ?_
        exact ⟨⟨_, rfl⟩, .inr ⟨_, ⟨k + 1, by omega, (finR_snoc hlt).symm⟩, hJx3⟩⟩
    · obtain rfl : k = r := by omega
      have hkl : ¬ ((k * m : Nat) : Int) < (len : Int) := by omega
      gi_wp2
      go_end0
      rw [List.take_of_length_le (by simp)] at hJs
      exact ⟨⟨_, rfl⟩, .inl (by first | exact ⟨_, rfl, hJs⟩ | exact hJs)⟩

set_option maxHeartbeats 1000000 in
theorem chunk_in (n : Nat) (ad : Addr) (len cap m : Nat) (hm : 1 ≤ m) (w : World) :
    CallsIn Fence.wide n Try.prog 62 #[.slice (some ad) len cap, .int .i64 m] w fun e w' => e = .returned (.func (.func 69) #[] #[.pointer (some ⟨w.heap.size, 0, none⟩), .pointer (some ⟨w.heap.size + 1, 0, none⟩)]) ∧ w' = (w.alloc (.cells #[.slice (some ad) len cap] 22)).alloc (.cells #[.int .i64 m] 3) := by
  have h1 : ¬ (m : Int) < 1 := by omega
  refine callsIn_of_wp Try.func62 rfl trivial ?_ rfl
  simp only [Try.ntmps62, List.size_toArray, List.length_cons, List.length_nil, Nat.reduceAdd, Nat.reduceSub, Array.replicate_succ, Array.replicate_zero, List.push_toArray, List.append_toArray, List.nil_append, List.cons_append]
  gi_wp2
  go_ret
  exact ⟨rfl, rfl⟩
theorem chunk_stops (n : Nat) (hn : 1 ≤ n) (Bs Bm : Nat) (ad : Addr) (len cap r m : Nat) (hm : 1 ≤ m) (hlen : len = r * m) (hle : len ≤ 1000000) (hcap : len ≤ cap) (w : World)
    (hBs : Boxed w Bs 22 (.slice (some ad) len cap)) (hBm : Boxed w Bm 3 (.int .i64 m)) :
    SeqStopsK Fence.wide n Try.prog 69 #[.pointer (some ⟨Bs, 0, none⟩), .pointer (some ⟨Bm, 0, none⟩)] (fun x : Fin r => #[cutV ad m x.1]) (Kc Bs Bm) (fun ys => ys = List.finRange r) (fun pre => pre <+: List.finRange r) r w := fun l J Jx W hW hJ _ hY h0 => by
  refine (chunk1_in n hn l Bs Bm ad len cap r m hm hlen hle hcap J Jx hY W ((hW.block Bs hBs.lt).trans hBs) ((hW.block Bm hBm.lt).trans hBm) h0 hJ).mono ?_
  rintro e W' ⟨he, ⟨ys, rfl, hj⟩ | ⟨pre, ⟨k, hk, rfl⟩, hj⟩⟩
  · exact ⟨he, .inl ⟨_, rfl, hj⟩⟩
  · exact ⟨he, .inr ⟨_, List.take_prefix _ _, hj⟩⟩

theorem hk_drew (W : World) : KeepsOthers W W.drew ∧ ∀ B, Below B W W.drew := ⟨KeepsOthers.drew _, fun _ => (Below.refl _ _).drew⟩
theorem stepIn_append {F : Fence} {n : Nat} {P : Program} (w : World) {ops : Array Oper} {o : Oper} {a : Act} {K : Act → World → Prop} {Q : Exit → Act → World → Prop} {E' : Prop}
    (hg : o.guard = none) (s x : Operand) (t : TypeId) (hop : o.op = Op.call { callee := Callee.builtin Builtin.append, args := #[s, x], argTypes := #[t, t] })
    (base : Nat) (e : TypeId) (i : TypeInfo) (z : Value) (size bytes : Nat) (h1 : P.underlying t = some (.slice e)) (h2 : P.info? e = some i) (h3 : i.zero = some z) (h4 : i.size = size) (h5 : i.bytes = bytes) (h6 : z.cells.size = size) (h7 : 0 < size)
    (v : Value) (k : Nat) (xs : List Value) (hs : a.eval s = v) (hown : w.ownsRow base e size v k xs) (ad : Addr) (m c : Nat) (news : List Value) (hx : a.eval x = .slice (some ad) m c) (hn : news.length = m * size)
    (hc : ∀ j u, news[j]? = some u → w.cell? (ad.add j) = some u) (h1c : ∀ u ∈ news, u.oneCell' = true) (b1 : k + m ≤ maxLen) (b2 : (k + m) * bytes ≤ 140737488355328) (b3 : base ≤ w.heap.size)
    (hK : ∀ v' w', w'.ownsRow base e size v' (k + m) (xs ++ news) → w.grownBy w' v.ownBlock → (v' = .slice none 0 0 ↔ v = .slice none 0 0 ∧ m = 0) → K (a.put o.dst v') w') :
    if Region.wanted o (yielded ops a.tmps) = true then Oper.wpIn F n P o a w K Q else E' := by
  have hw : Region.wanted o (yielded ops a.tmps) = true := by simp [Region.wanted, hg]
  rw [if_pos hw]
  obtain ⟨v', w', hrun, r1, r2, r3⟩ := run_append_own (P := P) w base t o.type e i z size bytes h1 h2 h3 h4 h5 h6 h7 v k xs hown ad m c news hn hc h1c b1 b2 b3
  unfold Oper.wpIn
  refine ⟨?_, ?_⟩
  · simp [Oper.about, hop, resolve, Target.leads, Sem.run_pure]
  · rw [Oper.semAt_plain F _ _ (by rw [hop]; intro c hc'; cases hc')]
    simp [execOp, hop, resolve, invoke, builtin, hs, hx, hrun, Result.andThen]
    exact hK v' w' r1 r2 r3
theorem infoI : (Try.prog.info? 2).map (fun i => (i.zero, i.size, i.bytes)) = some (some (.int .i64 0), 1, 8) := by kernel_rfl

theorem below_alloc_ (w : World) (o : Obj) : Below w.heap.size w (w.alloc o) := (Below.refl _ _).alloc (Nat.le_refl _) o
set_option maxRecDepth 100000 in
set_option maxHeartbeats 2000000 in
theorem rowSums_any (r m : Nat) (v : Value) (xs : List Int) (hm : 1 ≤ m) (hr1 : 1 ≤ r) (hm4 : m ≤ 4) (hr4 : r ≤ 4) (hlen : xs.length = r * m) (w : World) (hr : Rd iV w v xs) :
    Calls Try.prog 31 #[tabV r m v] w fun e w' => ∃ v', e = .returned v' ∧ Own iV 2 w' w.heap.size v' (rowsOf r m xs) ∧ Below w.heap.size w w' := by
  have HR := Lib.hid hr
  obtain ⟨A, cap, rfl, hcap, hA⟩ := hr
  have hle : xs.length ≤ 16 := by rw [hlen]; exact Nat.mul_le_mul hr4 hm4
  have hpos : 1 ≤ xs.length := by rw [hlen]; exact Nat.mul_le_mul hr1 hm
  obtain ⟨ad, rfl⟩ : ∃ ad, A = some ad := by
    obtain ⟨x, hx⟩ := get_of_lt (xs := xs) (k := 0) (by omega)
    obtain ⟨ad, e, _⟩ := hA 0 x hx
    exact ⟨ad, e⟩
  clear hA
  obtain ⟨i0, hi, hz0, hz1, hz2⟩ := info_parts infoI
  refine (callsIn_wide (n := 6)).1 ?_
  refine callsIn_of_wp_marks Try.func31 rfl trivial ?_ rfl
  simp only [Try.ntmps31, List.size_toArray, List.length_cons, List.length_nil, Nat.reduceAdd, Nat.reduceSub, Array.replicate_succ, Array.replicate_zero, List.push_toArray, List.append_toArray, List.nil_append, List.cons_append]
  have HLEN := Lib.hid hlen
  clear hlen
  gi_wp2_with (refine ⟨trivial, ?_⟩; gi_at_call 62; refine (chunk_in _ ad xs.length cap m hm _).mono ?_; rintro e w' ⟨rfl, rfl⟩)
  obtain ⟨W3, hW3⟩ : ∃ W, W = (w.alloc (.cells #[.int .i64 r, .int .i64 m, .slice (some ad) xs.length cap] 28)).alloc (.cells #[] 2) := ⟨_, rfl⟩
  rw [← hW3]
  have hz3 : W3.heap.size = w.heap.size + 2 := by rw [hW3]; simp
  have hT3 : Below w.heap.size w W3 := by
    have h : Below w.heap.size w ((w.alloc (.cells #[.int .i64 r, .int .i64 m, .slice (some ad) xs.length cap] 28)).alloc (.cells #[] 2)) := ((Below.refl _ _).alloc (Nat.le_refl _) _).alloc (by simp) _
    rw [hW3]; exact h
  have hO3 : Own iV 2 W3 w.heap.size (.slice (some ⟨w.heap.size + 1, 0, none⟩) 0 0) [] := by
    have h := own_nil_new iV (w.alloc (.cells #[.int .i64 r, .int .i64 m, .slice (some ad) xs.length cap] 28)) 2
    rw [← hW3] at h
    have h' := h.base_ (base' := w.heap.size) (by simp)
    rwa [World.size_alloc] at h'
  clear hW3
  have hz3' : W3.heap.size = w.heap.size + 1 + 1 := hz3
  obtain ⟨sv, hsv⟩ : ∃ v, v = Value.slice (some ad) xs.length cap := ⟨_, rfl⟩
  obtain ⟨W6, hW6⟩ : ∃ W, W = ((W3.alloc (.cells #[.slice (some ⟨w.heap.size + 1, 0, none⟩) 0 0] 22)).alloc (.cells #[.slice (some ad) xs.length cap] 22)).alloc (.cells #[.int .i64 m] 3) := ⟨_, rfl⟩
  have bO : Boxed W6 (w.heap.size + 1 + 1) 22 (.slice (some ⟨w.heap.size + 1, 0, none⟩) 0 0) := by
    have h := ((Boxed.new W3 22 (.slice (some ⟨w.heap.size + 1, 0, none⟩) 0 0)).alloc (.cells #[.slice (some ad) xs.length cap] 22)).alloc (.cells #[.int .i64 m] 3)
    rw [hz3'] at h
    rw [hW6]; exact h
  have bS : Boxed W6 (w.heap.size + 1 + 1 + 1) 22 (.slice (some ad) xs.length cap) := by
    have h := (Boxed.new (W3.alloc (.cells #[.slice (some ⟨w.heap.size + 1, 0, none⟩) 0 0] 22)) 22 (.slice (some ad) xs.length cap)).alloc (.cells #[.int .i64 m] 3)
    rw [World.size_alloc, hz3'] at h
    rw [hW6]; exact h
  have bM : Boxed W6 (w.heap.size + 1 + 1 + 1 + 1) 3 (.int .i64 m) := by
    have h := Boxed.new ((W3.alloc (.cells #[.slice (some ⟨w.heap.size + 1, 0, none⟩) 0 0] 22)).alloc (.cells #[.slice (some ad) xs.length cap] 22)) 3 (.int .i64 m)
    rw [World.size_alloc, World.size_alloc, hz3'] at h
    rw [hW6]; exact h
  have hO : W6.ownsRow w.heap.size 2 1 (.slice (some ⟨w.heap.size + 1, 0, none⟩) 0 0) 0 [] := by
    have h : Own iV 2 W6 w.heap.size (.slice (some ⟨w.heap.size + 1, 0, none⟩) 0 0) [] := by rw [hW6]; exact ((hO3.alloc _).alloc _).alloc _
    exact h
  have hT : Below w.heap.size w W6 := by rw [hW6]; exact ((hT3.alloc hT3.size _).alloc (by simp; omega) _).alloc (by simp; omega) _
  have hz6 : W6.heap.size = w.heap.size + 5 := by rw [hW6]; simp; omega
  clear hO3 hT3 hz3 hz3' hsv
  rw [← hW6]
  clear hW6
  have hle' : xs.length ≤ 1000000 := by omega
  refine wpIn_rangeFunc_ownG rfl (by omega) (gf := 69) (lb := #[.pointer (some ⟨w.heap.size + 1 + 1 + 1, 0, none⟩), .pointer (some ⟨w.heap.size + 1 + 1 + 1 + 1, 0, none⟩)]) rfl trivial (enters_of Try.func69 (by kernel_rfl) rfl)
    (chunk_stops _ (by omega) _ _ ad xs.length cap r m hm HLEN.out hle' hcap W6 bS bM) Kc.trans (Kc.put (by omega) (by omega)) (Below.refl _ _) (fun _ => rfl)
    (fun pre W => ((∃ v, Boxed W (w.heap.size + 1 + 1) 22 v ∧ W.ownsRow w.heap.size 2 1 v pre.length (pre.map fun x => iV (sumW (rowAt m xs x.1))) ∧ True) ∧ (Boxed W (w.heap.size + 1 + 1 + 1) 22 (.slice (some ad) xs.length cap) ∧ Boxed W (w.heap.size + 1 + 1 + 1 + 1) 3 (.int .i64 m))) ∧ Below w.heap.size w W)
    (fun _ _ _ => False)
    (OwnFrom.and (OwnFrom.and (Own.from (holdsRow_own w.heap.size (w.heap.size + 1 + 1) 22 2 1 (fun pre : List (Fin r) => pre.length) (fun pre => pre.map fun x => iV (sumW (rowAt m xs x.1))) (fun _ _ => True)) _) (OwnFrom.and (Own.from (boxed_own _ _ (fun _ => .slice (some ad) xs.length cap)) _) (Own.from (boxed_own _ _ (fun _ => .int .i64 m)) _))) (ownFrom_below (Nat.le_refl _) (by omega)))
    (fun _ _ _ _ _ hs _ _ => hs)
    ⟨⟨⟨_, bO, hO, trivial⟩, bS, bM⟩, hT⟩
    (fun x => { tmps := #[tabV r m (.slice (some ad) xs.length cap), .pointer (some ⟨w.heap.size, 0, none⟩), .slice none 0 0, .pointer (some ⟨w.heap.size + 1 + 1, 0, none⟩), cutV ad m x.1, .slice (some ⟨w.heap.size + 1, 0, none⟩) 0 0, .pointer (some ⟨w.heap.size, 2, none⟩), .slice (some ad) xs.length cap, .pointer (some ⟨w.heap.size, 1, none⟩), .int .i64 m, .func (.func 69) #[] #[.pointer (some ⟨w.heap.size + 1 + 1 + 1, 0, none⟩), .pointer (some ⟨w.heap.size + 1 + 1 + 1 + 1, 0, none⟩)], cutV ad m x.1, undef, undef, undef, undef, undef, undef], defers := [] }) ?assign ?body ?done ?stop
  case assign =>
    intro l x W K hK
    gi_wp2
    exact hK
  case body =>
    rintro l pre x W ⟨⟨⟨v, hv, hrow, -⟩, hbs, hbm⟩, hB⟩ hlt
    have hc := hv.cell
    have HRX : Hid (Rd iV W (cutV ad m x.1) (rowAt m xs x.1)) := (HR.out.row HLEN.out x.2).below hB
    have hlr : (rowAt m xs x.1).length ≤ 1099511627776 := by unfold rowAt; rw [List.length_take]; omega
    gi_wp2
    refine wpIn_region_any (by kernel_rfl) ?_
    change wpAnyIn _ _ _ _ _ _ _ _ _ (World.drew _)
    have hend0 := hk_drew W
    obtain ⟨Wd, hWd⟩ : ∃ Wd, Wd = W.drew := ⟨_, rfl⟩
    rw [← hWd] at hend0 ⊢
    have hzd : w.heap.size + 1 + 1 + 1 + 1 < Wd.heap.size := by have := hbm.lt; rw [hWd]; exact this
    have hvd : Boxed Wd (w.heap.size + 1 + 1) 22 v := by rw [hWd]; exact hv
    have hbsd : ∀ u, Boxed W (w.heap.size + 1 + 1 + 1) 22 u → Boxed Wd (w.heap.size + 1 + 1 + 1) 22 u := by rw [hWd]; exact fun _ h => h
    have hbmd : ∀ u, Boxed W (w.heap.size + 1 + 1 + 1 + 1) 3 u → Boxed Wd (w.heap.size + 1 + 1 + 1 + 1) 3 u := by rw [hWd]; exact fun _ h => h
    have hrowd : Wd.ownsRow w.heap.size 2 1 v pre.length (pre.map fun x => iV (sumW (rowAt m xs x.1))) := by rw [hWd]; exact hrow
    have hBd : Below w.heap.size W Wd := hend0.2 _
    have hcd := hvd.cell
    replace HRX : Hid (Rd iV Wd (cutV ad m x.1) (rowAt m xs x.1)) := by rw [hWd]; exact HRX
    clear hWd hc
    obtain ⟨Wn, hWn⟩ : ∃ Wn, Wn = Wd.alloc (.cells #[.int .i64 (sumW (rowAt m xs x.1))] 2) := ⟨_, rfl⟩
    have hrown : Wn.ownsRow w.heap.size 2 1 v pre.length (pre.map fun x => iV (sumW (rowAt m xs x.1))) := by rw [hWn]; exact hrowd.alloc _
    have hone : ∀ j u, [iV (sumW (rowAt m xs x.1))][j]? = some u → Wn.cell? ((⟨Wd.heap.size, 0, none⟩ : Addr).add j) = some u := by rw [hWn]; exact cell_one_new _ _ _
    have hcn : Wn.cell? ⟨w.heap.size + 1 + 1, 0, none⟩ = some v := by rw [hWn]; exact (hvd.alloc _).cell
    have hzn : w.heap.size ≤ Wn.heap.size := by rw [hWn]; simp; omega
    have hend : ∀ {g' cap' : Nat} {w1 : World}, w1.ownsRow w.heap.size 2 1 (.slice (some ⟨g', 0, none⟩) (pre.length + 1) cap') (pre.length + 1) ((pre.map fun x => iV (sumW (rowAt m xs x.1))) ++ [iV (sumW (rowAt m xs x.1))]) → (Wd.alloc (.cells #[.int .i64 (sumW (rowAt m xs x.1))] 2)).grownBy w1 v.ownBlock →
        Boxed w1 (w.heap.size + 1 + 1) 22 v → Boxed (w1.setCell ⟨w.heap.size + 1 + 1, 0, none⟩ (.slice (some ⟨g', 0, none⟩) (pre.length + 1) cap')) (w.heap.size + 1 + 1) 22 (.slice (some ⟨g', 0, none⟩) (pre.length + 1) cap') →
        (w1.setCell ⟨w.heap.size + 1 + 1, 0, none⟩ (.slice (some ⟨g', 0, none⟩) (pre.length + 1) cap')).ownsRow w.heap.size 2 1 (.slice (some ⟨g', 0, none⟩) (pre.length + 1) cap') (pre.length + 1) ((pre.map fun x => iV (sumW (rowAt m xs x.1))) ++ [iV (sumW (rowAt m xs x.1))]) →
        KeepsOthers Wd (w1.setCell ⟨w.heap.size + 1 + 1, 0, none⟩ (.slice (some ⟨g', 0, none⟩) (pre.length + 1) cap')) → Below w.heap.size Wd (w1.setCell ⟨w.heap.size + 1 + 1, 0, none⟩ (.slice (some ⟨g', 0, none⟩) (pre.length + 1) cap')) →
        ownPostG W6.heap.size (Kc (w.heap.size + 1 + 1 + 1) (w.heap.size + 1 + 1 + 1 + 1)) (fun pre W => ((∃ v, Boxed W (w.heap.size + 1 + 1) 22 v ∧ W.ownsRow w.heap.size 2 1 v pre.length (pre.map fun x => iV (sumW (rowAt m xs x.1))) ∧ True) ∧ (Boxed W (w.heap.size + 1 + 1 + 1) 22 (.slice (some ad) xs.length cap) ∧ Boxed W (w.heap.size + 1 + 1 + 1 + 1) 3 (.int .i64 m))) ∧ Below w.heap.size w W) (fun _ _ _ => False) (pre ++ [x]) W .normal { tmps := #[], defers := [] } (w1.setCell ⟨w.heap.size + 1 + 1, 0, none⟩ (.slice (some ⟨g', 0, none⟩) (pre.length + 1) cap')) := by
      intro g' cap' w1 hown' hgrow hv1 hv2 hr2 hk2 hb2
      have kS : ∀ u, Boxed W (w.heap.size + 1 + 1 + 1) 22 u → Boxed (w1.setCell ⟨w.heap.size + 1 + 1, 0, none⟩ (.slice (some ⟨g', 0, none⟩) (pre.length + 1) cap')) (w.heap.size + 1 + 1 + 1) 22 u := fun u hu => (((hbsd u hu).alloc _).kept hgrow ((hbsd u hu).not_row (by decide) hrowd)).other (by omega) _
      have kM : ∀ u, Boxed W (w.heap.size + 1 + 1 + 1 + 1) 3 u → Boxed (w1.setCell ⟨w.heap.size + 1 + 1, 0, none⟩ (.slice (some ⟨g', 0, none⟩) (pre.length + 1) cap')) (w.heap.size + 1 + 1 + 1 + 1) 3 u := fun u hu => (((hbmd u hu).alloc _).kept hgrow ((hbmd u hu).not_row (by decide) hrowd)).other (by omega) _
      exact ⟨(hend0.1.trans hk2).from _, ⟨kS, kM⟩, ⟨⟨_, hv2, by rw [List.length_append, List.map_append]; exact hr2, trivial⟩, kS _ hbs, kM _ hbm⟩, hB.trans (hBd.trans hb2)⟩
    have HWn := Lib.hid hWn
    clear hrow hv hB hBd hbsd hbmd hWn
    refine wpAnyIn_ready (rs := [0, 1]) (by kernel_rfl) (by simp) ?_
    refine AllReadyIn.cons rfl (fun K hK => ?_) (AllReadyIn.cons rfl (fun K hK => ?_) AllReadyIn.nil)
    · go_simp
      refine hK _ _ ?_
      clear hK K
      repeat (first | simp only [List.getElem_toArray] | simp only [List.getElem_cons_succ] | simp only [List.getElem_cons_zero] | simp only [Act.put] | simp only [List.setIfInBounds_toArray] | simp only [List.set_cons_succ] | simp only [List.set_cons_zero])
      refine wpAnyIn_ready (rs := [1]) (by kernel_rfl) (by simp) ?_
      refine AllReadyIn.cons rfl (fun K hK => ?_) AllReadyIn.nil
      go_simp
      refine hK _ _ ?_
      clear hK K
      repeat (first | simp only [List.getElem_toArray] | simp only [List.getElem_cons_succ] | simp only [List.getElem_cons_zero] | simp only [Act.put] | simp only [List.setIfInBounds_toArray] | simp only [List.set_cons_succ] | simp only [List.set_cons_zero])
      refine wpAnyIn_ready (rs := [2]) (by kernel_rfl) (by simp) ?_
      refine AllReadyIn.cons rfl (fun K hK => ?_) AllReadyIn.nil
      go_simp
      refine ⟨trivial, ?_⟩
      refine (CallsIn.inRound l (callsIn_wide.2 (total_any _ (rowAt m xs x.1) hlr _ HRX.out))).mono ?_
      rintro e w' ⟨rfl, rfl⟩
      refine hK _ _ ?_
      clear hK K
      repeat (first | simp only [List.getElem_toArray] | simp only [List.getElem_cons_succ] | simp only [List.getElem_cons_zero] | simp only [Act.put] | simp only [List.setIfInBounds_toArray] | simp only [List.set_cons_succ] | simp only [List.set_cons_zero])
      refine wpAnyIn_ready (rs := [3]) (by kernel_rfl) (by simp) ?_
      refine AllReadyIn.cons rfl (fun K hK => ?_) AllReadyIn.nil
      go_simp
      refine hK _ _ ?_
      clear hK K
      repeat (first | simp only [List.getElem_toArray] | simp only [List.getElem_cons_succ] | simp only [List.getElem_cons_zero] | simp only [Act.put] | simp only [List.setIfInBounds_toArray] | simp only [List.set_cons_succ] | simp only [List.set_cons_zero])
      rw [← HWn.out]
      refine wpAnyIn_ready (rs := [4]) (by kernel_rfl) (by simp) ?_
      refine AllReadyIn.cons rfl (fun K hK => ?_) AllReadyIn.nil
      refine stepIn_append Wn rfl (.tmp 12) (.tmp 15) 22 rfl w.heap.size 2 i0 (.int .i64 0) 1 8 Try.underlying22 hi hz0 hz1 hz2 rfl (by decide) v pre.length _ (by rfl) hrown ⟨Wd.heap.size, 0, none⟩ 1 1 [iV (sumW (rowAt m xs x.1))] (by rfl) rfl hone (by simp [Value.oneCell']) (by unfold maxLen; omega) (by omega) (by omega) ?_
      intro v' w1 hown' hgrow _
      obtain ⟨g', cap', rfl⟩ := ownsRow_succ hown'
      rw [HWn.out] at hgrow
      obtain ⟨hv1, hv2, hr2, hk2, hb2⟩ := hvd.appended (by decide) hrowd (by omega) (by omega) hown' hgrow
      have hc1 := hv1.cell
      have hf1 := hv1.frozen
      have HEND := Lib.hid (hend hown' hgrow hv1 hv2 hr2 hk2 hb2)
      clear hown' hgrow hv1 hv2 hr2 hk2 hb2
      refine hK _ _ ?_
      clear hK K
      repeat (first | simp only [List.getElem_toArray] | simp only [List.getElem_cons_succ] | simp only [List.getElem_cons_zero] | simp only [Act.put] | simp only [List.setIfInBounds_toArray] | simp only [List.set_cons_succ] | simp only [List.set_cons_zero])
      refine wpAnyIn_ready (rs := [5]) (by kernel_rfl) (by simp) ?_
      refine AllReadyIn.cons rfl (fun K hK => ?_) AllReadyIn.nil
      go_simp
      refine hK _ _ ?_
      clear hK K
      repeat (first | simp only [List.getElem_toArray] | simp only [List.getElem_cons_succ] | simp only [List.getElem_cons_zero] | simp only [Act.put] | simp only [List.setIfInBounds_toArray] | simp only [List.set_cons_succ] | simp only [List.set_cons_zero])
      refine wpAnyIn_done (by kernel_rfl) ?_ _
      clear hc1 hf1
      gi_wp2
      exact HEND.out
    · go_simp
      refine hK _ _ ?_
      clear hK K
      repeat (first | simp only [List.getElem_toArray] | simp only [List.getElem_cons_succ] | simp only [List.getElem_cons_zero] | simp only [Act.put] | simp only [List.setIfInBounds_toArray] | simp only [List.set_cons_succ] | simp only [List.set_cons_zero])
      refine wpAnyIn_ready (rs := [0, 2]) (by kernel_rfl) (by simp) ?_
      refine AllReadyIn.cons rfl (fun K hK => ?_) (AllReadyIn.cons rfl (fun K hK => ?_) AllReadyIn.nil)
      · go_simp
        refine hK _ _ ?_
        clear hK K
        repeat (first | simp only [List.getElem_toArray] | simp only [List.getElem_cons_succ] | simp only [List.getElem_cons_zero] | simp only [Act.put] | simp only [List.setIfInBounds_toArray] | simp only [List.set_cons_succ] | simp only [List.set_cons_zero])
        refine wpAnyIn_ready (rs := [2]) (by kernel_rfl) (by simp) ?_
        refine AllReadyIn.cons rfl (fun K hK => ?_) AllReadyIn.nil
        go_simp
        refine ⟨trivial, ?_⟩
        refine (CallsIn.inRound l (callsIn_wide.2 (total_any _ (rowAt m xs x.1) hlr _ HRX.out))).mono ?_
        rintro e w' ⟨rfl, rfl⟩
        refine hK _ _ ?_
        clear hK K
        repeat (first | simp only [List.getElem_toArray] | simp only [List.getElem_cons_succ] | simp only [List.getElem_cons_zero] | simp only [Act.put] | simp only [List.setIfInBounds_toArray] | simp only [List.set_cons_succ] | simp only [List.set_cons_zero])
        refine wpAnyIn_ready (rs := [3]) (by kernel_rfl) (by simp) ?_
        refine AllReadyIn.cons rfl (fun K hK => ?_) AllReadyIn.nil
        go_simp
        refine hK _ _ ?_
        clear hK K
        repeat (first | simp only [List.getElem_toArray] | simp only [List.getElem_cons_succ] | simp only [List.getElem_cons_zero] | simp only [Act.put] | simp only [List.setIfInBounds_toArray] | simp only [List.set_cons_succ] | simp only [List.set_cons_zero])
        rw [← HWn.out]
        refine wpAnyIn_ready (rs := [4]) (by kernel_rfl) (by simp) ?_
        refine AllReadyIn.cons rfl (fun K hK => ?_) AllReadyIn.nil
        refine stepIn_append Wn rfl (.tmp 12) (.tmp 15) 22 rfl w.heap.size 2 i0 (.int .i64 0) 1 8 Try.underlying22 hi hz0 hz1 hz2 rfl (by decide) v pre.length _ (by rfl) hrown ⟨Wd.heap.size, 0, none⟩ 1 1 [iV (sumW (rowAt m xs x.1))] (by rfl) rfl hone (by simp [Value.oneCell']) (by unfold maxLen; omega) (by omega) (by omega) ?_
        intro v' w1 hown' hgrow _
        obtain ⟨g', cap', rfl⟩ := ownsRow_succ hown'
        rw [HWn.out] at hgrow
        obtain ⟨hv1, hv2, hr2, hk2, hb2⟩ := hvd.appended (by decide) hrowd (by omega) (by omega) hown' hgrow
        have hc1 := hv1.cell
        have hf1 := hv1.frozen
        have HEND := Lib.hid (hend hown' hgrow hv1 hv2 hr2 hk2 hb2)
        clear hown' hgrow hv1 hv2 hr2 hk2 hb2
        refine hK _ _ ?_
        clear hK K
        repeat (first | simp only [List.getElem_toArray] | simp only [List.getElem_cons_succ] | simp only [List.getElem_cons_zero] | simp only [Act.put] | simp only [List.setIfInBounds_toArray] | simp only [List.set_cons_succ] | simp only [List.set_cons_zero])
        refine wpAnyIn_ready (rs := [5]) (by kernel_rfl) (by simp) ?_
        refine AllReadyIn.cons rfl (fun K hK => ?_) AllReadyIn.nil
        go_simp
        refine hK _ _ ?_
        clear hK K
        repeat (first | simp only [List.getElem_toArray] | simp only [List.getElem_cons_succ] | simp only [List.getElem_cons_zero] | simp only [Act.put] | simp only [List.setIfInBounds_toArray] | simp only [List.set_cons_succ] | simp only [List.set_cons_zero])
        refine wpAnyIn_done (by kernel_rfl) ?_ _
        clear hc1 hf1
        gi_wp2
        exact HEND.out
      · go_simp
        refine ⟨trivial, ?_⟩
        refine (CallsIn.inRound l (callsIn_wide.2 (total_any _ (rowAt m xs x.1) hlr _ HRX.out))).mono ?_
        rintro e w' ⟨rfl, rfl⟩
        refine hK _ _ ?_
        clear hK K
        repeat (first | simp only [List.getElem_toArray] | simp only [List.getElem_cons_succ] | simp only [List.getElem_cons_zero] | simp only [Act.put] | simp only [List.setIfInBounds_toArray] | simp only [List.set_cons_succ] | simp only [List.set_cons_zero])
        refine wpAnyIn_ready (rs := [0, 3]) (by kernel_rfl) (by simp) ?_
        refine AllReadyIn.cons rfl (fun K hK => ?_) (AllReadyIn.cons rfl (fun K hK => ?_) AllReadyIn.nil)
        · go_simp
          refine hK _ _ ?_
          clear hK K
          repeat (first | simp only [List.getElem_toArray] | simp only [List.getElem_cons_succ] | simp only [List.getElem_cons_zero] | simp only [Act.put] | simp only [List.setIfInBounds_toArray] | simp only [List.set_cons_succ] | simp only [List.set_cons_zero])
          refine wpAnyIn_ready (rs := [3]) (by kernel_rfl) (by simp) ?_
          refine AllReadyIn.cons rfl (fun K hK => ?_) AllReadyIn.nil
          go_simp
          refine hK _ _ ?_
          clear hK K
          repeat (first | simp only [List.getElem_toArray] | simp only [List.getElem_cons_succ] | simp only [List.getElem_cons_zero] | simp only [Act.put] | simp only [List.setIfInBounds_toArray] | simp only [List.set_cons_succ] | simp only [List.set_cons_zero])
          rw [← HWn.out]
          refine wpAnyIn_ready (rs := [4]) (by kernel_rfl) (by simp) ?_
          refine AllReadyIn.cons rfl (fun K hK => ?_) AllReadyIn.nil
          refine stepIn_append Wn rfl (.tmp 12) (.tmp 15) 22 rfl w.heap.size 2 i0 (.int .i64 0) 1 8 Try.underlying22 hi hz0 hz1 hz2 rfl (by decide) v pre.length _ (by rfl) hrown ⟨Wd.heap.size, 0, none⟩ 1 1 [iV (sumW (rowAt m xs x.1))] (by rfl) rfl hone (by simp [Value.oneCell']) (by unfold maxLen; omega) (by omega) (by omega) ?_
          intro v' w1 hown' hgrow _
          obtain ⟨g', cap', rfl⟩ := ownsRow_succ hown'
          rw [HWn.out] at hgrow
          obtain ⟨hv1, hv2, hr2, hk2, hb2⟩ := hvd.appended (by decide) hrowd (by omega) (by omega) hown' hgrow
          have hc1 := hv1.cell
          have hf1 := hv1.frozen
          have HEND := Lib.hid (hend hown' hgrow hv1 hv2 hr2 hk2 hb2)
          clear hown' hgrow hv1 hv2 hr2 hk2 hb2
          refine hK _ _ ?_
          clear hK K
          repeat (first | simp only [List.getElem_toArray] | simp only [List.getElem_cons_succ] | simp only [List.getElem_cons_zero] | simp only [Act.put] | simp only [List.setIfInBounds_toArray] | simp only [List.set_cons_succ] | simp only [List.set_cons_zero])
          refine wpAnyIn_ready (rs := [5]) (by kernel_rfl) (by simp) ?_
          refine AllReadyIn.cons rfl (fun K hK => ?_) AllReadyIn.nil
          go_simp
          refine hK _ _ ?_
          clear hK K
          repeat (first | simp only [List.getElem_toArray] | simp only [List.getElem_cons_succ] | simp only [List.getElem_cons_zero] | simp only [Act.put] | simp only [List.setIfInBounds_toArray] | simp only [List.set_cons_succ] | simp only [List.set_cons_zero])
          refine wpAnyIn_done (by kernel_rfl) ?_ _
          clear hc1 hf1
          gi_wp2
          exact HEND.out
        · go_simp
          refine hK _ _ ?_
          clear hK K
          repeat (first | simp only [List.getElem_toArray] | simp only [List.getElem_cons_succ] | simp only [List.getElem_cons_zero] | simp only [Act.put] | simp only [List.setIfInBounds_toArray] | simp only [List.set_cons_succ] | simp only [List.set_cons_zero])
          rw [← HWn.out]
          refine wpAnyIn_ready (rs := [0]) (by kernel_rfl) (by simp) ?_
          refine AllReadyIn.cons rfl (fun K hK => ?_) AllReadyIn.nil
          go_simp
          refine hK _ _ ?_
          clear hK K
          repeat (first | simp only [List.getElem_toArray] | simp only [List.getElem_cons_succ] | simp only [List.getElem_cons_zero] | simp only [Act.put] | simp only [List.setIfInBounds_toArray] | simp only [List.set_cons_succ] | simp only [List.set_cons_zero])
          refine wpAnyIn_ready (rs := [4]) (by kernel_rfl) (by simp) ?_
          refine AllReadyIn.cons rfl (fun K hK => ?_) AllReadyIn.nil
          refine stepIn_append Wn rfl (.tmp 12) (.tmp 15) 22 rfl w.heap.size 2 i0 (.int .i64 0) 1 8 Try.underlying22 hi hz0 hz1 hz2 rfl (by decide) v pre.length _ (by rfl) hrown ⟨Wd.heap.size, 0, none⟩ 1 1 [iV (sumW (rowAt m xs x.1))] (by rfl) rfl hone (by simp [Value.oneCell']) (by unfold maxLen; omega) (by omega) (by omega) ?_
          intro v' w1 hown' hgrow _
          obtain ⟨g', cap', rfl⟩ := ownsRow_succ hown'
          rw [HWn.out] at hgrow
          obtain ⟨hv1, hv2, hr2, hk2, hb2⟩ := hvd.appended (by decide) hrowd (by omega) (by omega) hown' hgrow
          have hc1 := hv1.cell
          have hf1 := hv1.frozen
          have HEND := Lib.hid (hend hown' hgrow hv1 hv2 hr2 hk2 hb2)
          clear hown' hgrow hv1 hv2 hr2 hk2 hb2
          refine hK _ _ ?_
          clear hK K
          repeat (first | simp only [List.getElem_toArray] | simp only [List.getElem_cons_succ] | simp only [List.getElem_cons_zero] | simp only [Act.put] | simp only [List.setIfInBounds_toArray] | simp only [List.set_cons_succ] | simp only [List.set_cons_zero])
          refine wpAnyIn_ready (rs := [5]) (by kernel_rfl) (by simp) ?_
          refine AllReadyIn.cons rfl (fun K hK => ?_) AllReadyIn.nil
          go_simp
          refine hK _ _ ?_
          clear hK K
          repeat (first | simp only [List.getElem_toArray] | simp only [List.getElem_cons_succ] | simp only [List.getElem_cons_zero] | simp only [Act.put] | simp only [List.setIfInBounds_toArray] | simp only [List.set_cons_succ] | simp only [List.set_cons_zero])
          refine wpAnyIn_done (by kernel_rfl) ?_ _
          clear hc1 hf1
          gi_wp2
          exact HEND.out
  case done =>
    rintro D ys W hD rfl ⟨⟨⟨v, hv, hrow, -⟩, hbs, hbm⟩, hB⟩ hK
    have hc := hv.cell
    gi_wp2
    refine ⟨by simp, .inl ⟨_, _, rfl, run_takeDeferred hK, ?_⟩⟩
    refine ⟨_, results_tmp rfl _ _ _, v, rfl, ?_, hB.trans (belowK_b (w := w) (Nat.le_refl _) W D _ _ (by omega) hK rfl rfl)⟩
    unfold Own
    rw [rowsOf_fin, List.length_map, List.map_map]
    exact ownsRow_putObj hrow _ hK rfl
  case stop =>
    rintro D c pre W _ _ h _
    exact h.elim
end Go.Proofs.Ytmhmekfbnaafmaa
