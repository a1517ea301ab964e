/-
  impl.AreEdges on edges in their order: they are edges unless they are too many.
-/
import Derived.Test.YthdnelfggmlalaaChunkO
import Derived.Test.YthdnelfggmlalaaSortP
import Derived.Test.YthdnelfggmlalaaFence
import Derived.Test.YthdnelfggmlalaaGrW
import Derived.RangeFuncBox
namespace Go.Proofs.Ythdnelfggmlalaa
open Go.RowKit Go.Shelf
attribute [local go_sem] Oper.semAt_some

/-- What the walk knows of the slice ahead. -/
def lastV {r : Nat} (z : Nat) (ad : Addr) (pre : List (Fin r)) : Value := match pre.getLast? with
  | none => .slice (some ⟨z, 0, none⟩) 0 0
  | some y => cutV ad 2 y.1
def lastL {r : Nat} (zs : List (Int × Int)) (pre : List (Fin r)) : List Int := match pre.getLast? with
  | none => []
  | some y => [(zs[y.1]?.getD (0, 0)).1, (zs[y.1]?.getD (0, 0)).2]
theorem lastV_snoc {r : Nat} (z : Nat) (ad : Addr) (pre : List (Fin r)) (x : Fin r) : lastV z ad (pre ++ [x]) = cutV ad 2 x.1 := by unfold lastV; rw [List.getLast?_concat]
theorem last_next {r : Nat} {zs : List (Int × Int)} {pre : List (Fin r)} {x : Fin r} {p : Int × Int} (hr : r = zs.length) (hp : zs[x.1]? = some p) (hs : zs.Pairwise (fun x y => ltP x y = true)) (h : pre ++ [x] <+: List.finRange r) : cmpL (lastL zs pre) [p.1, p.2] < 0 := by
  obtain ⟨t, ht⟩ := h
  have hx : (List.finRange r)[pre.length]? = some x := by rw [← ht, List.append_assoc, List.getElem?_append_right (Nat.le_refl _)]; simp
  have hxl : x.1 = pre.length := by
    obtain ⟨h1, h2⟩ := List.getElem?_eq_some_iff.1 hx
    rw [List.getElem_finRange] at h2
    rw [← h2]; rfl
  unfold lastL
  cases hl : pre.getLast? with
  | none => simp [cmpL]
  | some y =>
    simp only
    have hyp : pre[pre.length - 1]? = some y := by rw [← hl, List.getLast?_eq_getElem?]
    have hp0 : 0 < pre.length := by
      have := lt_of_get hyp
      omega
    have hy : (List.finRange r)[pre.length - 1]? = some y := by rw [← ht, List.append_assoc, List.getElem?_append_left (by omega)]; exact hyp
    have hyl : y.1 = pre.length - 1 := by
      obtain ⟨h1, h2⟩ := List.getElem?_eq_some_iff.1 hy
      rw [List.getElem_finRange] at h2
      rw [← h2]; rfl
    have hyz : y.1 < zs.length := by rw [← hr]; exact y.2
    obtain ⟨q, hq⟩ := get_ex (xs := zs) (i := y.1) hyz
    rw [hq, Option.getD_some]
    rw [List.pairwise_iff_getElem] at hs
    obtain ⟨h1, e1⟩ := List.getElem?_eq_some_iff.1 hq
    obtain ⟨h2, e2⟩ := List.getElem?_eq_some_iff.1 hp
    have := hs y.1 x.1 h1 h2 (by omega)
    rw [e1, e2, ← cmpL_pair] at this
    exact of_decide_eq_true this
theorem cut_rd {w : World} {ad : Addr} {n cap : Nat} {zs : List (Int × Int)} {k : Nat} {p : Int × Int} (h : Rd iV w (.slice (some ad) n cap) (flatP zs)) (hp : zs[k]? = some p) : Rd iV w (cutV ad 2 k) [p.1, p.2] := by
  obtain ⟨A, c, e, _, hA⟩ := h
  cases e
  have hf := flatP_at hp
  refine ⟨some (ad.add (k * 2)), 2, rfl, Nat.le_refl _, fun j x hj => ?_⟩
  match j, hj with
  | 0, hj =>
    simp at hj
    subst hj
    obtain ⟨ad', e, h1, h2⟩ := hA (2 * k) _ hf.1
    cases e
    exact ⟨_, rfl, by rw [add_block]; exact h1, by rw [Addr.add_add, show k * 2 + 0 = 2 * k by omega]; exact h2⟩
  | 1, hj =>
    simp at hj
    subst hj
    obtain ⟨ad', e, h1, h2⟩ := hA (2 * k + 1) _ hf.2
    cases e
    exact ⟨_, rfl, by rw [add_block]; exact h1, by rw [Addr.add_add, show k * 2 + 1 = 2 * k + 1 by omega]; exact h2⟩
theorem cmpL_nil_pair (p : Int × Int) : cmpL [] [p.1, p.2] < 0 := by simp [cmpL]
theorem s4_kept {W W' : World} {a b c d : Addr} {x y z u : Value} (hb : Below W.heap.size W W') (ha : a.block < W.heap.size) (hb' : b.block < W.heap.size) (hc : c.block < W.heap.size) (hd : d.block < W.heap.size)
    (h : W.cell? a = some x ∧ W.cell? b = some y ∧ W.cell? c = some z ∧ W.cell? d = some u) : W'.cell? a = some x ∧ W'.cell? b = some y ∧ W'.cell? c = some z ∧ W'.cell? d = some u :=
  ⟨(hb.cell ha).trans h.1, (hb.cell hb').trans h.2.1, (hb.cell hc).trans h.2.2.1, (hb.cell hd).trans h.2.2.2⟩

theorem areEdges_long (n : Int) (hn1 : inB n 1 64 = true) (v : Value) (xs : List Int) (m : Nat) (hm : xs.length = 2 * m) (hxl : 512 < xs.length) (_hn : xs.length ≤ 1000000) (w : World) (hr : Rd iV w v xs) :
    Calls Try.prog 66 #[v, .int .i64 n] w fun e w' => e = .returned (.bool false) ∧ Below w.heap.size w w' := by
  obtain ⟨A, cap, rfl, hcap, hA⟩ := hr
  clear hA
  obtain ⟨N, hN⟩ : ∃ N, N = xs.length := ⟨_, rfl⟩
  rw [← hN] at hm hxl ⊢
  have hev : (N : Int) % 2 = 0 := by omega
  have HM := Lib.hid hm
  clear hm hN hcap
  obtain ⟨Br, hBr⟩ : ∃ B, B = w.heap.size + 1 := ⟨_, rfl⟩
  have hb0 : Boxed ((w.alloc (.cells #[.int .i64 n] 2)).alloc (.cells #[.bool false] 4)) Br 4 (.bool false) := by
    have h := Boxed.new (w.alloc (.cells #[.int .i64 n] 2)) 4 (.bool false)
    rw [World.size_alloc, ← hBr] at h
    exact h
  have hB0 : Below w.heap.size w ((w.alloc (.cells #[.int .i64 n] 2)).alloc (.cells #[.bool false] 4)) := ((Below.refl _ _).alloc (Nat.le_refl _) _).alloc (by simp) _
  have c9 := hb0.cell
  have HB0 := Lib.hid hB0
  rw [hBr] at c9
  clear hB0 hb0 hBr
  go_enter Try.func66, Try.ntmps66
  go_wp2_with (go_at_call 45; refine (size1_any n _).mono ?_; rintro e w' ⟨rfl, rfl⟩; rw [hn1])
  have HB := HB0.out
  clear HB0
  generalize (w.alloc (.cells #[.int .i64 n] 2)).alloc (.cells #[.bool false] 4) = Wz at c9 HB ⊢
  refine bodyPost_ret (v := .bool false) ?_ rfl ⟨rfl, HB⟩
  simp only [results, show Try.f66.results = #[.cell 4 4] from rfl]
  go_simp

set_option maxRecDepth 100000 in
set_option maxHeartbeats 2000000 in
theorem areEdges_good (n : Int) (hn1 : inB n 1 64 = true) (v : Value) (zs : List (Int × Int)) (hl : 2 * zs.length ≤ 512) (hz : ∀ p ∈ zs, 0 ≤ p.1 ∧ p.1 < p.2 ∧ p.2 < n) (hs : zs.Pairwise (fun x y => ltP x y = true)) (w : World) (hr : Rd iV w v (flatP zs)) :
    Calls Try.prog 66 #[v, .int .i64 n] w fun e w' => e = .returned (.bool true) ∧ Below w.heap.size w w' := by
  have HR := Lib.hid hr
  obtain ⟨r, hrz⟩ : ∃ r, r = zs.length := ⟨_, rfl⟩
  obtain ⟨A, cap, rfl, hcap, hA⟩ := hr
  obtain ⟨N, hN⟩ : ∃ N, N = (flatP zs).length := ⟨_, rfl⟩
  have hlen : N = r * 2 := by rw [hN, flatP_len]; omega
  obtain ⟨ad, hO⟩ : ∃ ad, A = some ad ∨ r = 0 := by
    rcases Nat.eq_zero_or_pos r with h | h
    · exact ⟨⟨0, 0, none⟩, .inr h⟩
    · obtain ⟨x, hx⟩ := get_of_lt (xs := flatP zs) (k := 0) (by omega)
      obtain ⟨ad, e, _⟩ := hA 0 x hx
      exact ⟨ad, .inl e⟩
  clear hA
  rw [← hN] at HR hcap ⊢
  have hNs : N ≤ 512 := by omega
  have hev : ((N : Int).tmod 2 != 0) = false := by rw [hlen]; simp
  have hev2 : ¬ (N : Int).tmod 2 = 0 → False := by rw [hlen]; simp
  refine (callsIn_wide (n := 6)).1 ?_
  refine callsIn_of_wp_marks Try.func66 rfl trivial ?_ rfl
  simp only [Try.ntmps66, List.size_toArray, List.length_cons, List.length_nil, Nat.reduceAdd, Nat.reduceSub, Array.replicate_succ, Array.replicate_zero, List.push_toArray, List.append_toArray, List.nil_append, List.cons_append]
  have HLEN := Lib.hid hlen
  have HOO := Lib.hid hO
  have HRZ := Lib.hid hrz
  have HN := Lib.hid hN
  have HZ := Lib.hid hz
  have HS := Lib.hid hs
  clear hlen hO hrz hN hz hs
  gi_wp2_with (refine ⟨trivial, ?_⟩; first | (gi_at_call 45; refine (callsIn_wide.2 (size1_any n _)).mono ?_; rintro e w' ⟨rfl, rfl⟩; rw [hn1]) | (gi_at_call 87; refine (chunk_in _ A N cap 2 (by decide) _).mono ?_; rintro e w' ⟨rfl, rfl⟩))
  obtain ⟨Bn, hBn⟩ : ∃ B, B = w.heap.size := ⟨_, rfl⟩
  obtain ⟨Br, hBr⟩ : ∃ B, B = w.heap.size + 1 := ⟨_, rfl⟩
  obtain ⟨Be, hBe⟩ : ∃ B, B = w.heap.size + 1 + 1 := ⟨_, rfl⟩
  obtain ⟨Bb, hBb⟩ : ∃ B, B = w.heap.size + 1 + 1 + 1 := ⟨_, rfl⟩
  obtain ⟨Bs, hBs⟩ : ∃ B, B = w.heap.size + 1 + 1 + 1 + 1 := ⟨_, rfl⟩
  obtain ⟨Bm, hBm⟩ : ∃ B, B = w.heap.size + 1 + 1 + 1 + 1 + 1 := ⟨_, rfl⟩
  obtain ⟨W1, hW1⟩ : ∃ W, W = w.alloc (.cells #[.int .i64 n] 2) := ⟨_, rfl⟩
  obtain ⟨W2, hW2⟩ : ∃ W, W = W1.alloc (.cells #[.bool false] 4) := ⟨_, rfl⟩
  obtain ⟨W3, hW3⟩ : ∃ W, W = W2.alloc (.cells #[] 2) := ⟨_, rfl⟩
  obtain ⟨W4, hW4⟩ : ∃ W, W = W3.alloc (.cells #[.slice (some ⟨Be, 0, none⟩) 0 0] 36) := ⟨_, rfl⟩
  obtain ⟨W5, hW5⟩ : ∃ W, W = W4.alloc (.cells #[.slice A N cap] 36) := ⟨_, rfl⟩
  obtain ⟨W6, hW6⟩ : ∃ W, W = W5.alloc (.cells #[.int .i64 2] 3) := ⟨_, rfl⟩
  have z1 : W1.heap.size = w.heap.size + 1 := by rw [hW1, World.size_alloc]
  have z2 : W2.heap.size = w.heap.size + 1 + 1 := by rw [hW2, World.size_alloc, z1]
  have z3 : W3.heap.size = w.heap.size + 1 + 1 + 1 := by rw [hW3, World.size_alloc, z2]
  have z4 : W4.heap.size = w.heap.size + 1 + 1 + 1 + 1 := by rw [hW4, World.size_alloc, z3]
  have z5 : W5.heap.size = w.heap.size + 1 + 1 + 1 + 1 + 1 := by rw [hW5, World.size_alloc, z4]
  have z6 : W6.heap.size = w.heap.size + 6 := by rw [hW6, World.size_alloc, z5]
  have bN : Boxed W6 Bn 2 (.int .i64 n) := by
    have h := Boxed.new w 2 (.int .i64 n)
    rw [← hW1, ← hBn] at h
    rw [hW6, hW5, hW4, hW3, hW2]; exact ((((h.alloc _).alloc _).alloc _).alloc _).alloc _
  have bR : Boxed W6 Br 4 (.bool false) := by
    have h := Boxed.new W1 4 (.bool false)
    rw [← hW2, z1, ← hBr] at h
    rw [hW6, hW5, hW4, hW3]; exact (((h.alloc _).alloc _).alloc _).alloc _
  have bB : Boxed W6 Bb 36 (.slice (some ⟨Be, 0, none⟩) 0 0) := by
    have h := Boxed.new W3 36 (.slice (some ⟨Be, 0, none⟩) 0 0)
    rw [← hW4, z3, ← hBb] at h
    rw [hW6, hW5]; exact (h.alloc _).alloc _
  have bS : Boxed W6 Bs 36 (.slice A N cap) := by
    have h := Boxed.new W4 36 (.slice A N cap)
    rw [← hW5, z4, ← hBs] at h
    rw [hW6]; exact h.alloc _
  have bM : Boxed W6 Bm 3 (.int .i64 2) := by
    have h := Boxed.new W5 3 (.int .i64 2)
    rw [← hW6, z5, ← hBm] at h
    exact h
  have hT : Below w.heap.size w W6 := by
    rw [hW6, hW5, hW4, hW3, hW2, hW1]
    exact ((((((Below.refl _ _).alloc (Nat.le_refl _) _).alloc (by simp) _).alloc (by simp; omega) _).alloc (by simp; omega) _).alloc (by simp; omega) _).alloc (by simp; omega) _
  rw [← hBm, ← hBs, ← hBb, ← hBe, ← hBr, ← hBn, ← hW1, ← hW2, ← hW3, ← hW4, ← hW5, ← hW6]
  have HBn := Lib.hid hBn
  have HBr := Lib.hid hBr
  have HBb := Lib.hid hBb
  have HBs := Lib.hid hBs
  have HBm := Lib.hid hBm
  have HZ6 := Lib.hid z6
  clear hW1 hW2 hW3 hW4 hW5 hW6 z1 z2 z3 z4 z5
  refine wpIn_rangeFunc_ownG rfl (by omega) (gf := 119) (lb := #[.pointer (some ⟨Bs, 0, none⟩), .pointer (some ⟨Bm, 0, none⟩)]) rfl trivial (enters_of Try.func119 (by kernel_rfl) rfl)
    (chunk_stops _ (by omega) _ _ A ad N cap r 2 HOO.out (by decide) HLEN.out (by omega) hcap W6 bS bM) Kc.trans (Kc.put (by omega) (by omega)) (Below.refl _ _) (fun _ => rfl)
    (fun pre W => (((Boxed W Bn 2 (.int .i64 n) ∧ Boxed W Br 4 (.bool false)) ∧ Boxed W Bb 36 (lastV Be ad pre)) ∧ (Boxed W Bs 36 (.slice A N cap) ∧ Boxed W Bm 3 (.int .i64 2))) ∧ Below w.heap.size w W)
    (fun c pre _ => c = .ret ∧ ¬ pre <+: List.finRange r)
    (OwnFrom.and (OwnFrom.and (OwnFrom.and (OwnFrom.and (Own.from (boxed_own _ _ (fun _ => .int .i64 n)) _) (Own.from (boxed_own _ _ (fun _ => .bool false)) _)) (Own.from (boxed_own _ _ (fun pre : List (Fin r) => lastV Be ad pre)) _)) (OwnFrom.and (Own.from (boxed_own _ _ (fun _ => .slice A N cap)) _) (Own.from (boxed_own _ _ (fun _ => .int .i64 2)) _))) (ownFrom_below (Nat.le_refl _) (by omega)))
    (fun _ _ _ _ _ hs _ _ => hs)
    ⟨⟨⟨⟨bN, bR⟩, bB⟩, bS, bM⟩, hT⟩
    (fun x => { tmps := #[.slice A N cap, .int .i64 n, undef, .pointer (some ⟨Bn, 0, none⟩), .pointer (some ⟨Br, 0, none⟩), .pointer (some ⟨Bb, 0, none⟩), cutV ad 2 x.1, .int .i64 n, .bool true, .bool false, .bool false, .slice A N cap, .int .i64 N, .int .i64 0, .bool false, .bool false, .bool false, .slice A N cap, .int .i64 N, .bool (decide ((512 : Int) < N)), .bool (decide ((512 : Int) < N)), .slice (some ⟨Be, 0, none⟩) 0 0, .slice A N cap, .func (.func 119) #[] #[.pointer (some ⟨Bs, 0, none⟩), .pointer (some ⟨Bm, 0, none⟩)], cutV ad 2 x.1, undef, undef, undef, undef, undef, undef, undef, undef, undef, undef, undef, undef, undef, undef, undef, undef, undef, undef, undef, undef, undef, undef, undef, undef, undef, undef, undef], defers := [] }) ?assign ?body ?done ?stop
  case assign =>
    intro l x W K hK
    clear hBn hBr hBe hBb hBs hBm z6
    gi_wp2
    exact hK
  case body =>
    rintro l pre x W ⟨⟨⟨⟨hbn, hbr⟩, hbb⟩, hbs, hbm⟩, hBW⟩ hlt
    have hxr : x.1 < zs.length := by rw [← HRZ.out]; exact x.2
    obtain ⟨p, hp⟩ := get_ex (xs := zs) (i := x.1) hxr
    have hpz := HZ.out p (List.mem_of_getElem? hp)
    have hnext := last_next HRZ.out hp HS.out (pre := pre)
    obtain rfl : A = some ad := HOO.out.resolve_right (by have := x.2; omega)
    have HCUT := HR.out
    rw [HN.out] at HCUT
    have hcr := cut_rd HCUT hp
    have HRP := Lib.hid (hcr.below hBW)
    have hbefr : Rd iV W (lastV Be ad pre) (lastL zs pre) := by
      unfold lastV lastL
      cases hg : pre.getLast? with
      | none => exact ⟨_, 0, rfl, Nat.le_refl _, fun k x h => by simp at h⟩
      | some y =>
        obtain ⟨q, hq⟩ := get_ex (xs := zs) (i := y.1) (by rw [← HRZ.out]; exact y.2)
        simp only [hq, Option.getD_some]
        exact (cut_rd HCUT hq).below hBW
    obtain ⟨x0, x1⟩ := p
    obtain ⟨ap, hap⟩ : ∃ ap, ap = ad.add (x.1 * 2) := ⟨_, rfl⟩
    have hcut : cutV ad 2 x.1 = .slice (some ap) 2 2 := by rw [hap]; rfl
    rw [hcut] at hcr HRP ⊢
    have HCU := Lib.hid hcut
    have dl : ap.block < w.heap.size := by
      obtain ⟨A', c', e, _, h'⟩ := hcr
      cases e
      obtain ⟨ad', e, h1, h2⟩ := h' 0 x0 rfl
      cases e
      exact h1
    have d0 : W.cell? ap = some (iV x0) := by
      obtain ⟨A', c', e, _, h'⟩ := HRP.out
      cases e
      obtain ⟨ad', e, h1, h2⟩ := h' 0 x0 rfl
      cases e
      rwa [show ap.add 0 = ap from if_pos rfl] at h2
    have d1 : W.cell? ⟨ap.block, ap.off + 1, none⟩ = some (iV x1) := by
      obtain ⟨A', c', e, _, h'⟩ := HRP.out
      cases e
      obtain ⟨ad', e, h1, h2⟩ := h' 1 x1 rfl
      cases e
      rwa [show ap.add 1 = ⟨ap.block, ap.off + 1, none⟩ by unfold Addr.add; rw [if_neg (by decide)]] at h2
    have g0 : ¬ x0 < 0 := by have := hpz.1; simp only at this; omega
    have g1 : ¬ x1 ≤ x0 := by have := hpz.2.1; simp only at this; omega
    have g2 : ¬ n ≤ x1 := by have := hpz.2.2; simp only at this; omega
    obtain ⟨bv, hbv⟩ : ∃ bv, bv = lastV Be ad pre := ⟨_, rfl⟩
    obtain ⟨c, hcc⟩ : ∃ c, c = cmpL (lastL zs pre) [x0, x1] := ⟨_, rfl⟩
    rw [← hbv] at hbb hbefr
    have hll : (lastL zs pre).length ≤ 1000000 := by unfold lastL; split <;> simp
    have HCMP := Lib.hid (compareL_any bv (.slice (some ap) 2 2) (lastL zs pre) [x0, x1] hll (by simp) W.drew (hbefr.drewN 1) (HRP.out.drewN 1))
    rw [← hcc] at HCMP
    simp only [← hcc] at hnext
    have HNX := Lib.hid hnext
    clear hBn hBr hBe hBb hBs hBm z6 hcut hap hp hpz hnext HCUT hcr HRP hbefr hbv hcc hll hxr
    gi_wp2
    refine wpIn_region_T (fun W' => W'.cell? ⟨Bb, 0, none⟩ = some bv ∧ W'.cell? ap = some (iV x0) ∧ W'.cell? ⟨ap.block, ap.off + 1, none⟩ = some (iV x1) ∧ W'.cell? ⟨Bn, 0, none⟩ = some (iV n)) [] (by kernel_rfl) (by kernel_rfl) (by rintro ⟨a, w', h⟩; exact h) ⟨hbb.cell, d0, d1, hbn.cell⟩ (fun hS1 => ?_)
    simp only [List.size_toArray, List.length_cons, List.length_nil, Nat.reduceAdd]
    refine wpAnyT_takeY (i := 0) (v := ?_) rfl (by kernel_rfl) (by kernel_rfl) (by kernel_rfl) (fun _ _ _ h => h) (Or.inl ⟨by rfl, ?_⟩) ?_
    rotate_left
    · intro wq; first | (go_simp; done) | (go_simp; with_reducible rfl)
    repeat (first | simp only [List.getElem_toArray] | simp only [List.getElem_cons_succ] | simp only [List.getElem_cons_zero] | simp only [Act.put] | simp only [List.setIfInBounds_toArray] | simp only [List.set_cons_succ] | simp only [List.set_cons_zero])
    refine wpAnyT_takeY (i := 1) (v := ?_) rfl (by kernel_rfl) (by kernel_rfl) (by kernel_rfl) (fun _ _ _ h => h) (Or.inl ⟨by rfl, ?_⟩) ?_
    rotate_left
    · intro wq; first | (go_simp; done) | (go_simp; with_reducible rfl)
    repeat (first | simp only [List.getElem_toArray] | simp only [List.getElem_cons_succ] | simp only [List.getElem_cons_zero] | simp only [Act.put] | simp only [List.setIfInBounds_toArray] | simp only [List.set_cons_succ] | simp only [List.set_cons_zero])
    refine wpAnyT_take (i := 2) (v := (iV x0)) rfl (by kernel_rfl) (by kernel_rfl) (by kernel_rfl) (by kernel_rfl) (by kernel_rfl) (fun _ _ _ h => h) (Or.inl ⟨by rfl, ?_⟩) hS1 ?_
    · intro wq hq; have q0 := hq.1; have q1 := hq.2.1; have q2 := hq.2.2.1; have q3 := hq.2.2.2; clear hq; go_simp
    repeat (first | simp only [List.getElem_toArray] | simp only [List.getElem_cons_succ] | simp only [List.getElem_cons_zero] | simp only [Act.put] | simp only [List.setIfInBounds_toArray] | simp only [List.set_cons_succ] | simp only [List.set_cons_zero])
    refine wpAnyT_takeY (i := 3) (v := (.bool false)) rfl (by kernel_rfl) (by kernel_rfl) (by kernel_rfl) (fun _ _ _ h => h) (Or.inl ⟨by rfl, ?_⟩) ?_
    · intro wq; go_simp
    repeat (first | simp only [List.getElem_toArray] | simp only [List.getElem_cons_succ] | simp only [List.getElem_cons_zero] | simp only [Act.put] | simp only [List.setIfInBounds_toArray] | simp only [List.set_cons_succ] | simp only [List.set_cons_zero])
    refine wpAnyT_takeY (i := 4) (v := ?_) rfl (by kernel_rfl) (by kernel_rfl) (by kernel_rfl) (fun _ _ _ h => h) (Or.inl ⟨by rfl, ?_⟩) ?_
    rotate_left
    · intro wq; first | (go_simp; done) | (go_simp; with_reducible rfl)
    repeat (first | simp only [List.getElem_toArray] | simp only [List.getElem_cons_succ] | simp only [List.getElem_cons_zero] | simp only [Act.put] | simp only [List.setIfInBounds_toArray] | simp only [List.set_cons_succ] | simp only [List.set_cons_zero])
    refine wpAnyT_takeY (i := 5) (v := ?_) rfl (by kernel_rfl) (by kernel_rfl) (by kernel_rfl) (fun _ _ _ h => h) (Or.inl ⟨by rfl, ?_⟩) ?_
    rotate_left
    · intro wq; first | (go_simp; done) | (go_simp; with_reducible rfl)
    repeat (first | simp only [List.getElem_toArray] | simp only [List.getElem_cons_succ] | simp only [List.getElem_cons_zero] | simp only [Act.put] | simp only [List.setIfInBounds_toArray] | simp only [List.set_cons_succ] | simp only [List.set_cons_zero])
    refine wpAnyT_takeY (i := 6) (v := ?_) rfl (by kernel_rfl) (by kernel_rfl) (by kernel_rfl) (fun _ _ _ h => h) (Or.inl ⟨by rfl, ?_⟩) ?_
    rotate_left
    · intro wq; first | (go_simp; done) | (go_simp; with_reducible rfl)
    repeat (first | simp only [List.getElem_toArray] | simp only [List.getElem_cons_succ] | simp only [List.getElem_cons_zero] | simp only [Act.put] | simp only [List.setIfInBounds_toArray] | simp only [List.set_cons_succ] | simp only [List.set_cons_zero])
    refine wpAnyT_take (i := 7) (v := (iV x0)) rfl (by kernel_rfl) (by kernel_rfl) (by kernel_rfl) (by kernel_rfl) (by kernel_rfl) (fun _ _ _ h => h) (Or.inl ⟨by rfl, ?_⟩) hS1 ?_
    · intro wq hq; have q0 := hq.1; have q1 := hq.2.1; have q2 := hq.2.2.1; have q3 := hq.2.2.2; clear hq; go_simp
    repeat (first | simp only [List.getElem_toArray] | simp only [List.getElem_cons_succ] | simp only [List.getElem_cons_zero] | simp only [Act.put] | simp only [List.setIfInBounds_toArray] | simp only [List.set_cons_succ] | simp only [List.set_cons_zero])
    refine wpAnyT_takeY (i := 8) (v := ?_) rfl (by kernel_rfl) (by kernel_rfl) (by kernel_rfl) (fun _ _ _ h => h) (Or.inl ⟨by rfl, ?_⟩) ?_
    rotate_left
    · intro wq; first | (go_simp; done) | (go_simp; with_reducible rfl)
    repeat (first | simp only [List.getElem_toArray] | simp only [List.getElem_cons_succ] | simp only [List.getElem_cons_zero] | simp only [Act.put] | simp only [List.setIfInBounds_toArray] | simp only [List.set_cons_succ] | simp only [List.set_cons_zero])
    refine wpAnyT_takeY (i := 9) (v := ?_) rfl (by kernel_rfl) (by kernel_rfl) (by kernel_rfl) (fun _ _ _ h => h) (Or.inl ⟨by rfl, ?_⟩) ?_
    rotate_left
    · intro wq; first | (go_simp; done) | (go_simp; with_reducible rfl)
    repeat (first | simp only [List.getElem_toArray] | simp only [List.getElem_cons_succ] | simp only [List.getElem_cons_zero] | simp only [Act.put] | simp only [List.setIfInBounds_toArray] | simp only [List.set_cons_succ] | simp only [List.set_cons_zero])
    refine wpAnyT_take (i := 10) (v := (iV x1)) rfl (by kernel_rfl) (by kernel_rfl) (by kernel_rfl) (by kernel_rfl) (by kernel_rfl) (fun _ _ _ h => h) (Or.inl ⟨by rfl, ?_⟩) hS1 ?_
    · intro wq hq; have q0 := hq.1; have q1 := hq.2.1; have q2 := hq.2.2.1; have q3 := hq.2.2.2; clear hq; go_simp
    repeat (first | simp only [List.getElem_toArray] | simp only [List.getElem_cons_succ] | simp only [List.getElem_cons_zero] | simp only [Act.put] | simp only [List.setIfInBounds_toArray] | simp only [List.set_cons_succ] | simp only [List.set_cons_zero])
    refine wpAnyT_takeY (i := 11) (v := (.bool false)) rfl (by kernel_rfl) (by kernel_rfl) (by kernel_rfl) (fun _ _ _ h => h) (Or.inl ⟨by rfl, ?_⟩) ?_
    · intro wq; go_simp
    repeat (first | simp only [List.getElem_toArray] | simp only [List.getElem_cons_succ] | simp only [List.getElem_cons_zero] | simp only [Act.put] | simp only [List.setIfInBounds_toArray] | simp only [List.set_cons_succ] | simp only [List.set_cons_zero])
    refine wpAnyT_takeY (i := 12) (v := (.bool false)) rfl (by kernel_rfl) (by kernel_rfl) (by kernel_rfl) (fun _ _ _ h => h) (Or.inl ⟨by rfl, ?_⟩) ?_
    · intro wq; go_simp
    repeat (first | simp only [List.getElem_toArray] | simp only [List.getElem_cons_succ] | simp only [List.getElem_cons_zero] | simp only [Act.put] | simp only [List.setIfInBounds_toArray] | simp only [List.set_cons_succ] | simp only [List.set_cons_zero])
    refine wpAnyT_takeY (i := 13) (v := ?_) rfl (by kernel_rfl) (by kernel_rfl) (by kernel_rfl) (fun _ _ _ h => h) (Or.inl ⟨by rfl, ?_⟩) ?_
    rotate_left
    · intro wq; first | (go_simp; done) | (go_simp; with_reducible rfl)
    repeat (first | simp only [List.getElem_toArray] | simp only [List.getElem_cons_succ] | simp only [List.getElem_cons_zero] | simp only [Act.put] | simp only [List.setIfInBounds_toArray] | simp only [List.set_cons_succ] | simp only [List.set_cons_zero])
    refine wpAnyT_takeY (i := 14) (v := ?_) rfl (by kernel_rfl) (by kernel_rfl) (by kernel_rfl) (fun _ _ _ h => h) (Or.inl ⟨by rfl, ?_⟩) ?_
    rotate_left
    · intro wq; first | (go_simp; done) | (go_simp; with_reducible rfl)
    repeat (first | simp only [List.getElem_toArray] | simp only [List.getElem_cons_succ] | simp only [List.getElem_cons_zero] | simp only [Act.put] | simp only [List.setIfInBounds_toArray] | simp only [List.set_cons_succ] | simp only [List.set_cons_zero])
    refine wpAnyT_takeY (i := 15) (v := ?_) rfl (by kernel_rfl) (by kernel_rfl) (by kernel_rfl) (fun _ _ _ h => h) (Or.inl ⟨by rfl, ?_⟩) ?_
    rotate_left
    · intro wq; first | (go_simp; done) | (go_simp; with_reducible rfl)
    repeat (first | simp only [List.getElem_toArray] | simp only [List.getElem_cons_succ] | simp only [List.getElem_cons_zero] | simp only [Act.put] | simp only [List.setIfInBounds_toArray] | simp only [List.set_cons_succ] | simp only [List.set_cons_zero])
    refine wpAnyT_take (i := 16) (v := (iV x1)) rfl (by kernel_rfl) (by kernel_rfl) (by kernel_rfl) (by kernel_rfl) (by kernel_rfl) (fun _ _ _ h => h) (Or.inl ⟨by rfl, ?_⟩) hS1 ?_
    · intro wq hq; have q0 := hq.1; have q1 := hq.2.1; have q2 := hq.2.2.1; have q3 := hq.2.2.2; clear hq; go_simp
    repeat (first | simp only [List.getElem_toArray] | simp only [List.getElem_cons_succ] | simp only [List.getElem_cons_zero] | simp only [Act.put] | simp only [List.setIfInBounds_toArray] | simp only [List.set_cons_succ] | simp only [List.set_cons_zero])
    refine wpAnyT_take (i := 17) (v := (iV n)) rfl (by kernel_rfl) (by kernel_rfl) (by kernel_rfl) (by kernel_rfl) (by kernel_rfl) (fun _ _ _ h => h) (Or.inl ⟨by rfl, ?_⟩) hS1 ?_
    · intro wq hq; have q0 := hq.1; have q1 := hq.2.1; have q2 := hq.2.2.1; have q3 := hq.2.2.2; clear hq; go_simp
    repeat (first | simp only [List.getElem_toArray] | simp only [List.getElem_cons_succ] | simp only [List.getElem_cons_zero] | simp only [Act.put] | simp only [List.setIfInBounds_toArray] | simp only [List.set_cons_succ] | simp only [List.set_cons_zero])
    refine wpAnyT_takeY (i := 18) (v := (.bool false)) rfl (by kernel_rfl) (by kernel_rfl) (by kernel_rfl) (fun _ _ _ h => h) (Or.inl ⟨by rfl, ?_⟩) ?_
    · intro wq; go_simp
    repeat (first | simp only [List.getElem_toArray] | simp only [List.getElem_cons_succ] | simp only [List.getElem_cons_zero] | simp only [Act.put] | simp only [List.setIfInBounds_toArray] | simp only [List.set_cons_succ] | simp only [List.set_cons_zero])
    refine wpAnyT_takeY (i := 19) (v := (.bool false)) rfl (by kernel_rfl) (by kernel_rfl) (by kernel_rfl) (fun _ _ _ h => h) (Or.inl ⟨by rfl, ?_⟩) ?_
    · intro wq; go_simp
    repeat (first | simp only [List.getElem_toArray] | simp only [List.getElem_cons_succ] | simp only [List.getElem_cons_zero] | simp only [Act.put] | simp only [List.setIfInBounds_toArray] | simp only [List.set_cons_succ] | simp only [List.set_cons_zero])
    refine wpAnyT_takeY (i := 20) (v := ?_) rfl (by kernel_rfl) (by kernel_rfl) (by kernel_rfl) (fun _ _ _ h => h) (Or.inl ⟨by rfl, ?_⟩) ?_
    rotate_left
    · intro wq; first | (go_simp; done) | (go_simp; with_reducible rfl)
    repeat (first | simp only [List.getElem_toArray] | simp only [List.getElem_cons_succ] | simp only [List.getElem_cons_zero] | simp only [Act.put] | simp only [List.setIfInBounds_toArray] | simp only [List.set_cons_succ] | simp only [List.set_cons_zero])
    refine wpAnyT_take (i := 21) (v := bv) rfl (by kernel_rfl) (by kernel_rfl) (by kernel_rfl) (by kernel_rfl) (by kernel_rfl) (fun _ _ _ h => h) (Or.inl ⟨by rfl, ?_⟩) hS1 ?_
    · intro wq hq; have q0 := hq.1; have q1 := hq.2.1; have q2 := hq.2.2.1; have q3 := hq.2.2.2; clear hq; go_simp
    repeat (first | simp only [List.getElem_toArray] | simp only [List.getElem_cons_succ] | simp only [List.getElem_cons_zero] | simp only [Act.put] | simp only [List.setIfInBounds_toArray] | simp only [List.set_cons_succ] | simp only [List.set_cons_zero])
    refine wpAnyT_takeY (i := 22) (v := ?_) rfl (by kernel_rfl) (by kernel_rfl) (by kernel_rfl) (fun _ _ _ h => h) (Or.inl ⟨by rfl, ?_⟩) ?_
    rotate_left
    · intro wq; first | (go_simp; done) | (go_simp; with_reducible rfl)
    repeat (first | simp only [List.getElem_toArray] | simp only [List.getElem_cons_succ] | simp only [List.getElem_cons_zero] | simp only [Act.put] | simp only [List.setIfInBounds_toArray] | simp only [List.set_cons_succ] | simp only [List.set_cons_zero])
    clear hS1 d0 d1
    refine wpAnyT_ready (rs := [23]) (by kernel_rfl) (by simp) ?_
    refine AllT.cons rfl (fun K hK => ?_) AllT.nil
    go_simp
    refine HCMP.out.mono ?_
    rintro e w2 ⟨rfl, rfl⟩
    refine hK.out _ _ (fun h _ => h) ?_
    clear hK K
    repeat (first | simp only [List.getElem_toArray] | simp only [List.getElem_cons_succ] | simp only [List.getElem_cons_zero] | simp only [Act.put] | simp only [List.setIfInBounds_toArray] | simp only [List.set_cons_succ] | simp only [List.set_cons_zero])
    by_cases hc0 : c < 0
    · have hc1 : ¬ 0 ≤ c := by omega
      refine wpAnyT_takeY (i := 24) (v := (.bool false)) rfl (by kernel_rfl) (by kernel_rfl) (by kernel_rfl) (fun _ _ _ h => h) (Or.inl ⟨by rfl, ?_⟩) ?_
      · intro wq; go_simp
      repeat (first | simp only [List.getElem_toArray] | simp only [List.getElem_cons_succ] | simp only [List.getElem_cons_zero] | simp only [Act.put] | simp only [List.setIfInBounds_toArray] | simp only [List.set_cons_succ] | simp only [List.set_cons_zero])
      refine wpAnyT_takeY (i := 25) (v := (.bool false)) rfl (by kernel_rfl) (by kernel_rfl) (by kernel_rfl) (fun _ _ _ h => h) (Or.inl ⟨by rfl, ?_⟩) ?_
      · intro wq; go_simp
      repeat (first | simp only [List.getElem_toArray] | simp only [List.getElem_cons_succ] | simp only [List.getElem_cons_zero] | simp only [Act.put] | simp only [List.setIfInBounds_toArray] | simp only [List.set_cons_succ] | simp only [List.set_cons_zero])
      refine wpAnyT_done (by kernel_rfl) ?_ _
      have f1 := hbb.frozen
      have c1 := hbb.cell
      have e1 : Bn ≠ Bb := by have := HBn.out; have := HBb.out; omega
      have e2 : Br ≠ Bb := by have := HBr.out; have := HBb.out; omega
      have e3 : Bs ≠ Bb := by have := HBs.out; have := HBb.out; omega
      have e4 : Bm ≠ Bb := by have := HBm.out; have := HBb.out; omega
      have e5 : w.heap.size ≤ Bb := by have := HBb.out; omega
      have hend : ownPostG W6.heap.size (Kc Bs Bm) (fun pre W => (((Boxed W Bn 2 (.int .i64 n) ∧ Boxed W Br 4 (.bool false)) ∧ Boxed W Bb 36 (lastV Be ad pre)) ∧ (Boxed W Bs 36 (.slice (some ad) N cap) ∧ Boxed W Bm 3 (.int .i64 2))) ∧ Below w.heap.size w W) (fun c pre _ => c = .ret ∧ ¬ pre <+: List.finRange r) (pre ++ [x]) W .normal { tmps := #[], defers := [] } (W.drew.setCell ⟨Bb, 0, none⟩ (.slice (some ap) 2 2)) :=
        ⟨((KeepsOthers.drew W).trans (KeepsOthers.setCell _ _ _)).from _, ⟨fun v h => Boxed.other (W := W.drew) h e3 _, fun v h => Boxed.other (W := W.drew) h e4 _⟩,
          ⟨⟨⟨⟨Boxed.other (W := W.drew) hbn e1 _, Boxed.other (W := W.drew) hbr e2 _⟩, by rw [lastV_snoc, HCU.out]; exact Boxed.set (W := W.drew) _ hbb⟩, Boxed.other (W := W.drew) hbs e3 _, Boxed.other (W := W.drew) hbm e4 _⟩, below_set _ (below_drewN' 1 hBW) e5⟩⟩
      have HEND := Lib.hid hend
      have f1' : W.drew.frozen? ⟨Bb, 0, none⟩ = false := f1
      have c1' : W.drew.cell? ⟨Bb, 0, none⟩ = some bv := c1
      clear hend f1 c1 e1 e2 e3 e4 e5
      gi_wp2
      exact HEND.out
    · have hc1 : 0 ≤ c := by omega
      refine wpAnyT_takeY (i := 24) (v := (.bool true)) rfl (by kernel_rfl) (by kernel_rfl) (by kernel_rfl) (fun _ _ _ h => h) (Or.inl ⟨by rfl, ?_⟩) ?_
      · intro wq; go_simp
      repeat (first | simp only [List.getElem_toArray] | simp only [List.getElem_cons_succ] | simp only [List.getElem_cons_zero] | simp only [Act.put] | simp only [List.setIfInBounds_toArray] | simp only [List.set_cons_succ] | simp only [List.set_cons_zero])
      refine wpAnyT_takeY (i := 25) (v := (.bool true)) rfl (by kernel_rfl) (by kernel_rfl) (by kernel_rfl) (fun _ _ _ h => h) (Or.inl ⟨by rfl, ?_⟩) ?_
      · intro wq; go_simp
      repeat (first | simp only [List.getElem_toArray] | simp only [List.getElem_cons_succ] | simp only [List.getElem_cons_zero] | simp only [Act.put] | simp only [List.setIfInBounds_toArray] | simp only [List.set_cons_succ] | simp only [List.set_cons_zero])
      refine wpAnyT_done (by kernel_rfl) ?_ _
      have c1 : W.drew.cell? ⟨Br, 0, none⟩ = some (.bool false) := hbr.cell
      have f1 : W.drew.frozen? ⟨Br, 0, none⟩ = false := hbr.frozen
      have hend : ownPostG W6.heap.size (Kc Bs Bm) (fun pre W => (((Boxed W Bn 2 (.int .i64 n) ∧ Boxed W Br 4 (.bool false)) ∧ Boxed W Bb 36 (lastV Be ad pre)) ∧ (Boxed W Bs 36 (.slice (some ad) N cap) ∧ Boxed W Bm 3 (.int .i64 2))) ∧ Below w.heap.size w W) (fun c pre _ => c = .ret ∧ ¬ pre <+: List.finRange r) (pre ++ [x]) W .ret { tmps := #[], defers := [] } (W.drew.setCell ⟨Br, 0, none⟩ (.bool false)) :=
        ⟨((KeepsOthers.drew W).trans (KeepsOthers.setCell _ _ _)).from _, rfl, fun h => hc0 (HNX.out h)⟩
      have HEND := Lib.hid hend
      clear hend
      gi_wp2
      exact HEND.out
  case done =>
    rintro D ys W hD rfl ⟨⟨⟨⟨hbn, hbr⟩, hbb⟩, hbs, hbm⟩, hBW⟩ hK
    have hc := hbr.cell
    have hf := hbr.frozen
    have hDr : D ≠ Br := by
      intro e
      subst e
      rw [show W.heap[D]? = _ from hbr] at hK
      cases hK
    have hK2 : (W.setCell ⟨Br, 0, none⟩ (.bool true)).heap[D]? = some (.deferred (some [])) := by
      rw [((Touch.setCell W ⟨Br, 0, none⟩ (.bool true)).block D (Array.getElem?_eq_some_iff.1 hK).1 (by simp only; omega))]
      exact hK
    have hB2 : Below w.heap.size w (W.setCell ⟨Br, 0, none⟩ (.bool true)) := below_set _ hBW (by omega)
    have hb2 : Boxed (W.setCell ⟨Br, 0, none⟩ (.bool true)) Br 4 (.bool true) := hbr.set _
    clear hBn hBr hBe hBb hBs hBm z6
    gi_wp2
    generalize W.setCell ⟨Br, 0, none⟩ (.bool true) = Wf at hK2 hB2 hb2 ⊢
    refine ⟨by simp, .inl ⟨_, _, rfl, run_takeDeferred hK2, ?_⟩⟩
    refine ⟨.bool true, ?_, rfl, hB2.trans (belowK_b (w := w) (Nat.le_refl _) Wf D _ _ (by have := HZ6.out; omega) hK2 rfl rfl)⟩
    have c9 : (Wf.putObj D (.deferred none)).cell? ⟨Br, 0, none⟩ = some (.bool true) :=
      Boxed.cell (t := 4) ((World.putObj_heap_other (fun e => hDr e.symm)).trans hb2)
    generalize Wf.putObj D (.deferred none) = Wz at c9 ⊢
    simp only [results, show Try.f66.results = #[.cell 4 4] from rfl]
    go_simp
  case stop =>
    rintro D c pre W _ hp h _
    exact absurd hp h.2
end Go.Proofs.Ythdnelfggmlalaa
