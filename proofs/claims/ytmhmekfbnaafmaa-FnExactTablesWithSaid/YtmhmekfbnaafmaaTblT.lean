/-
  Tables with sums told: the walk of spec.l06Split.
-/
import Derived.Test.YtmhmekfbnaafmaaTblS
namespace Go.Proofs.Ytmhmekfbnaafmaa
open Go.RowKit

/-- A table of counts by codes, each wrapped as an int64 is. -/
def tabI (N : Nat) (W : Nat → Nat) : List Int := (List.range N).map fun n => wrap64 ((W n : Nat) : Int)
theorem tabI_len (N : Nat) (W : Nat → Nat) : (tabI N W).length = N := by simp [tabI]
theorem tabI_at {N n : Nat} (W : Nat → Nat) (h : n < N) : (tabI N W)[n]? = some (wrap64 ((W n : Nat) : Int)) := by simp [tabI, h]
theorem tabI_congr {N : Nat} {W V : Nat → Nat} (h : ∀ n, n < N → W n = V n) : tabI N W = tabI N V := by
  unfold tabI
  exact List.map_congr_left (fun n hn => by rw [h n (List.mem_range.1 hn)])
theorem tabI_set {N n : Nat} {W V : Nat → Nat} {x : Int} (hx : x = wrap64 ((V n : Nat) : Int)) (h : ∀ k, k ≠ n → V k = W k) : (tabI N W).set n x = tabI N V := by
  apply List.ext_getElem?
  intro t
  rw [List.getElem?_set]
  by_cases ht : t < N
  · rw [tabI_at W ht, tabI_at V ht, tabI_len]
    by_cases e : n = t
    · subst e
      rw [if_pos rfl, if_pos ht, hx]
    · rw [if_neg e, h t (fun e' => e e'.symm)]
  · have h1 : (tabI N W)[t]? = none := List.getElem?_eq_none (by rw [tabI_len]; omega)
    have h2 : (tabI N V)[t]? = none := List.getElem?_eq_none (by rw [tabI_len]; omega)
    rw [h1, h2, tabI_len]
    split
    · rw [if_neg (by omega)]
    · rfl
theorem wrap64_add (a b : Int) : wrap64 (wrap64 a + wrap64 b) = wrap64 (a + b) := by unfold wrap64; omega

theorem l00Min_any (a b : Int) (w : World) : Calls Try.prog 66 #[.int .i64 a, .int .i64 b] w fun e w' => e = .returned (.int .i64 (min a b)) ∧ w = w' := by
  by_cases h : a < b
  · have hm := Lib.hid (show min a b = a by omega)
    go_enter Try.func66, Try.ntmps66
    go_wp2
    go_ret
    exact ⟨ret_int hm.out.symm, rfl⟩
  · have hm := Lib.hid (show min a b = b by omega)
    go_enter Try.func66, Try.ntmps66
    go_wp2
    go_ret
    exact ⟨ret_int hm.out.symm, rfl⟩

/-- What l06Split is to do with these columns. -/
def SplitOk (C N m : Nat) (ls : List Nat) : Prop := ∀ (pre : List Nat) (s : Nat) (W : Nat → Nat) (gw gc cc B : Nat) (w : World), pre.length + ls.length = C → (∀ x ∈ pre, x < 25) → s ≤ 1000 → gw ≠ gc → B ≤ gw → B ≤ gc →
  RowI w gw N N (tabI N W) → RowI w gc C cc (iL (pre ++ ls)) →
  Calls Try.prog 52 #[.slice (some ⟨gw, 0, none⟩) N N, .slice (some ⟨gc, 0, none⟩) C cc, .int .i64 pre.length, .int .i64 s, .int .i64 (wrap64 (m : Int))] w fun e w' =>
    e = .returned (.tuple #[]) ∧ RowI w' gw N N (tabI N (fun k => W k + m * wA pre ls s k)) ∧ RowI w' gc C cc (iL (pre ++ ls)) ∧ Below B w w'

theorem app_mid {pre : List Nat} {x : Nat} {ls : List Nat} : (pre ++ [x]) ++ ls = pre ++ x :: ls := by simp

set_option maxRecDepth 100000 in
set_option maxHeartbeats 1600000 in
theorem split_one (C N m : Nat) (hC : C ≤ 4) (hN : N = 25 ^ C) (l : Nat) (hl : l < 25) : SplitOk C N m [l] := by
  intro pre s W gw gc cc B w hlen hpre hs hne hBw hBc hW hR
  have hC1 : C = pre.length + 1 := by simp at hlen; omega
  obtain ⟨p, hp⟩ : ∃ p, p = pre.length := ⟨_, rfl⟩
  have hw1 : IntKind.i64.wrap ((p : Int) + 1) = (C : Int) := by rw [IntWalk.i64_in _ (by omega)]; omega
  have hat := iL_at pre l []
  rw [← hp] at hat
  have c1 := hR.at hat
  have f1 := hR.free p
  have hpC : p < C := by omega
  have HP := Lib.hid hp
  rw [← hp]
  by_cases hsl : s ≤ l
  · have hx : ∀ x ∈ pre ++ [l - s], x < 25 := fun x hx => by
      rcases List.mem_append.1 hx with h | h
      · exact hpre x h
      · simp at h; omega
    have hcl : code (pre ++ [l - s]) < N := by rw [hN]; exact code_lt (by simp; omega) hx
    have hR2 := hR.put p ((l - s : Nat) : Int)
    rw [hp, iL_set, ← hp] at hR2
    have hsub : IntKind.i64.wrap ((l : Int) - (s : Int)) = ((l - s : Nat) : Int) := by rw [IntWalk.i64_in _ (by omega)]; omega
    obtain ⟨q, hq⟩ : ∃ q, q = l - s := ⟨_, rfl⟩
    rw [← hq] at hsub hR2 hcl hx
    have hW2 : RowI (w.setCell ⟨gc, p, none⟩ (jV (q : Int))) gw N N (tabI N W) := hW.other (Ne.symm hne) _
    have HX := Lib.hid hx
    have HR2 := Lib.hid hR2
    have HW2 := Lib.hid hW2
    have HN := Lib.hid hN
    have HQ := Lib.hid hq
    have HC1 := Lib.hid hC1
    have hB2 : Below B w (w.setCell ⟨gc, p, none⟩ (jV (q : Int))) := (Below.refl _ _).setCell (p := ⟨gc, p, none⟩) hBc _
    clear hR hW hR2 hW2 hx hat hp hlen hpre hN hq hC1
    go_enter Try.func52, Try.ntmps52
    go_wp2_with fail
    generalize w.setCell ⟨gc, p, none⟩ (jV (q : Int)) = w1 at *
    clear c1 f1
    refine (l06Key_any _ (pre ++ [q]) (by simp; have := HC1.out; have := HP.out; omega) HX.out w1 (own_of_row HR2.out (Nat.zero_le _)).rd).mono ?_
    rintro e w' ⟨rfl, rfl⟩
    obtain ⟨n, hn⟩ : ∃ n, n = code (pre ++ [q]) := ⟨_, rfl⟩
    rw [← hn] at hcl ⊢
    have hn4 : n < 1000000 := by
      have h2 : 25 ^ C ≤ 25 ^ 4 := Nat.pow_le_pow_right (by omega) hC
      have := HN.out
      omega
    have HNC := Lib.hid hn
    clear hn
    have c2 := HW2.out.at (tabI_at W hcl)
    have f2 := HW2.out.free n
    have c3 := HR2.out.at (by have := iL_at pre q []; rwa [← HP.out] at this)
    have f3 := HR2.out.free p
    have hqs : IntKind.i64.wrap ((q : Int) + (s : Int)) = (l : Int) := by rw [IntWalk.i64_in _ (by have := HQ.out; omega)]; have := HQ.out; omega
    have hW3 := (HW2.out.put n (wrap64 (wrap64 ((W n : Nat) : Int) + wrap64 (m : Int)))).other (p := ⟨gc, p, none⟩) (fun e => hne e.symm) (jV (l : Int))
    have hR3 := (HR2.out.other (p := ⟨gw, n, none⟩) hne (jV (wrap64 (wrap64 ((W n : Nat) : Int) + wrap64 (m : Int))))).put p (l : Int)
    have hB3 := (hB2.setCell (p := ⟨gw, n, none⟩) hBw (jV (wrap64 (wrap64 ((W n : Nat) : Int) + wrap64 (m : Int))))).setCell (p := ⟨gc, p, none⟩) hBc (jV (l : Int))
    have e1 : (tabI N W).set n (wrap64 (wrap64 ((W n : Nat) : Int) + wrap64 (m : Int))) = tabI N (fun k => W k + m * wA pre [l] s k) := by
      refine tabI_set ?_ (fun k hk => ?_)
      · rw [wA_last, if_pos hsl, ← HQ.out, ← HNC.out, if_pos rfl, wrap64_add, Nat.mul_one]
        push_cast; rfl
      · rw [wA_last, if_pos hsl, ← HQ.out, ← HNC.out, if_neg (Ne.symm hk)]
        rfl
    have e2 : (iL (pre ++ [q])).set p (l : Int) = iL (pre ++ [l]) := by rw [HP.out, iL_set]
    rw [e1] at hW3
    rw [e2] at hR3
    have HW3 := Lib.hid hW3
    have HR3 := Lib.hid hR3
    clear hW3 hR3 e1 e2
    go_wp2
    first | go_end0 | refine bodyPost_ret (results_none rfl _ _ _) rfl ?_
    exact ⟨rfl, HW3.out, HR3.out, hB3⟩
  · have e1 : (fun k => W k + m * wA pre [l] s k) = W := by
      funext k
      rw [wA_last, if_neg hsl]
      rfl
    rw [e1]
    have HW := Lib.hid hW
    have HR := Lib.hid hR
    clear hW hR hat hp
    go_enter Try.func52, Try.ntmps52
    go_wp2
    first | go_end0 | refine bodyPost_ret (results_none rfl _ _ _) rfl ?_
    exact ⟨rfl, HW.out, HR.out, Below.refl _ _⟩

set_option maxRecDepth 100000 in
set_option maxHeartbeats 1600000 in
theorem split_cons (C N m : Nat) (hC : C ≤ 4) (l : Nat) (hl : l < 25) (ls : List Nat) (hls : 1 ≤ ls.length) (ih : SplitOk C N m ls) : SplitOk C N m (l :: ls) := by
  intro pre s W gw gc cc B w hlen hpre hs hne hBw hBc hW hR
  have IH := Lib.hid ih
  have hC1 : C = pre.length + 1 + ls.length := by simp at hlen; omega
  obtain ⟨p, hp⟩ : ∃ p, p = pre.length := ⟨_, rfl⟩
  obtain ⟨p1, hp1⟩ : ∃ p1, p1 = p + 1 := ⟨_, rfl⟩
  have hw1 : IntKind.i64.wrap ((p : Int) + 1) = (p1 : Int) := by rw [IntWalk.i64_in _ (by omega)]; omega
  have hpC : p < C := by omega
  have hne1 : ((p1 : Int) == (C : Int)) = false := by rw [beq_eq_false_iff_ne]; omega
  have HP := Lib.hid hp
  have HP1 := Lib.hid hp1
  have HPRE := Lib.hid hpre
  have HC1 := Lib.hid hC1
  rw [← hp]
  clear ih hpre hlen hp hp1 hC1
  have e0 : RowI w gw N N (tabI N (fun k => W k + m * sN (fun y => wA (pre ++ [l - y]) ls (s - y) k) 0)) := by
    have : (fun k => W k + m * sN (fun y => wA (pre ++ [l - y]) ls (s - y) k) 0) = W := by funext k; rfl
    rw [this]; exact hW
  have E0 := Lib.hid e0
  have HR := Lib.hid hR
  clear hW hR e0
  go_enter Try.func52, Try.ntmps52
  go_wp2
  go_loopw [10] (fun sx wr => ∃ x : Nat, x ≤ min s l + 1 ∧ sx = .int .i64 x ∧ RowI wr gw N N (tabI N (fun k => W k + m * sN (fun y => wA (pre ++ [l - y]) ls (s - y) k) x)) ∧ RowI wr gc C cc (iL (pre ++ l :: ls)) ∧ Below B w wr)
    (fun sx _ => s + l + 1 - (intOf sx).toNat)
  case atStart => exact ⟨0, by omega, rfl, E0.out, HR.out, Below.refl _ _⟩
  case round =>
    clear E0 HR
    obtain ⟨x, hx, rfl, hW, hR, hB⟩ := hrel
    have hat := iL_at pre l ls
    rw [← HP.out] at hat
    have c1 := hR.at hat
    have f1 := hR.free p
    by_cases hlt : x ≤ min s l
    · have hR2 := hR.put p ((l - x : Nat) : Int)
      have e2 : (iL (pre ++ l :: ls)).set p ((l - x : Nat) : Int) = iL ((pre ++ [l - x]) ++ ls) := by rw [HP.out, iL_set, app_mid]
      rw [e2] at hR2
      have hW2 := hW.other (p := ⟨gc, p, none⟩) (fun e => hne e.symm) (jV ((l - x : Nat) : Int))
      have hB2 := hB.setCell (p := ⟨gc, p, none⟩) hBc (jV ((l - x : Nat) : Int))
      have hsub : IntKind.i64.wrap ((l : Int) - (x : Int)) = ((l - x : Nat) : Int) := by rw [IntWalk.i64_in _ (by omega)]; omega
      have hsub2 : IntKind.i64.wrap ((s : Int) - (x : Int)) = ((s - x : Nat) : Int) := by rw [IntWalk.i64_in _ (by omega)]; omega
      obtain ⟨q, hq⟩ : ∃ q, q = l - x := ⟨_, rfl⟩
      obtain ⟨t, ht⟩ : ∃ t, t = s - x := ⟨_, rfl⟩
      rw [← hq] at hsub hR2 hW2 hB2
      rw [← ht] at hsub2
      have hmin : (x : Int) ≤ min (s : Int) (l : Int) := by omega
      obtain ⟨mn, hmn⟩ : ∃ mn : Int, mn = min (s : Int) (l : Int) := ⟨_, rfl⟩
      rw [← hmn] at hmin
      have HMN := Lib.hid hmn
      have HQ := Lib.hid hq
      have HT := Lib.hid ht
      have HR2 := Lib.hid hR2
      have HW2 := Lib.hid hW2
      clear hmn hq ht hR2 hW2 hR hW e2 hat
      go_wp2_with (go_at_call 66; refine (l00Min_any _ _ _).mono ?_; rintro e w' ⟨rfl, rfl⟩; rw [← HMN.out])
      generalize wr.setCell ⟨gc, p, none⟩ (jV (q : Int)) = w1 at *
      clear c1 f1
      refine (show Calls Try.prog 52 _ _ _ from by
        have h := IH.out (pre ++ [q]) t _ gw gc cc B w1 (by have := HC1.out; simp; omega) (fun y hy => by
          rcases List.mem_append.1 hy with h | h
          · exact HPRE.out y h
          · simp at h; have := HQ.out; omega) (by have := HT.out; omega) hne hBw hBc HW2.out HR2.out
        rw [show (pre ++ [q]).length = p1 by have := HP.out; have := HP1.out; simp; omega] at h
        exact h).mono ?_
      rintro e w2 ⟨rfl, hW3, hR3, hB3⟩
      have eW : (fun k => W k + m * sN (fun y => wA (pre ++ [l - y]) ls (s - y) k) x + m * wA (pre ++ [q]) ls t k) = fun k => W k + m * sN (fun y => wA (pre ++ [l - y]) ls (s - y) k) (x + 1) := by
        funext k
        show _ = W k + m * (sN (fun y => wA (pre ++ [l - y]) ls (s - y) k) x + wA (pre ++ [l - x]) ls (s - x) k)
        rw [Nat.mul_add, HQ.out, HT.out, Nat.add_assoc]
      rw [eW] at hW3
      have hB4 : Below B w w2 := hB2.trans hB3
      rw [app_mid] at hR3
      have hat3 := iL_at pre q ls
      rw [← HP.out] at hat3
      have c3 := hR3.at hat3
      have f3 := hR3.free p
      have hqx : IntKind.i64.wrap ((q : Int) + (x : Int)) = (l : Int) := by have := HQ.out; rw [IntWalk.i64_in _ (by omega)]; omega
      have hW4 := hW3.other (p := ⟨gc, p, none⟩) (fun e => hne e.symm) (jV (l : Int))
      have hR4 := hR3.put p (l : Int)
      have e4 : (iL (pre ++ q :: ls)).set p (l : Int) = iL (pre ++ l :: ls) := by rw [HP.out, iL_set]
      rw [e4] at hR4
      have hB5 := hB4.setCell (p := ⟨gc, p, none⟩) hBc (jV (l : Int))
      have HW4 := Lib.hid hW4
      have HR4 := Lib.hid hR4
      clear hW3 hR3 hW4 hR4 hB3 hB4 hB2 e4 eW hat3
      go_wp2
      go_roundw
      case rel => exact ⟨x + 1, by omega, by go_num, HW4.out, HR4.out, hB5⟩
      case measure => simp [intOf]; omega
    · have hxe : x = min s l + 1 := by omega
      have eW : (fun k => W k + m * sN (fun y => wA (pre ++ [l - y]) ls (s - y) k) x) = fun k => W k + m * wA pre (l :: ls) s k := by
        funext k
        rw [hxe, wA_cons]
      rw [eW] at hW
      have hmin : ¬ (x : Int) ≤ min (s : Int) (l : Int) := by omega
      obtain ⟨mn, hmn⟩ : ∃ mn : Int, mn = min (s : Int) (l : Int) := ⟨_, rfl⟩
      rw [← hmn] at hmin
      have HMN := Lib.hid hmn
      have HW := Lib.hid hW
      have HR := Lib.hid hR
      clear hmn hW hR hxe eW hlt hat
      go_wp2_with (go_at_call 66; refine (l00Min_any _ _ _).mono ?_; rintro e w' ⟨rfl, rfl⟩; rw [← HMN.out])
      first | go_end0 | refine bodyPost_ret (results_none rfl _ _ _) rfl ?_
      exact ⟨rfl, HW.out, HR.out, hB⟩

theorem split_ok (C N m : Nat) (hC : C ≤ 4) (hN : N = 25 ^ C) : ∀ ls : List Nat, 1 ≤ ls.length → (∀ x ∈ ls, x < 25) → SplitOk C N m ls
  | [], h, _ => by simp at h
  | [l], _, hx => split_one C N m hC hN l (hx l (by simp))
  | l :: l2 :: ls, _, hx => split_cons C N m hC l (hx l (by simp)) (l2 :: ls) (by simp) (split_ok C N m hC hN (l2 :: ls) (by simp) (fun x h => hx x (by simp at h ⊢; exact .inr h)))
end Go.Proofs.Ytmhmekfbnaafmaa
