/-
  The walk of spec.l04Sort: the pairs of a list, each with the lesser number first, in their order.
-/
import Derived.Test.YthdnelfggmlalaaPairP
import Derived.Test.YthdnelfggmlalaaStabW
import Derived.Test.YthdnelfggmlalaaInts
import Derived.Test.YthdnelfggmlalaaJoin
namespace Go.Proofs.Ythdnelfggmlalaa
open Go.RowKit

theorem row_of_own {w : World} {base g n c : Nat} {xs : List Int} (h : Own iV 2 w base (.slice (some ⟨g, 0, none⟩) n c) xs) : RowI w g n c xs := by
  have hn : n = xs.length := by
    rcases h.2 with ⟨e, _⟩ | ⟨_, _, _, e, _⟩
    · cases e
    · cases e; rfl
  subst hn
  exact own_base h (Nat.zero_le _)
theorem own_of_row {w : World} {base g n c : Nat} {xs : List Int} (h : RowI w g n c xs) (hb : base ≤ g) : Own iV 2 w base (.slice (some ⟨g, 0, none⟩) n c) xs := by
  have hl := h.len
  subst hl
  refine ⟨h.1, ?_⟩
  rcases h.2 with ⟨e, _⟩ | ⟨g', c', cur, e, _, r⟩
  · cases e
  · cases e
    exact .inr ⟨_, _, cur, rfl, hb, r⟩

/-- Where the pair at K lies in a row of pairs. -/
theorem RowI.pair {w : World} {g n c K : Nat} {zs : List (Int × Int)} {p : Int × Int} (h : RowI w g n c (flatP zs)) (hp : zs[K]? = some p) : w.cell? ⟨g, 2 * K, none⟩ = some (iV p.1) ∧ w.cell? ⟨g, 2 * K + 1, none⟩ = some (iV p.2) :=
  ⟨h.at (flatP_at hp).1, h.at (flatP_at hp).2⟩

/-- A pair turned about: what its two stores ask for, and what they leave. -/
theorem turn_facts {w : World} {g n c i i1 I : Nat} {zs : List (Int × Int)} {x y : Int} (h : RowI w g n c (flatP zs)) (hp : zs[I]? = some (x, y)) (hi : i = 2 * I) (hi1 : i1 = i + 1) :
    w.cell? ⟨g, i, none⟩ = some (iV x) ∧ w.cell? ⟨g, i1, none⟩ = some (iV y) ∧ w.frozen? ⟨g, i, none⟩ = false ∧ w.frozen? ⟨g, i1, none⟩ = false ∧
    (w.setCell ⟨g, i, none⟩ (iV y)).cell? ⟨g, i1, none⟩ = some (iV y) ∧ RowI ((w.setCell ⟨g, i, none⟩ (iV y)).setCell ⟨g, i1, none⟩ (iV x)) g n c (flatP (zs.set I (y, x))) := by
  subst hi1 hi
  have hc := h.pair hp
  refine ⟨hc.1, hc.2, h.free _, h.free _, ?_, ?_⟩
  · rw [World.cell?_setCell_other _ _ _ _ (by intro e; simp only [Addr.mk.injEq] at e; omega)]
    exact hc.2
  · rw [flatP_set _ (get_lt hp)]
    exact (h.put _ y).put _ x
theorem below_two {a w : World} {g i j : Nat} (u v : Value) (h : Below a.heap.size a w) (hg : a.heap.size ≤ g) : Below a.heap.size a ((w.setCell ⟨g, i, none⟩ u).setCell ⟨g, j, none⟩ v) :=
  h.trans ((touch_swap w g i j u v).below hg h.size)
theorem set_other {w : World} {g i j : Nat} {u v : Value} (hij : i ≠ j) (h : w.cell? ⟨g, j, none⟩ = some v) : (w.setCell ⟨g, i, none⟩ u).cell? ⟨g, j, none⟩ = some v := by
  rw [World.cell?_setCell_other _ _ _ _ (by intro e; simp only [Addr.mk.injEq] at e; omega)]
  exact h
/-- Two neighbouring pairs exchanged: what the four stores ask for, and what they leave. -/
theorem move_facts {w : World} {g n c a b k d J : Nat} {us : List (Int × Int)} {x1 y1 x0 y0 : Int} (h : RowI w g n c (flatP us)) (hp1 : us[J + 1]? = some (x1, y1)) (hp0 : us[J]? = some (x0, y0))
    (ha : a = 2 * J) (hb : b = a + 1) (hk : k = a + 2) (hd : d = k + 1) :
    (w.cell? ⟨g, k, none⟩ = some (iV x1) ∧ w.cell? ⟨g, d, none⟩ = some (iV y1) ∧ w.cell? ⟨g, a, none⟩ = some (iV x0) ∧ w.cell? ⟨g, b, none⟩ = some (iV y0)) ∧
    (w.frozen? ⟨g, k, none⟩ = false ∧ w.frozen? ⟨g, d, none⟩ = false ∧ w.frozen? ⟨g, a, none⟩ = false ∧ w.frozen? ⟨g, b, none⟩ = false) ∧
    (w.setCell ⟨g, k, none⟩ (iV x0)).cell? ⟨g, b, none⟩ = some (iV y0) ∧ (w.setCell ⟨g, k, none⟩ (iV x0)).cell? ⟨g, d, none⟩ = some (iV y1) ∧
    ((w.setCell ⟨g, k, none⟩ (iV x0)).setCell ⟨g, d, none⟩ (iV y0)).cell? ⟨g, a, none⟩ = some (iV x0) ∧
    (((w.setCell ⟨g, k, none⟩ (iV x0)).setCell ⟨g, d, none⟩ (iV y0)).setCell ⟨g, a, none⟩ (iV x1)).cell? ⟨g, b, none⟩ = some (iV y0) ∧
    RowI ((((w.setCell ⟨g, k, none⟩ (iV x0)).setCell ⟨g, d, none⟩ (iV y0)).setCell ⟨g, a, none⟩ (iV x1)).setCell ⟨g, b, none⟩ (iV y1)) g n c (flatP (sw us (J + 1) J (x1, y1) (x0, y0))) := by
  have e1 : k = 2 * (J + 1) := by omega
  have e2 : d = 2 * (J + 1) + 1 := by omega
  have e3 : b = 2 * J + 1 := by omega
  obtain ⟨c1, c2⟩ := h.pair hp1
  obtain ⟨c3, c4⟩ := h.pair hp0
  rw [← e1] at c1
  rw [← e2] at c2
  rw [← ha] at c3
  rw [← e3] at c4
  refine ⟨⟨c1, c2, c3, c4⟩, ⟨h.free _, h.free _, h.free _, h.free _⟩, set_other (by omega) c4, set_other (by omega) c2, set_other (by omega) (set_other (by omega) c3), set_other (by omega) (set_other (by omega) (set_other (by omega) c4)), ?_⟩
  unfold sw
  rw [flatP_set _ (by rw [List.length_set]; exact get_lt hp0), flatP_set _ (get_lt hp1), ← e2, ← e1, ← e3, ← ha]
  exact (((h.put _ x0).put _ y0).put _ x1).put _ y1
theorem below_four {a w : World} {g i j k l : Nat} (u v u' v' : Value) (h : Below a.heap.size a w) (hg : a.heap.size ≤ g) : Below a.heap.size a ((((w.setCell ⟨g, i, none⟩ u).setCell ⟨g, j, none⟩ v).setCell ⟨g, k, none⟩ u').setCell ⟨g, l, none⟩ v') :=
  below_two u' v' (below_two u v h hg) hg

set_option maxHeartbeats 1600000 in
set_option maxRecDepth 100000 in
theorem l04Sort_any (v : Value) (xs : List Int) (N : Nat) (hN : xs.length = 2 * N) (hn : xs.length ≤ 1000000) (w : World) (hr : Rd iV w v xs) :
    Calls Try.prog 65 #[v] w fun e w' => ∃ v', e = .returned v' ∧ Own iV 2 w' w.heap.size v' (inOrd xs) ∧ Below w.heap.size w w' := by
  have HR := Lib.hid hr
  have HN := Lib.hid hN
  clear hr
  go_enter Try.func65, Try.ntmps65
  go_wp2_with (at_builtin; go_loud (refine elI_.app one_iV _ rfl (.tmp 9) (.tmp 10) rfl w.heap.size _ [] rfl (own_nil_new iV w _) _ xs rfl (HR.out.alloc _) (by omega) (by simp; omega) (by simp) ?_))
  intro v1 w1 ho1 hg1 hb1 _
  have hbw : Below w.heap.size w w1 := ((Below.refl _ _).alloc (Nat.le_refl _) _).trans hb1
  clear hg1 hb1
  rcases Nat.eq_zero_or_pos xs.length with h0 | h0
  · have hN0 : N = 0 := by omega
    subst hN0
    have hx0 : xs = [] := List.eq_nil_of_length_eq_zero h0
    subst hx0
    obtain ⟨A, c, rfl, -⟩ := ho1.rd
    have HO : Hid (Own iV 2 w1 w.heap.size (.slice A 0 c) (inOrd [])) := by rw [show inOrd [] = [] from List.eq_nil_of_length_eq_zero (inOrd_len (n := 0) rfl)]; exact Lib.hid ho1
    clear ho1
    go_wp2
    go_loop [4] (fun si => si = .int .i64 0) (fun _ => 0)
    case atStart => rfl
    case round =>
      obtain rfl := hrel
      go_wp2
      go_ret
      exact ⟨_, rfl, HO.out, hbw⟩
  obtain ⟨g, c, rfl, hlc, hgb, hgl⟩ := ho1.form h0
  have hR := row_of_own ho1
  have e0 := flatP_pairs hN
  have hR : RowI w1 g xs.length c (flatP (pairsOf xs)) := by rw [e0]; exact hR
  have HR0 := Lib.hid hR
  obtain ⟨n, hnl⟩ : ∃ n, n = xs.length := ⟨_, rfl⟩
  rw [← hnl] at HR0 hn ⊢
  have HX := Lib.hid hnl
  have hpl := pairs_len hN
  obtain ⟨ps, hps⟩ : ∃ ps, ps = pairsOf xs := ⟨_, rfl⟩
  rw [← hps] at HR0 hpl
  have HPS := Lib.hid hps
  have HPL := Lib.hid hpl
  have HNN : Hid (n = 2 * N) := by unfold Hid; omega
  clear hN ho1 hR e0 hnl hps hpl hlc hgl h0
  go_wp2
  go_loopw [4] (fun si wr => ∃ (i I : Nat) (zs : List (Int × Int)), si = .int .i64 i ∧ i = 2 * I ∧ I ≤ N ∧ Hid (SortI ps zs I) ∧ Hid (SR ltP 0 I zs) ∧ RowI wr g n c (flatP zs) ∧ Below w.heap.size w wr) (fun si _ => n - (intOf si).toNat)
  case atStart => exact ⟨0, 0, ps, rfl, rfl, Nat.zero_le _, SortI.start _, SR.small (by omega), HR0.out, hbw⟩
  case round =>
    obtain ⟨i, I, zs, rfl, hi, hI, hS, hSR, hR, hB⟩ := hrel
    have hnN := HNN.out
    have HZL : Hid (zs.length = N) := hS.out.len.trans HPL.out
    by_cases hlt : i < n
    · obtain ⟨p, hp⟩ := get_ex (xs := zs) (i := I) (by rw [HZL.out]; omega)
      obtain ⟨x, y⟩ := p
      obtain ⟨i1, hi1⟩ : ∃ i1, i1 = i + 1 := ⟨_, rfl⟩
      have hc := hR.pair hp
      rw [← hi, ← hi1] at hc
      obtain ⟨c1, c2⟩ := hc
      simp only at c1 c2
      have HP := Lib.hid hp
      have HRY := Lib.hid hR
      have l1 : i1 < n := by omega
      have w1' : IntKind.i64.wrap ((i : Int) + 1) = (i1 : Int) := by rw [IntWalk.i64_in _ (by omega)]; omega
      have f1 := hR.free i
      have f2 := hR.free i1
      have HI1 := Lib.hid hi1
      have HI := Lib.hid hi
      have HT := Lib.hid (turn_facts hR hp hi hi1)
      have HN5 : Hid ((x > y ∧ normP (x, y) = (y, x)) ∨ (¬ x > y ∧ zs.set I (normP (x, y)) = zs)) := by
        unfold Hid normP
        by_cases h : x > y
        · exact .inl ⟨h, if_pos h⟩
        · refine .inr ⟨h, ?_⟩
          rw [if_neg h]
          apply List.ext_getElem?
          intro q
          rw [List.getElem?_set]
          split
          · rename_i e; subst e; rw [if_pos (get_lt hp), hp]
          · rfl
      have hll : (i : Int) < (n : Int) := by omega
      have hIN : I < N := by omega
      clear hR hp hi1 hi hnN
      obtain ⟨qs, hqs⟩ : ∃ qs, qs = zs.set I (normP (x, y)) := ⟨_, rfl⟩
      have HS5 : Hid (SortI ps qs (I + 1)) := by rw [hqs]; exact hS.out.put HP.out
      have HSR5 : Hid (SR ltP 0 I qs) := by rw [hqs]; exact sr_set hSR.out
      have HQ := Lib.hid hqs
      clear hqs
      by_cases hxy : x > y
      ·
        have hxd : decide (x > y) = true := decide_eq_true hxy
        have hxn : normP (x, y) = (y, x) := by rcases HN5.out with h | h; exact h.2; exact absurd hxy h.1
        go_wp2_with fail
        go_quiet (fail)
        have HRq : Hid (RowI (wr.drewN nq) g n c (flatP zs)) := Lib.hid (HRY.out.drewN nq)
        have hBq : Below w.heap.size w (wr.drewN nq) := below_drewN' nq hB
        clear HT c1 c2 f1 f2
        generalize wr.drewN nq = w4 at HRq hBq ⊢
        obtain ⟨c1, c2, f1, f2, c3, hR5⟩ := turn_facts HRq.out HP.out HI.out HI1.out
        have H5 : Hid (RowI ((w4.setCell ⟨g, i, none⟩ (iV y)).setCell ⟨g, i1, none⟩ (iV x)) g n c (flatP qs)) := by rw [HQ.out, hxn]; exact hR5
        have hB5 := below_two (i := i) (j := i1) (iV y) (iV x) hBq hgb
        clear hR5 hBq HRq hB hxn
        go_wp2_with fail
        generalize (w4.setCell ⟨g, i, none⟩ (iV y)).setCell ⟨g, i1, none⟩ (iV x) = w5 at H5 hB5 ⊢
        clear c1 c2 f1 f2 c3
        go_loopw [6] (fun sk wr => ∃ (k K : Nat) (us : List (Int × Int)), sk = .int .i64 k ∧ k = 2 * K ∧ K ≤ I ∧ Hid (SortI ps us (I + 1)) ∧ Hid (InsG ltP 0 I K us) ∧ RowI wr g n c (flatP us) ∧ Below w.heap.size w wr) (fun sk _ => (intOf sk).toNat)
        case atStart => exact ⟨i, I, qs, rfl, HI.out, Nat.le_refl _, HS5, InsG.start HSR5.out, H5.out, hB5⟩
        case round =>
          obtain ⟨k, K, us, rfl, hk, hK, hSu, hIn, hRu, hBu⟩ := hrel
          have hnN := HNN.out
          have hi := HI.out
          have HUL : Hid (us.length = N) := hSu.out.len.trans HPL.out
          have HRu := Lib.hid hRu
          by_cases hk0 : K = 0
          · have hk00 : k = 0 := by omega
            have HD : Hid (SR ltP 0 (I + 1) us) := hIn.out.done ltP_less (.inl hk0) (Nat.zero_le _) (by rw [HUL.out]; exact hIN)
            have hkd : decide ((k : Int) > 0) = false := decide_eq_false (by omega)
            clear hRu hk hk0 hnN hi
            subst hk00
            go_wp2_with fail
            go_quiet (fail)
            go_wp2
            go_roundw
            case rel => exact ⟨i + 2, I + 1, us, by go_num, by have := HI.out; omega, by omega, hSu, HD, HRu.out.drewN _, below_drewN' _ hBu⟩
            case measure => simp [intOf]; omega
          · obtain ⟨J, rfl⟩ : ∃ J, K = J + 1 := ⟨K - 1, by omega⟩
            obtain ⟨a, ha⟩ : ∃ a, a = 2 * J := ⟨_, rfl⟩
            obtain ⟨b, hb⟩ : ∃ b, b = a + 1 := ⟨_, rfl⟩
            obtain ⟨d, hd⟩ : ∃ d, d = k + 1 := ⟨_, rfl⟩
            have hka : k = a + 2 := by omega
            obtain ⟨p1, hp1⟩ := get_ex (xs := us) (i := J + 1) (by rw [HUL.out]; omega)
            obtain ⟨p0, hp0⟩ := get_ex (xs := us) (i := J) (by rw [HUL.out]; omega)
            obtain ⟨x1, y1⟩ := p1
            obtain ⟨x0, y0⟩ := p0
            have q1 := hRu.pair hp1
            have q0 := hRu.pair hp0
            rw [show 2 * (J + 1) = k by omega, ← hd] at q1
            rw [← ha, ← hb] at q0
            obtain ⟨c1, c2⟩ := q1
            obtain ⟨c3, c4⟩ := q0
            simp only at c1 c2 c3 c4
            have HP1 := Lib.hid hp1
            have HP0 := Lib.hid hp0
            have m0 : (k : Int) < (n : Int) := by omega
            have m1 : (d : Int) < (n : Int) := by omega
            have m2 : (a : Int) < (n : Int) := by omega
            have m3 : (b : Int) < (n : Int) := by omega
            have v0 : IntKind.i64.wrap ((k : Int) - 2) = (a : Int) := by rw [IntWalk.i64_in _ (by omega)]; omega
            have v1 : IntKind.i64.wrap ((k : Int) - 1) = (b : Int) := by rw [IntWalk.i64_in _ (by omega)]; omega
            have v2 : IntKind.i64.wrap ((k : Int) + 1) = (d : Int) := by rw [IntWalk.i64_in _ (by omega)]; omega
            have hkp : 0 < k := by omega
            have HK := Lib.hid hk
            have HKA := Lib.hid hka
            have HA := Lib.hid ha
            have HB := Lib.hid hb
            have HDD := Lib.hid hd
            have hkm : k ≤ 1000000 := by omega
            have hJ : J < I := by omega
            clear hRu hp1 hp0 hk hka ha hb hd hk0 hnN hi
            by_cases hlt2 : ltP (x1, y1) (x0, y0) = true
            · have HLT := Lib.hid hlt2
              have hcs : (decide (x1 < x0) = true) ∨ (decide (x1 < x0) = false ∧ (x1 == x0) = true ∧ decide (y1 < y0) = true) := by
                unfold ltP at hlt2
                have := of_decide_eq_true hlt2
                by_cases h : x1 < x0
                · exact .inl (decide_eq_true h)
                · exact .inr ⟨decide_eq_false h, beq_iff_eq.2 (by omega), decide_eq_true (by omega)⟩
              clear hlt2
              rcases hcs with z0 | ⟨z0, z1, z2⟩
              · go_wp2_with fail
                go_quiet (fail)
                have HRq : Hid (RowI (wr.drewN nq) g n c (flatP us)) := Lib.hid (HRu.out.drewN nq)
                have hBq : Below w.heap.size w (wr.drewN nq) := below_drewN' nq hBu
                clear c1 c2 c3 c4
                generalize wr.drewN nq = w6 at HRq hBq ⊢
                obtain ⟨⟨c1, c2, c3, c4⟩, ⟨f1, f2, f3, f4⟩, c5, c6, c7, c8, hR7⟩ := move_facts HRq.out HP1.out HP0.out HA.out HB.out HKA.out HDD.out
                have HR7 := Lib.hid hR7
                clear hR7
                go_wp2
                go_roundw
                case rel => exact ⟨a, J, sw us (J + 1) J (x1, y1) (x0, y0), rfl, HA.out, by omega, hSu.out.sw HP1.out HP0.out (by omega) (by omega), hIn.out.step ltP_less (Nat.zero_le _) (by omega) HP1.out HP0.out HLT.out, HR7.out, below_four _ _ _ _ hBq hgb⟩
                case measure => have := HKA.out; simp [intOf]; omega
              · go_wp2_with fail
                go_quiet (fail)
                have HRq : Hid (RowI (wr.drewN nq) g n c (flatP us)) := Lib.hid (HRu.out.drewN nq)
                have hBq : Below w.heap.size w (wr.drewN nq) := below_drewN' nq hBu
                clear c1 c2 c3 c4
                generalize wr.drewN nq = w6 at HRq hBq ⊢
                obtain ⟨⟨c1, c2, c3, c4⟩, ⟨f1, f2, f3, f4⟩, c5, c6, c7, c8, hR7⟩ := move_facts HRq.out HP1.out HP0.out HA.out HB.out HKA.out HDD.out
                have HR7 := Lib.hid hR7
                clear hR7
                go_wp2
                go_roundw
                case rel => exact ⟨a, J, sw us (J + 1) J (x1, y1) (x0, y0), rfl, HA.out, by omega, hSu.out.sw HP1.out HP0.out (by omega) (by omega), hIn.out.step ltP_less (Nat.zero_le _) (by omega) HP1.out HP0.out HLT.out, HR7.out, below_four _ _ _ _ hBq hgb⟩
                case measure => have := HKA.out; simp [intOf]; omega
            · have HLT : Hid (ltP (x1, y1) (x0, y0) = false) := by unfold Hid; simpa using hlt2
              have HD : Hid (SR ltP 0 (I + 1) us) := hIn.out.done ltP_less (.inr fun u v hu hv => by
                rw [HP1.out] at hu
                rw [Nat.add_sub_cancel, HP0.out] at hv
                cases hu
                cases hv
                exact HLT.out) (Nat.zero_le _) (by rw [HUL.out]; exact hIN)
              have hcs : (decide (x1 < x0) = false ∧ (x1 == x0) = false) ∨ (decide (x1 < x0) = false ∧ (x1 == x0) = true ∧ decide (y1 < y0) = false) := by
                have := HLT.out
                unfold ltP at this
                have := of_decide_eq_false this
                by_cases h : x1 = x0
                · exact .inr ⟨decide_eq_false (by omega), beq_iff_eq.2 h, decide_eq_false (by omega)⟩
                · exact .inl ⟨decide_eq_false (by omega), beq_eq_false_iff_ne.2 h⟩
              clear hlt2
              rcases hcs with ⟨z0, z1⟩ | ⟨z0, z1, z2⟩
              · go_wp2_with fail
                go_quiet (fail)
                go_wp2
                go_roundw
                case rel => exact ⟨i + 2, I + 1, us, by go_num, by have := HI.out; omega, by omega, hSu, HD, HRu.out.drewN _, below_drewN' _ hBu⟩
                case measure => simp [intOf]; omega
              · go_wp2_with fail
                go_quiet (fail)
                go_wp2
                go_roundw
                case rel => exact ⟨i + 2, I + 1, us, by go_num, by have := HI.out; omega, by omega, hSu, HD, HRu.out.drewN _, below_drewN' _ hBu⟩
                case measure => simp [intOf]; omega
      ·
        have hxd : decide (x > y) = false := decide_eq_false hxy
        have hxn : qs = zs := by rw [HQ.out]; rcases HN5.out with h | h; exact absurd h.1 hxy; exact h.2
        go_wp2_with fail
        go_quiet (fail)
        have H5 : Hid (RowI (wr.drewN nq) g n c (flatP qs)) := by rw [hxn]; exact HRY.out.drewN nq
        have hB5 : Below w.heap.size w (wr.drewN nq) := below_drewN' nq hB
        clear HT c1 c2 f1 f2 hB hxn
        generalize wr.drewN nq = w5 at H5 hB5 ⊢
        go_wp2_with fail
        go_loopw [6] (fun sk wr => ∃ (k K : Nat) (us : List (Int × Int)), sk = .int .i64 k ∧ k = 2 * K ∧ K ≤ I ∧ Hid (SortI ps us (I + 1)) ∧ Hid (InsG ltP 0 I K us) ∧ RowI wr g n c (flatP us) ∧ Below w.heap.size w wr) (fun sk _ => (intOf sk).toNat)
        case atStart => exact ⟨i, I, qs, rfl, HI.out, Nat.le_refl _, HS5, InsG.start HSR5.out, H5.out, hB5⟩
        case round =>
          obtain ⟨k, K, us, rfl, hk, hK, hSu, hIn, hRu, hBu⟩ := hrel
          have hnN := HNN.out
          have hi := HI.out
          have HUL : Hid (us.length = N) := hSu.out.len.trans HPL.out
          have HRu := Lib.hid hRu
          by_cases hk0 : K = 0
          · have hk00 : k = 0 := by omega
            have HD : Hid (SR ltP 0 (I + 1) us) := hIn.out.done ltP_less (.inl hk0) (Nat.zero_le _) (by rw [HUL.out]; exact hIN)
            have hkd : decide ((k : Int) > 0) = false := decide_eq_false (by omega)
            clear hRu hk hk0 hnN hi
            subst hk00
            go_wp2_with fail
            go_quiet (fail)
            go_wp2
            go_roundw
            case rel => exact ⟨i + 2, I + 1, us, by go_num, by have := HI.out; omega, by omega, hSu, HD, HRu.out.drewN _, below_drewN' _ hBu⟩
            case measure => simp [intOf]; omega
          · obtain ⟨J, rfl⟩ : ∃ J, K = J + 1 := ⟨K - 1, by omega⟩
            obtain ⟨a, ha⟩ : ∃ a, a = 2 * J := ⟨_, rfl⟩
            obtain ⟨b, hb⟩ : ∃ b, b = a + 1 := ⟨_, rfl⟩
            obtain ⟨d, hd⟩ : ∃ d, d = k + 1 := ⟨_, rfl⟩
            have hka : k = a + 2 := by omega
            obtain ⟨p1, hp1⟩ := get_ex (xs := us) (i := J + 1) (by rw [HUL.out]; omega)
            obtain ⟨p0, hp0⟩ := get_ex (xs := us) (i := J) (by rw [HUL.out]; omega)
            obtain ⟨x1, y1⟩ := p1
            obtain ⟨x0, y0⟩ := p0
            have q1 := hRu.pair hp1
            have q0 := hRu.pair hp0
            rw [show 2 * (J + 1) = k by omega, ← hd] at q1
            rw [← ha, ← hb] at q0
            obtain ⟨c1, c2⟩ := q1
            obtain ⟨c3, c4⟩ := q0
            simp only at c1 c2 c3 c4
            have HP1 := Lib.hid hp1
            have HP0 := Lib.hid hp0
            have m0 : (k : Int) < (n : Int) := by omega
            have m1 : (d : Int) < (n : Int) := by omega
            have m2 : (a : Int) < (n : Int) := by omega
            have m3 : (b : Int) < (n : Int) := by omega
            have v0 : IntKind.i64.wrap ((k : Int) - 2) = (a : Int) := by rw [IntWalk.i64_in _ (by omega)]; omega
            have v1 : IntKind.i64.wrap ((k : Int) - 1) = (b : Int) := by rw [IntWalk.i64_in _ (by omega)]; omega
            have v2 : IntKind.i64.wrap ((k : Int) + 1) = (d : Int) := by rw [IntWalk.i64_in _ (by omega)]; omega
            have hkp : 0 < k := by omega
            have HK := Lib.hid hk
            have HKA := Lib.hid hka
            have HA := Lib.hid ha
            have HB := Lib.hid hb
            have HDD := Lib.hid hd
            have hkm : k ≤ 1000000 := by omega
            have hJ : J < I := by omega
            clear hRu hp1 hp0 hk hka ha hb hd hk0 hnN hi
            by_cases hlt2 : ltP (x1, y1) (x0, y0) = true
            · have HLT := Lib.hid hlt2
              have hcs : (decide (x1 < x0) = true) ∨ (decide (x1 < x0) = false ∧ (x1 == x0) = true ∧ decide (y1 < y0) = true) := by
                unfold ltP at hlt2
                have := of_decide_eq_true hlt2
                by_cases h : x1 < x0
                · exact .inl (decide_eq_true h)
                · exact .inr ⟨decide_eq_false h, beq_iff_eq.2 (by omega), decide_eq_true (by omega)⟩
              clear hlt2
              rcases hcs with z0 | ⟨z0, z1, z2⟩
              · go_wp2_with fail
                go_quiet (fail)
                have HRq : Hid (RowI (wr.drewN nq) g n c (flatP us)) := Lib.hid (HRu.out.drewN nq)
                have hBq : Below w.heap.size w (wr.drewN nq) := below_drewN' nq hBu
                clear c1 c2 c3 c4
                generalize wr.drewN nq = w6 at HRq hBq ⊢
                obtain ⟨⟨c1, c2, c3, c4⟩, ⟨f1, f2, f3, f4⟩, c5, c6, c7, c8, hR7⟩ := move_facts HRq.out HP1.out HP0.out HA.out HB.out HKA.out HDD.out
                have HR7 := Lib.hid hR7
                clear hR7
                go_wp2
                go_roundw
                case rel => exact ⟨a, J, sw us (J + 1) J (x1, y1) (x0, y0), rfl, HA.out, by omega, hSu.out.sw HP1.out HP0.out (by omega) (by omega), hIn.out.step ltP_less (Nat.zero_le _) (by omega) HP1.out HP0.out HLT.out, HR7.out, below_four _ _ _ _ hBq hgb⟩
                case measure => have := HKA.out; simp [intOf]; omega
              · go_wp2_with fail
                go_quiet (fail)
                have HRq : Hid (RowI (wr.drewN nq) g n c (flatP us)) := Lib.hid (HRu.out.drewN nq)
                have hBq : Below w.heap.size w (wr.drewN nq) := below_drewN' nq hBu
                clear c1 c2 c3 c4
                generalize wr.drewN nq = w6 at HRq hBq ⊢
                obtain ⟨⟨c1, c2, c3, c4⟩, ⟨f1, f2, f3, f4⟩, c5, c6, c7, c8, hR7⟩ := move_facts HRq.out HP1.out HP0.out HA.out HB.out HKA.out HDD.out
                have HR7 := Lib.hid hR7
                clear hR7
                go_wp2
                go_roundw
                case rel => exact ⟨a, J, sw us (J + 1) J (x1, y1) (x0, y0), rfl, HA.out, by omega, hSu.out.sw HP1.out HP0.out (by omega) (by omega), hIn.out.step ltP_less (Nat.zero_le _) (by omega) HP1.out HP0.out HLT.out, HR7.out, below_four _ _ _ _ hBq hgb⟩
                case measure => have := HKA.out; simp [intOf]; omega
            · have HLT : Hid (ltP (x1, y1) (x0, y0) = false) := by unfold Hid; simpa using hlt2
              have HD : Hid (SR ltP 0 (I + 1) us) := hIn.out.done ltP_less (.inr fun u v hu hv => by
                rw [HP1.out] at hu
                rw [Nat.add_sub_cancel, HP0.out] at hv
                cases hu
                cases hv
                exact HLT.out) (Nat.zero_le _) (by rw [HUL.out]; exact hIN)
              have hcs : (decide (x1 < x0) = false ∧ (x1 == x0) = false) ∨ (decide (x1 < x0) = false ∧ (x1 == x0) = true ∧ decide (y1 < y0) = false) := by
                have := HLT.out
                unfold ltP at this
                have := of_decide_eq_false this
                by_cases h : x1 = x0
                · exact .inr ⟨decide_eq_false (by omega), beq_iff_eq.2 h, decide_eq_false (by omega)⟩
                · exact .inl ⟨decide_eq_false (by omega), beq_eq_false_iff_ne.2 h⟩
              clear hlt2
              rcases hcs with ⟨z0, z1⟩ | ⟨z0, z1, z2⟩
              · go_wp2_with fail
                go_quiet (fail)
                go_wp2
                go_roundw
                case rel => exact ⟨i + 2, I + 1, us, by go_num, by have := HI.out; omega, by omega, hSu, HD, HRu.out.drewN _, below_drewN' _ hBu⟩
                case measure => simp [intOf]; omega
              · go_wp2_with fail
                go_quiet (fail)
                go_wp2
                go_roundw
                case rel => exact ⟨i + 2, I + 1, us, by go_num, by have := HI.out; omega, by omega, hSu, HD, HRu.out.drewN _, below_drewN' _ hBu⟩
                case measure => simp [intOf]; omega
    · have HIE : Hid (I = N) := by unfold Hid; omega
      have HRY := Lib.hid hR
      clear hR hi hnN
      go_wp2
      go_ret
      refine ⟨_, rfl, ?_, hB⟩
      have e := SortI.done (xs := xs) (HPS.out ▸ hS.out) (by rw [HZL.out, HIE.out]; exact Nat.le_refl _) hSR.out
      rw [← e]
      exact own_of_row HRY.out hgb
end Go.Proofs.Ythdnelfggmlalaa
