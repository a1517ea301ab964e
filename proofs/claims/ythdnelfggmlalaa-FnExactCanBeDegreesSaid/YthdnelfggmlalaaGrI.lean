/-
  impl.GraphOfDegrees and impl.CanBeDegrees.
-/
import Derived.Test.YthdnelfggmlalaaGrA
import Derived.Test.YthdnelfggmlalaaGrB
import Derived.Test.YthdnelfggmlalaaInO
import Derived.Test.YthdnelfggmlalaaIdxI
namespace Go.Proofs.Ythdnelfggmlalaa
open Go.RowKit

/-- What GraphOfDegrees answers. -/
def graphB (xs : List Int) : Bool := okDeg xs && (match graphO xs with | some out => decide (out.length ≤ 512) | none => false)
def graphR (xs : List Int) : List Int := if graphB xs = true then inOrd ((graphO xs).getD []) else []
theorem graphB_bad {xs : List Int} (h : okDeg xs = false) : graphB xs = false := by unfold graphB; rw [h]; rfl
theorem graphB_none {xs : List Int} (h : graphO xs = none) : graphB xs = false := by unfold graphB; rw [h, Bool.and_false]
theorem graphB_some {xs out : List Int} (hok : okDeg xs = true) (h : graphO xs = some out) : graphB xs = decide (out.length ≤ 512) := by unfold graphB; rw [hok, h]; rfl
theorem graphR_false {xs : List Int} (h : graphB xs = false) : graphR xs = [] := by unfold graphR; rw [h]; rfl
theorem graphR_true {xs out : List Int} (h : graphB xs = true) (h2 : graphO xs = some out) : graphR xs = inOrd out := by unfold graphR; rw [h, h2]; rfl
def RetGraph (xs : List Int) (w : World) (e : Ending) (w' : World) : Prop :=
  ∃ v', e = .returned (.tuple #[v', .bool (graphB xs)]) ∧ Own iV 2 w' w.heap.size v' (graphR xs) ∧ Below w.heap.size w w'
def lenV : Value → Nat
  | .slice _ n _ => n
  | _ => 0
theorem exists_max : ∀ {xs : List Int}, 1 ≤ xs.length → ∃ M ∈ xs, ∀ x ∈ xs, x ≤ M
  | [], h => by simp at h
  | [a], _ => ⟨a, by simp, by simp⟩
  | a :: b :: l, _ => by
    obtain ⟨M, hM, hall⟩ := exists_max (xs := b :: l) (by simp)
    rcases Int.le_total a M with h | h
    · exact ⟨M, List.mem_cons_of_mem _ hM, fun x hx => by rcases List.mem_cons.1 hx with e | e; exact e ▸ h; exact hall x e⟩
    · exact ⟨a, List.mem_cons_self .., fun x hx => by rcases List.mem_cons.1 hx with e | e; exact e ▸ Int.le_refl _; exact Int.le_trans (hall x e) h⟩
theorem maxI_is (v : Value) (xs : List Int) (h1 : 1 ≤ xs.length) (hn : xs.length ≤ 1000000) (M : Int) (hM : M ∈ xs) (hall : ∀ x ∈ xs, x ≤ M) (w : World) (hr : Rd iV w v xs) :
    Calls Try.prog 73 #[v] w fun e w' => e = .returned (.int .i64 M) ∧ w = w' := by
  refine (maxI_any v xs h1 hn w hr).mono ?_
  rintro e w' ⟨M', rfl, rfl, h2, h3⟩
  have := h3 M hM
  have := hall M' h2
  exact ⟨ret_int (by omega), rfl⟩
/-- The first place of the greatest is on top. -/
theorem top_of_first {L : List Int} {a : Nat} {M : Int} (ha : L[a]? = some M) (hf : ∀ j y, j < a → L[j]? = some y → y ≠ M) (hall : ∀ x ∈ L, x ≤ M) : IsTop L a := by
  refine ⟨lt_of_get ha, fun k hk hka => ?_⟩
  have h1 := lv_of ha
  have h2 := hall _ (List.mem_of_getElem? (get_lv hk))
  unfold ahd
  refine decide_eq_true ?_
  rcases Nat.lt_or_ge k a with h | h
  · have := hf k _ h (get_lv hk)
    omega
  · omega
theorem first_of {L : List Int} {M : Int} (hM : M ∈ L) : ∃ a : Nat, L[a]? = some M ∧ ∀ j y, j < a → L[j]? = some y → y ≠ M := by
  have hl : L.findIdx (fun d => d == M) < L.length := List.findIdx_lt_length_of_exists ⟨M, hM, by simp⟩
  refine ⟨L.findIdx (fun d => d == M), ?_, fun j y hj hy e => ?_⟩
  · rw [List.getElem?_eq_getElem hl]
    have := List.findIdx_getElem (w := hl)
    simpa using this
  · have := List.not_of_lt_findIdx hj
    rw [(List.getElem?_eq_some_iff.1 hy).2, e] at this
    simp at this

set_option maxHeartbeats 4000000 in
set_option maxRecDepth 100000 in
theorem implGraph_any (v : Value) (xs : List Int) (hn : xs.length ≤ 1099511627776) (w : World) (hr : Rd iV w v xs) :
    Calls Try.prog 37 #[v] w (RetGraph xs w) := by
  have HR := Lib.hid hr
  obtain ⟨A, cap, rfl, hcap, hA⟩ := hr
  clear hA
  unfold RetGraph
  cases hok : okDeg xs
  · have HB : Hid (graphB xs = false) := graphB_bad hok
    have HRR : Hid (graphR xs = []) := graphR_false HB.out
    go_enter Try.func37, Try.ntmps37
    go_wp2_with (go_at_call 72; refine (areDeg_any _ xs hn _ HR.out).mono ?_; rintro e w' ⟨rfl, q, rfl⟩; rw [hok])
    go_ret2
    exact ⟨.slice none 0 0, by rw [HB.out]; rfl, by rw [HRR.out]; exact Own.nil, below_drewN' _ (Below.refl _ _)⟩
  obtain ⟨hl1, hl64, hxs⟩ := okDeg_true hok
  have HOK := Lib.hid hok
  go_enter Try.func37, Try.ntmps37
  go_wp2_with (first | (go_at_call 72; refine (areDeg_any _ xs hn _ HR.out).mono ?_; rintro e w' ⟨rfl, q, rfl⟩; rw [hok]; have HRq := Lib.hid (HR.out.drewN q)) | (go_at_call 67; refine (cloneI_any _ xs hn _ HRq.out).mono ?_; rintro e w1 ⟨v1, rfl, ho1, hb1⟩))
  have hB1 : Below w.heap.size w w1 := (below_drewN' _ (Below.refl _ _)).trans hb1
  obtain ⟨g, c, rfl, hcc, hgz0, hg1⟩ := ho1.form (by omega)
  have hgz : w.heap.size ≤ g := hgz0
  obtain ⟨n, hnl⟩ : ∃ n, n = xs.length := ⟨_, rfl⟩
  have hR1 := row_of_own ho1
  rw [← hnl] at hR1 hl1 hl64 ⊢
  have HN := Lib.hid hnl
  have hG1 := GoodG.start hnl.symm hxs
  have hO1 : Own iV 2 (w1.alloc (.cells #[] 2)) (g + 1) (.slice (some ⟨w1.heap.size, 0, none⟩) 0 0) [] := (own_nil_new iV w1 2).base_ (by omega)
  have hR2 : RowI (w1.alloc (.cells #[] 2)) g n c xs := hR1.below ((Below.refl _ _).alloc (Nat.le_refl _) _) hg1
  have hB2 : Below w.heap.size w (w1.alloc (.cells #[] 2)) := hB1.alloc hB1.size _
  have hS16 : xs.sum ≤ 1024 := by
    have := sum_small (L := xs) (fun k => (hG1.rng k).2)
    omega
  have HG1 := Lib.hid hG1
  have HS16 := Lib.hid hS16
  generalize w1.alloc (.cells #[] 2) = wa at hO1 hR2 hB2 ⊢
  clear ho1 hb1 hB1 hR1 hgz0 hg1 hcc hnl hG1 hxs hok hS16 HRq
  go_wp2
  go_loopw [5] (fun so wr => ∃ (f : Nat) (L out : List Int), RowI wr g n c L ∧ Own iV 2 wr (g + 1) so out ∧ Hid (GoodG n xs.sum L out) ∧ Hid (buildG f L out = graphO xs) ∧ Hid (L.sum < f) ∧ Below w.heap.size w wr) (fun so _ => 3000 - lenV so)
  case atStart => exact ⟨1100, xs, [], hR2, hO1, HG1, rfl, by unfold Hid; have := HS16.out; omega, hB2⟩
  case round =>
    obtain ⟨f, L, out, hR, hO, HG, HF, HSF, hB⟩ := hrel
    clear hO1 hR2 hB2 HG1
    have hLl := HG.out.len
    have hOL : out.length ≤ 1024 := by
      have h1 := HG.out.sum
      have h2 := sum_nonneg (fun k => (HG.out.rng k).1)
      have := HS16.out
      omega
    obtain ⟨M, hM, hall⟩ := exists_max (xs := L) (by omega)
    obtain ⟨a, ha, hfa⟩ := first_of hM
    have htop := top_of_first ha hfa hall
    have hlva := lv_of ha
    have hM0 : 0 ≤ M ∧ M ≤ 16 := by rw [← hlva]; exact HG.out.rng a
    have hrd : Rd iV wr (.slice (some ⟨g, 0, none⟩) n c) L := (own_of_row hR (Nat.zero_le g)).rd
    have HMAX := Lib.hid (maxI_is _ L (by omega) (by omega) M hM hall wr hrd)
    have HIDX := Lib.hid (indexI_any _ L M a (by omega) ha hfa wr hrd)
    have HTOP := Lib.hid htop
    have HLV := Lib.hid hlva
    have HA2 := Lib.hid ha
    have HRW := Lib.hid hR
    have HOW := Lib.hid hO
    have HRD := Lib.hid hrd
    have han : a < n := by have := lt_of_get ha; omega
    have hL64 : L.length ≤ 64 := by omega
    obtain ⟨A5, c5, hso, -, -⟩ := hO.rd
    have HSO := Lib.hid hso
    clear hso
    have hf1 : 1 ≤ f := by
      have h1 := HSF.out
      have h2 := sum_nonneg (fun k => (HG.out.rng k).1)
      omega
    obtain ⟨f', rfl⟩ : ∃ f', f = f' + 1 := ⟨f - 1, by omega⟩
    clear hR hO hM hall ha hfa htop hlva hrd hLl hf1
    by_cases hpos : 0 < M
    · obtain ⟨d, hd⟩ : ∃ d : Nat, M = (d : Int) := ⟨M.toNat, by omega⟩
      subst hd
      have hd16 : d ≤ 16 := by omega
      have hd1 : 1 ≤ d := by omega
      have hne0 : lv L a ≠ 0 := by rw [HLV.out]; omega
      have HNE := Lib.hid hne0
      have HTN : Hid ((lv L a).toNat = d) := by unfold Hid; rw [HLV.out]; simp
      have HBD := Lib.hid (byDegree_any _ L a (by have := lt_of_get HA2.out; exact this) hL64 wr HRD.out)
      have c1 := HRW.out.at HA2.out
      have hol : (ordL L a).length ≤ 64 := by
        have := (ordL_perm L a).length_eq
        have h2 := List.length_filter_le (fun k => k != a) (List.range L.length)
        rw [List.length_range] at h2
        omega
      have hgw : g < wr.heap.size := HRW.out.lt
      have hao : (a : Int) < (n : Int) := by omega
      clear hne0 hpos hM0
      by_cases hfew : (ordL L a).length < d
      · have HGO : Hid (graphO xs = none) := by
          unfold Hid
          rw [← HF.out]
          exact buildG_fail HTOP.out HNE.out (roundG_few (by rw [HTN.out]; exact hfew))
        have HB5 : Hid (graphB xs = false) := graphB_none HGO.out
        have HRR : Hid (graphR xs = []) := graphR_false HB5.out
        obtain ⟨OL, hOLd⟩ : ∃ OL, OL = toI (ordL L a) := ⟨_, rfl⟩
        rw [← hOLd] at HBD
        have hOLl : OL.length = (ordL L a).length := by rw [hOLd, toI_len]
        have hfew2 : OL.length < d := by omega
        have HFW := Lib.hid hOLl
        clear hOLd hOLl hfew
        go_wp2_with (first | (go_at_call 73; refine HMAX.out.mono ?_; rintro e w' ⟨rfl, rfl⟩) | (go_at_call 59; refine HIDX.out.mono ?_; rintro e w' ⟨rfl, rfl⟩) | (go_at_call 74; refine HBD.out.mono ?_; rintro e w2 ⟨v2, rfl, ho2, hb2⟩; (obtain ⟨A2, c2, rfl, -, -⟩ := ho2.rd); (replace c1 := (hb2.cell (by simp only; exact hgw)).trans c1)))
        go_ret2
        exact ⟨.slice none 0 0, by rw [HB5.out]; rfl, by rw [HRR.out]; exact Own.nil, hB.trans (hb2.mono hB.size)⟩
      · obtain ⟨OL, hOLd⟩ : ∃ OL, OL = toI (ordL L a) := ⟨_, rfl⟩
        rw [← hOLd] at HBD
        have HOLD := Lib.hid hOLd
        have hOLl : OL.length = (ordL L a).length := by rw [hOLd, toI_len]
        have hfew2 : ¬ OL.length < d := by omega
        have HOLL := Lib.hid hOLl
        clear hOLd
        go_wp2_with (first | (go_at_call 73; refine HMAX.out.mono ?_; rintro e w' ⟨rfl, rfl⟩) | (go_at_call 59; refine HIDX.out.mono ?_; rintro e w' ⟨rfl, rfl⟩) | (go_at_call 74; refine HBD.out.mono ?_; rintro e w2 ⟨v2, rfl, ho2, hb2⟩; (obtain ⟨g2, c2, rfl, hc2, hg2, hg2l⟩ := ho2.form (by omega)); (replace c1 := (hb2.cell (by simp only; exact hgw)).trans c1); (have hdc : (d : Int) ≤ (c2 : Int) := by omega)))
        have hR2 := row_of_own ho2
        have hu5 : ∀ k, u5.ownBlock = some k → k ≠ g2 := fun k hk => by have := (HOW.out.lt k hk).2; omega
        have hRa : RowI w2 g n c (decA L ((ordL L a).take 0)) := HRW.out.below hb2 hgw
        have hOa : Own iV 2 w2 (g + 1) u5 (out ++ edgesTo a ((ordL L a).take 0)) := by
          have : out ++ edgesTo a ((ordL L a).take 0) = out := by simp [edgesTo, flatP]
          rw [this]
          exact HOW.out.below hb2
        have hBa : Below w.heap.size w w2 := hB.trans (hb2.mono hB.size)
        have hgg : g < g2 := by omega
        clear ho2 hc2 hb2 hB c1
        go_loopw [5, 40] (fun so si wr => ∃ j : Nat, j ≤ d ∧ si = .int .i64 j ∧ RowI wr g n c (decA L ((ordL L a).take j)) ∧ Own iV 2 wr (g + 1) so (out ++ edgesTo a ((ordL L a).take j)) ∧ RowI wr g2 OL.length c2 OL ∧ Hid (∀ k, so.ownBlock = some k → k ≠ g2) ∧ Hid (∀ (i o : Nat), i < j → (ordL L a)[i]? = some o → lv L o ≠ 0) ∧ Below w.heap.size w wr) (fun _ si _ => d - (intOf si).toNat)
        case atStart => exact ⟨0, Nat.zero_le _, rfl, hRa, hOa, hR2, hu5, fun i o h => by omega, hBa⟩
        case round =>
          obtain ⟨j, hj, rfl, hRj, hOj, hRo, hne, hnz, hBj⟩ := hrel
          clear hRa hOa hR2 hu5 hBa
          have hin : ∀ k ∈ (ordL L a).take j, k < L.length := fun k hk => (ordL_mem.1 (List.mem_of_mem_take hk)).1
          by_cases hjd : j < d
          · obtain ⟨o, ho⟩ := get_ex (xs := ordL L a) (i := j) (by omega)
            have hom := ordL_mem.1 (List.mem_of_getElem? ho)
            have hnt : o ∉ (ordL L a).take j := by
              intro hm
              have h1 := (ordL_nodup L a)
              rw [← List.take_append_drop j (ordL L a)] at h1
              have h2 := (List.nodup_append.1 h1).2.2
              refine h2 o hm o ?_ rfl
              rw [List.drop_eq_getElem_cons (lt_of_get ho), (List.getElem?_eq_some_iff.1 ho).2]
              exact List.mem_cons_self ..
            have hlo : lv (decA L ((ordL L a).take j)) o = lv L o := decA_out hin hnt
            have hgo : (decA L ((ordL L a).take j))[o]? = some (lv L o) := by rw [← hlo]; exact get_lv (by rw [decA_len]; exact hom.1)
            have hoj : OL[j]? = some (o : Int) := by rw [HOLD.out]; unfold toI; rw [List.getElem?_map, ho]; rfl
            have q1 := hRo.at hoj
            have q2 := hRj.at hgo
            have q3 := hRj.free o
            have hon : (o : Int) < (n : Int) := by have := HG.out.len; omega
            have hrng := HG.out.rng o
            have HJO := Lib.hid ho
            obtain ⟨y, hy⟩ : ∃ y, y = lv L o := ⟨_, rfl⟩
            rw [← hy] at q2 hgo hlo hrng
            have HY := Lib.hid hy
            have HRo := Lib.hid hRo
            have HOj := Lib.hid hOj
            by_cases hy0 : y = 0
            · have HGO : Hid (graphO xs = none) := by
                unfold Hid
                rw [← HF.out]
                exact buildG_fail HTOP.out HNE.out (roundG_zero (by rw [HTN.out]; exact hjd) HJO.out (HY.out.symm.trans hy0))
              have HB5 : Hid (graphB xs = false) := graphB_none HGO.out
              have HRR : Hid (graphR xs = []) := graphR_false HB5.out
              clear hy hgo hlo hoj ho hRo hOj hRj
              subst hy0
              go_wp2
              go_ret2
              exact ⟨.slice none 0 0, by rw [HB5.out]; rfl, by rw [HRR.out]; exact Own.nil, hBj⟩
            · have hput := hRj.put o (y - 1)
              have hB3 := below_set (g := g) (i := o) (jV (y - 1)) hBj hgz
              have hdec : (decA L ((ordL L a).take j)).set o (y - 1) = decA L ((ordL L a).take (j + 1)) := by
                rw [take_snoc ho, decA_snoc]
                unfold dec1
                rw [hlo]
              rw [hdec] at hput
              have hO3 := ownI_set (g := g) (i := o) (jV (y - 1)) hOj (by omega)
              have hw1 : IntKind.i64.wrap (y - 1) = y - 1 := IntWalk.i64_in _ (by omega)
              have hRo3 : RowI (wr.setCell ⟨g, o, none⟩ (jV (y - 1))) g2 OL.length c2 OL := World.ownsRow.kept hRo ⟨rfl, rfl, rfl, by simp, fun k hk hkn => ((Touch.setCell wr ⟨g, o, none⟩ (jV (y - 1))).block k hk (by simp only; have : k ≠ g := fun e => hkn (by rw [e]); omega))⟩ (row := some g) (.inr (by simp [Value.ownBlock]; omega))
              have hz3 : g < (wr.setCell ⟨g, o, none⟩ (jV (y - 1))).heap.size := hput.lt
              have HES : Hid (out ++ edgesTo a ((ordL L a).take (j + 1)) = (out ++ edgesTo a ((ordL L a).take j)) ++ [(a : Int), (o : Int)]) := by
                unfold Hid
                rw [take_snoc ho, edgesTo_snoc, List.append_assoc]
              have HELE : (out ++ edgesTo a ((ordL L a).take j)).length ≤ 2000 := by
                rw [List.length_append, edgesTo_len, List.length_take]
                omega
              have hrd2 : Rd iV ((wr.setCell ⟨g, o, none⟩ (jV (y - 1))).alloc (.cells #[iV (a : Int), iV (o : Int)] 2)) (.slice (some ⟨wr.heap.size, 0, none⟩) 2 2) [(a : Int), (o : Int)] := by
                have := rd_two iV (wr.setCell ⟨g, o, none⟩ (jV (y - 1))) (a : Int) (o : Int) 2
                rwa [show (wr.setCell ⟨g, o, none⟩ (jV (y - 1))).heap.size = wr.heap.size by simp] at this
              have HNZ : Hid (∀ (i o : Nat), i < j + 1 → (ordL L a)[i]? = some o → lv L o ≠ 0) := fun i o' hi ho' => by
                rcases Nat.lt_or_ge i j with h | h
                · exact hnz.out i o' h ho'
                · obtain rfl : i = j := by omega
                  rw [ho] at ho'
                  cases ho'
                  rw [← hy]
                  exact hy0
              have HPUT := Lib.hid hput
              have HO3 := Lib.hid hO3
              have HRo3 := Lib.hid hRo3
              have hal := (Below.refl _ _).alloc (w := wr.setCell ⟨g, o, none⟩ (jV (y - 1))) (Nat.le_refl _) (.cells #[iV (a : Int), iV (o : Int)] 2)
              have HAL := Lib.hid hal
              have HZ4 : Hid (g + 1 ≤ ((wr.setCell ⟨g, o, none⟩ (jV (y - 1))).alloc (.cells #[iV (a : Int), iV (o : Int)] 2)).heap.size) := by unfold Hid; rw [World.size_alloc]; omega
              have hgg2 : g2 < wr.heap.size := hRo.lt
              obtain ⟨EL, hEL⟩ : ∃ EL, EL = out ++ edgesTo a ((ordL L a).take j) := ⟨_, rfl⟩
              rw [← hEL] at HO3 HES HELE
              clear hput hO3 hRo3 hdec hy hgo hlo hoj ho hRo hOj hRj hin hnt hal hEL HOj HRo
              go_wp2_with (at_builtin; go_loud (refine elI_.app one_iV _ rfl (.tmp 55) (.tmp 58) rfl (g + 1) _ EL rfl (HO3.out.alloc _) _ [(a : Int), (o : Int)] rfl hrd2 (by omega) (by simp; omega) HZ4.out ?_))
              intro v2 w5 ho5 hgw5 hb5 hv5
              have hR5 : RowI w5 g n c (decA L ((ordL L a).take (j + 1))) := (HPUT.out.below HAL.out hz3).below hb5 (by omega)
              have hRo5 : RowI w5 g2 OL.length c2 OL := World.ownsRow.kept (HRo3.out.below HAL.out (by simpa using hgg2)) hgw5 (.inr (fun e => hne.out _ e.symm rfl))
              have hne5 : ∀ k, v2.ownBlock = some k → k ≠ g2 := fun k hk => by
                rcases hv5 with e | e
                · rw [e] at hk; exact hne.out k hk
                · rw [e] at hk
                  cases hk
                  simp
                  omega
              have hB5 : Below w.heap.size w w5 := hB3.trans ((HAL.out.mono hB3.size).trans (hb5.mono (by omega)))
              have HR5 := Lib.hid hR5
              have HRo5 := Lib.hid hRo5
              have HO5 := Lib.hid ho5
              have HNE5 := Lib.hid hne5
              clear hR5 hRo5 ho5 hgw5 hb5 hv5 hne5 HPUT HO3 HRo3 HAL hrd2
              go_wp2
              go_roundw
              case rel => exact ⟨j + 1, by omega, by go_num, HR5.out, by rw [HES.out]; exact HO5.out, HRo5.out, HNE5, HNZ, hB5⟩
              case measure => simp [intOf]; omega
          · have hjd2 : j = d := by omega
            subst hjd2
            have hat : a ∉ (ordL L a).take j := fun hm => (ordL_mem.1 (List.mem_of_mem_take hm)).2 rfl
            have hla : lv (decA L ((ordL L a).take j)) a = lv L a := decA_out hin hat
            have hga : (decA L ((ordL L a).take j))[a]? = some (lv L a) := by rw [← hla]; exact get_lv (by rw [decA_len]; have := lt_of_get HA2.out; exact this)
            have q1 := hRj.at hga
            have q3 := hRj.free a
            have hput := hRj.put a 0
            have hO3 := ownI_set (g := g) (i := a) (jV 0) hOj (by omega)
            have hB3 := below_set (g := g) (i := a) (jV 0) hBj hgz
            have hnz : ∀ (i o : Nat), i < (lv L a).toNat → (ordL L a)[i]? = some o → lv L o ≠ 0 := by rw [HTN.out]; exact hnz.out
            have hstep := HG.out.step han HNE.out (by rw [HTN.out]; omega) hnz
            have hfin := buildG_step (f := f') (out := out) HTOP.out HNE.out (roundG_some (by rw [HTN.out]; omega) hnz)
            rw [HTN.out] at hstep hfin
            have HSTEP := Lib.hid hstep
            have HFIN := Lib.hid (hfin.symm.trans HF.out)
            have hsum := hstep.sum
            have hsum0 := HG.out.sum
            have hlen2 : (out ++ edgesTo a ((ordL L a).take j)).length = out.length + 2 * j := by rw [List.length_append, edgesTo_len, List.length_take]; omega
            have HPUT := Lib.hid hput
            have HO3 := Lib.hid hO3
            have HLEN2 := Lib.hid hlen2
            have HSF2 : Hid (((decA L ((ordL L a).take j)).set a 0).sum < (f' : Int)) := by
              unfold Hid
              have := HSF.out
              push_cast at hsum this
              rw [hlen2] at hsum
              push_cast at hsum
              omega
            obtain ⟨A6, c6, hso6, -, -⟩ := hOj.rd
            have HSO6 := Lib.hid hso6
            have hoj6 : (out ++ edgesTo a ((ordL L a).take j)).length ≤ 1024 := by
              have h2 := sum_nonneg (fun k => (hstep.rng k).1)
              have := HS16.out
              omega
            clear hput hO3 hstep hfin hsum hsum0 hga hla hRj hOj hin hat hnz hRo hso6
            go_wp2
            go_roundw
            case rel => exact ⟨f', _, _, HPUT.out, HO3.out, HSTEP, HFIN, HSF2, hB3⟩
            case measure =>
              rw [HSO.out, HSO6.out, HLEN2.out]
              simp only [lenV]
              omega
    · have hm0 : M = 0 := by omega
      have HGO : Hid (graphO xs = some out) := by
        unfold Hid
        rw [← HF.out]
        exact buildG_done HTOP.out (HLV.out.trans hm0)
      subst hm0
      obtain ⟨m, hm⟩ := HG.out.even
      have HE := Lib.hid (inOrder_any m u5 out hm (by omega) wr HOW.out.rd)
      obtain ⟨zs, hz1, hz2, hz3, hz4⟩ := HG.out.edges
      have HZ1 := Lib.hid hz1
      have HZ2 := Lib.hid hz2
      have HZ3 := Lib.hid hz3
      have HZ4 := Lib.hid hz4
      have HM := Lib.hid hm
      have hnn : inB (n : Int) 1 64 = true := decide_eq_true (by omega)
      clear hz1 hz2 hz3 hz4 hm
      by_cases h512 : out.length ≤ 512
      · have HB5 : Hid (graphB xs = true) := by unfold Hid; rw [graphB_some HOK.out HGO.out]; exact decide_eq_true h512
        have HRR : Hid (graphR xs = inOrd out) := graphR_true HB5.out HGO.out
        go_wp2_with (first | (go_at_call 73; refine HMAX.out.mono ?_; rintro e w' ⟨rfl, rfl⟩) | (go_at_call 60; refine HE.out.mono ?_; rintro e w5 ⟨v5, rfl, ho5, hb5⟩; (have HAE := Lib.hid (areEdges_good n hnn v5 zs (by rw [HZ2.out]; exact h512) HZ3.out HZ4.out w5 (by rw [← HZ1.out]; exact ho5.rd))); (have HO5 := Lib.hid ho5); clear ho5) | (go_at_call 66; refine HAE.out.mono ?_; rintro e w6 ⟨rfl, hb6⟩))
        go_ret2
        have hB6 := hB.trans ((hb5.mono hB.size).trans (hb6.mono (Nat.le_trans hB.size hb5.size)))
        exact ⟨v5, by rw [HB5.out]; rfl, by rw [HRR.out]; exact (HO5.out.below hb6).base_ hB.size, hB6⟩
      · have HB5 : Hid (graphB xs = false) := by unfold Hid; rw [graphB_some HOK.out HGO.out]; exact decide_eq_false h512
        have HRR : Hid (graphR xs = []) := graphR_false HB5.out
        go_wp2_with (first | (go_at_call 73; refine HMAX.out.mono ?_; rintro e w' ⟨rfl, rfl⟩) | (go_at_call 60; refine HE.out.mono ?_; rintro e w5 ⟨v5, rfl, ho5, hb5⟩; (have HAE := Lib.hid (areEdges_long n hnn v5 (inOrd out) m (inOrd_len HM.out) (by rw [inOrd_len HM.out, ← HM.out]; omega) (by rw [inOrd_len HM.out, ← HM.out]; omega) w5 ho5.rd)); clear ho5) | (go_at_call 66; refine HAE.out.mono ?_; rintro e w6 ⟨rfl, hb6⟩))
        go_ret2
        have hB6 := hB.trans ((hb5.mono hB.size).trans (hb6.mono (Nat.le_trans hB.size hb5.size)))
        exact ⟨.slice none 0 0, by rw [HB5.out]; rfl, by rw [HRR.out]; exact Own.nil, hB6⟩
end Go.Proofs.Ythdnelfggmlalaa
