/-
  spec.l04Build.
-/
import Derived.Test.YthdnelfggmlalaaGrS
namespace Go.Proofs.Ythdnelfggmlalaa
open Go.RowKit

theorem top_of_most {L : List Int} {n : Nat} {b : Int} (hL : L.length = n) (h1 : 1 ≤ n) (h : MostI L [] n b) : ∃ a : Nat, b = (a : Int) ∧ IsTop L a := by
  rcases h with ⟨_, h⟩ | ⟨m, rfl, h2, _, h3⟩
  · exact absurd (h 0 (by omega)) (by simp)
  · exact ⟨m, rfl, by omega, fun k hk hkm => h3 k (by omega) (by simp) hkm⟩
theorem ordL_not {L : List Int} {a j o : Nat} (ho : (ordL L a)[j]? = some o) : o ∉ (ordL L a).take j := by
  intro hm
  have h1 := (ordL_nodup L a)
  rw [← List.take_append_drop j (ordL L a)] at h1
  have h2 := (List.nodup_append.1 h1).2.2
  refine h2 o hm o ?_ rfl
  rw [List.drop_eq_getElem_cons (lt_of_get ho), (List.getElem?_eq_some_iff.1 ho).2]
  exact List.mem_cons_self ..
theorem take_in {L : List Int} {a j : Nat} : ∀ k ∈ (ordL L a).take j, k < L.length := fun _ hk => (ordL_mem.1 (List.mem_of_mem_take hk)).1
/-- What l04Most picks next. -/
theorem pick_is {L : List Int} {a j n : Nat} {b : Int} (hL : L.length = n) (h : MostI (decA L ((ordL L a).take j)) ([a] ++ (ordL L a).take j) n b) :
    (b = -1 ∧ (ordL L a).length ≤ j) ∨ ∃ o : Nat, (ordL L a)[j]? = some o ∧ b = (o : Int) := by
  have hval : ∀ {k}, k ∉ (ordL L a).take j → lv (decA L ((ordL L a).take j)) k = lv L k := fun hk => decA_out take_in hk
  have hnot : ∀ {o}, (ordL L a)[j]? = some o → o ∉ [a] ++ (ordL L a).take j := fun {o} ho hm => by
    rcases List.mem_append.1 hm with h1 | h1
    · simp at h1
      exact (ordL_mem.1 (List.mem_of_getElem? ho)).2 h1
    · exact ordL_not ho h1
  rcases h with ⟨rfl, h⟩ | ⟨m, rfl, h1, h2, h3⟩
  · refine .inl ⟨rfl, ?_⟩
    rcases Nat.lt_or_ge j (ordL L a).length with hj | hj
    · obtain ⟨o, ho⟩ := get_ex hj
      have := (ordL_mem.1 (List.mem_of_getElem? ho)).1
      exact absurd (h o (by omega)) (hnot ho)
    · exact hj
  · have hma : m ≠ a := fun e => h2 (by rw [e]; simp)
    have hmt : m ∉ (ordL L a).take j := fun hm => h2 (List.mem_append_right _ hm)
    have hmo : m ∈ ordL L a := ordL_mem.2 ⟨by omega, hma⟩
    have hj : j < (ordL L a).length := by
      rcases Nat.lt_or_ge j (ordL L a).length with hj | hj
      · exact hj
      · rw [List.take_of_length_le hj] at hmt
        exact absurd hmo hmt
    obtain ⟨o, ho⟩ := get_ex hj
    refine .inr ⟨o, ho, ?_⟩
    by_cases e : m = o
    · rw [e]
    · have hol := (ordL_mem.1 (List.mem_of_getElem? ho)).1
      have g1 := h3 o (by omega) (hnot ho) (fun e' => e e'.symm)
      have g2 := ordL_ahead ho (by omega) hma hmt e
      unfold ahd at g1
      rw [hval hmt, hval (ordL_not ho)] at g1
      have g3 : ahd L m o = true := g1
      rw [(ahd_less L).asym _ _ g2] at g3
      cases g3

def BuildE (xs : List Int) (w : World) (e : Ending) (w' : World) : Prop :=
  ((∃ (out : List Int) (v' : Value), graphO xs = some out ∧ e = .returned (.tuple #[v', .bool true]) ∧ Own iV 2 w' w.heap.size v' (inOrd out) ∧ (inOrd out).length = out.length ∧ out.length ≤ 1024) ∨
    (graphO xs = none ∧ e = .returned (.tuple #[.slice none 0 0, .bool false]))) ∧ Below w.heap.size w w'
theorem build_some {xs out : List Int} {w w' : World} {v : Value} {e : Ending} (h : graphO xs = some out) (he : e = .returned (.tuple #[v, .bool true])) (ho : Own iV 2 w' w.heap.size v (inOrd out)) (hl : (inOrd out).length = out.length) (h2 : out.length ≤ 1024) (hb : Below w.heap.size w w') : BuildE xs w e w' :=
  ⟨.inl ⟨out, v, h, he, ho, hl, h2⟩, hb⟩
theorem build_none {xs : List Int} {w w' : World} {e : Ending} (h : graphO xs = none) (he : e = .returned (.tuple #[.slice none 0 0, .bool false])) (hb : Below w.heap.size w w') : BuildE xs w e w' := ⟨.inr ⟨h, he⟩, hb⟩
def lenW : Value → Nat
  | .slice _ n _ => n
  | _ => 0

set_option maxHeartbeats 4000000 in
set_option maxRecDepth 100000 in
theorem l04Build_any (v : Value) (xs : List Int) (hok : okDeg xs = true) (w : World) (hr : Rd iV w v xs) :
    Calls Try.prog 71 #[v] w (BuildE xs w) := by
  have HR := Lib.hid hr
  obtain ⟨A, cap, rfl, hcap, hA⟩ := hr
  clear hA
  obtain ⟨hl1, hl64, hxs⟩ := okDeg_true hok
  obtain ⟨n, hnl⟩ : ∃ n, n = xs.length := ⟨_, rfl⟩
  have HN := Lib.hid hnl
  go_enter Try.func71, Try.ntmps71
  go_wp2_with (at_builtin; go_loud (refine elI_.app one_iV _ rfl (.tmp 10) (.tmp 11) rfl w.heap.size _ [] rfl (own_nil_new iV w _) _ xs rfl (HR.out.alloc _) (by omega) (by simp; omega) (by simp) ?_))
  intro v1 w1 ho1 _ hb1 _
  have hB1 : Below w.heap.size w w1 := ((Below.refl _ _).alloc (Nat.le_refl _) _).trans hb1
  obtain ⟨g, c, rfl, hcc, hgz, hg1⟩ := ho1.form (by omega)
  have hR1 : RowI w1 g xs.length c xs := row_of_own ho1
  rw [← hnl] at hR1 hl1 hl64
  have hG1 := GoodG.start hnl.symm hxs
  have hO1 : Own iV 2 (w1.alloc (.cells #[] 2)) (g + 1) (.slice (some ⟨w1.heap.size, 0, none⟩) 0 0) [] := (own_nil_new iV w1 2).base_ (by omega)
  have hR2 : RowI (w1.alloc (.cells #[] 2)) g n c xs := hR1.below ((Below.refl _ _).alloc (Nat.le_refl _) _) hg1
  have hB2 : Below w.heap.size w (w1.alloc (.cells #[] 2)) := hB1.alloc hB1.size _
  have hS16 : xs.sum ≤ 1024 := by
    have := sum_small (L := xs) (fun k => (hG1.rng k).2)
    omega
  have HG1 := Lib.hid hG1
  have HS16 := Lib.hid hS16
  rw [show xs.length = n from HN.out.symm]
  generalize hwa : w1.alloc (.cells #[] 2) = wa at hO1 hR2 hB2
  clear ho1 hb1 hB1 hR1 hnl hG1 hxs hok hS16
  go_wp2
  clear hwa
  go_loopw [5] (fun so wr => ∃ (f : Nat) (L out : List Int), RowI wr g n c L ∧ Own iV 2 wr (g + 1) so out ∧ Hid (GoodG n xs.sum L out) ∧ Hid (buildG f L out = graphO xs) ∧ Hid (L.sum < f) ∧ Below w.heap.size w wr) (fun so _ => 3000 - lenW so)
  case atStart => exact ⟨1100, xs, [], hR2, hO1, HG1, rfl, by unfold Hid; have := HS16.out; omega, hB2⟩
  case round =>
    obtain ⟨f, L, out, hR, hO, HG, HF, HSF, hB⟩ := hrel
    clear hO1 hR2 hB2 HG1
    have hLl := HG.out.len
    have hOL : out.length ≤ 1024 := by
      have h1 := HG.out.sum
      have h2 := sum_nonneg (fun k => (HG.out.rng k).1)
      have := HS16.out
      omega
    have HRW := Lib.hid hR
    have HOW := Lib.hid hO
    have HLL := Lib.hid hLl
    have hL64 : n ≤ 64 := hl64
    obtain ⟨A5, c5, hso, -, -⟩ := hO.rd
    have HSO := Lib.hid hso
    have hf1 : 1 ≤ f := by
      have h1 := HSF.out
      have h2 := sum_nonneg (fun k => (HG.out.rng k).1)
      omega
    obtain ⟨f', rfl⟩ : ∃ f', f = f' + 1 := ⟨f - 1, by omega⟩
    have hgw : g < wr.heap.size := hR.lt
    clear hR hO hLl hf1 hso
    go_wp2_with (at_make; go_loud (refine elB_.make _ rfl _ _ rfl .i64 .i64 _ _ n rfl rfl rfl rfl (by omega) (by omega) ?_))
    intro w2 ho2 hb2 hz2
    obtain ⟨gt, hgt⟩ : ∃ gt, gt = wr.heap.size := ⟨_, rfl⟩
    have hT0 : RowB w2 gt n n (tkL n []) := by
      rw [tkL_nil, hgt]
      unfold RowB
      rw [List.map_replicate]
      exact own_base ho2 (Nat.zero_le _)
    have hRa : RowI w2 g n c L := HRW.out.below hb2 hgw
    have hOa : Own iV 2 w2 (g + 1) u5 out := HOW.out.below hb2
    have hBa : Below w.heap.size w w2 := hB.trans (hb2.mono hB.size)
    have hgg : g < gt := by omega
    have hu5 : ∀ k, u5.ownBlock = some k → k ≠ gt := fun k hk => by have := (HOW.out.lt k hk).2; omega
    have HMOST := Lib.hid (l04Most_any L [] g c gt n n HLL.out hL64 w2 hRa hT0)
    have HT0 := Lib.hid hT0
    have HRA := Lib.hid hRa
    have HOA := Lib.hid hOa
    rw [← hgt]
    clear ho2 hb2 hz2 hT0 hRa hOa hB hgt HRW HOW
    go_wp2_with fail
    refine HMOST.out.mono ?_
    rintro e w3 ⟨b, rfl, hmost, q, rfl⟩
    obtain ⟨a, rfl, htop⟩ := top_of_most HLL.out hl1 hmost
    have han : a < n := by have := htop.1; have := HLL.out; omega
    have hga : L[a]? = some (lv L a) := get_lv htop.1
    have c1 : (w2.drewN q).cell? ⟨g, a, none⟩ = some (iV (lv L a)) := HRA.out.at hga
    have hrga := HG.out.rng a
    have HTOP := Lib.hid htop
    obtain ⟨d, hd⟩ : ∃ d : Nat, lv L a = (d : Int) := ⟨(lv L a).toNat, by omega⟩
    rw [hd] at c1 hrga hga
    have HD := Lib.hid hd
    have HGA := Lib.hid hga
    have hao : (a : Int) < (n : Int) := by omega
    have hBq : Below w.heap.size w (w2.drewN q) := below_drewN' q hBa
    have HRQ : Hid (RowI (w2.drewN q) g n c L) := HRA.out
    have HTQ : Hid (RowB (w2.drewN q) gt n n (tkL n [])) := HT0.out
    have HOQ : Hid (Own iV 2 (w2.drewN q) (g + 1) u5 out) := HOA.out
    clear hmost htop hd hga HMOST HRA HT0 HOA hBa
    generalize w2.drewN q = w3 at c1 hBq HRQ HTQ HOQ ⊢
    by_cases hd0 : d = 0
    · have HGO : Hid (graphO xs = some out) := by
        unfold Hid
        rw [← HF.out]
        exact buildG_done HTOP.out (by rw [HD.out, hd0]; rfl)
      subst hd0
      obtain ⟨m, hm⟩ := HG.out.even
      have HSORT := Lib.hid (l04Sort_any u5 out m hm (by omega) w3 HOQ.out.rd)
      have HM := Lib.hid hm
      clear hm
      go_wp2_with (go_at_call 65; refine HSORT.out.mono ?_; rintro e w5 ⟨v5, rfl, ho5, hb5⟩)
      go_ret2
      exact build_some HGO.out rfl (ho5.base_ hBq.size) (by rw [inOrd_len HM.out, HM.out]) hOL (hBq.trans (hb5.mono hBq.size))
    · have hd16 : d ≤ 16 := by omega
      have hne0 : lv L a ≠ 0 := by rw [HD.out]; omega
      have HNE := Lib.hid hne0
      have HTN : Hid ((lv L a).toNat = d) := by unfold Hid; rw [HD.out]; simp
      have hd0' : ((d : Int) == 0) = false := beq_eq_false_iff_ne.2 (by omega)
      have t1 := HTQ.out.at (tkL_at (S := []) han)
      have t2 := HTQ.out.free a
      have hT1 := HTQ.out.put a true
      rw [tkL_set han] at hT1
      have hR1 := HRQ.out.set_other (b := gt) (j := a) (bV true) (by omega)
      have hO1 : Own iV 2 (w3.setCell ⟨gt, a, none⟩ (bV true)) (g + 1) u5 out := HOQ.out.kept (grown_set w3 gt a (bV true)) (by
        cases hk : u5.ownBlock with
        | none => exact .inl rfl
        | some k => exact .inr (by have := hu5 k hk; simp; omega))
      have hB1 := below_set (i := a) (bV true) hBq (show w.heap.size ≤ gt by omega)
      have c2 : (w3.setCell ⟨gt, a, none⟩ (bV true)).cell? ⟨g, a, none⟩ = some (iV (d : Int)) := hR1.at HGA.out
      have HT1 : Hid (RowB (w3.setCell ⟨gt, a, none⟩ (bV true)) gt n n (tkL n ([a] ++ (ordL L a).take 0))) := by unfold Hid; rw [List.take_zero, List.append_nil]; exact hT1
      have HR1 : Hid (RowI (w3.setCell ⟨gt, a, none⟩ (bV true)) g n c (decA L ((ordL L a).take 0))) := hR1
      have HO1 : Hid (Own iV 2 (w3.setCell ⟨gt, a, none⟩ (bV true)) (g + 1) u5 (out ++ edgesTo a ((ordL L a).take 0))) := by
        unfold Hid
        have : out ++ edgesTo a ((ordL L a).take 0) = out := by simp [edgesTo, flatP]
        rw [this]
        exact hO1
      have HU5 := Lib.hid hu5
      clear hT1 hR1 hO1 hne0 hu5 hBq HOQ
      go_wp2
      generalize w3.setCell ⟨gt, a, none⟩ (bV true) = w4 at HT1 HR1 HO1 hB1 c2 ⊢
      clear c1 c2 t1 t2
      go_loopw [5, 8] (fun so s8 wr => ∃ j : Nat, j ≤ d ∧ s8 = .int .i64 ((d - j : Nat) : Int) ∧ RowI wr g n c (decA L ((ordL L a).take j)) ∧ Own iV 2 wr (g + 1) so (out ++ edgesTo a ((ordL L a).take j)) ∧ RowB wr gt n n (tkL n ([a] ++ (ordL L a).take j)) ∧ Hid (∀ k, so.ownBlock = some k → k ≠ gt) ∧ Hid (∀ (i o : Nat), i < j → (ordL L a)[i]? = some o → lv L o ≠ 0) ∧ Hid (j ≤ (ordL L a).length) ∧ Below w.heap.size w wr) (fun _ s8 _ => (intOf s8).toNat)
      case atStart => exact ⟨0, Nat.zero_le _, rfl, HR1.out, HO1.out, HT1.out, HU5, fun i o h => by omega, Nat.zero_le _, hB1⟩
      case round =>
        obtain ⟨j, hj, rfl, hRj, hOj, hTj, hne, hnz, hjl, hBj⟩ := hrel
        clear HT1 HR1 HO1 hB1 HU5
        have hin : ∀ k ∈ (ordL L a).take j, k < L.length := take_in
        have hlen : (decA L ((ordL L a).take j)).length = n := by rw [decA_len]; exact HLL.out
        by_cases hjd : j < d
        · have HMOST := Lib.hid (l04Most_any (decA L ((ordL L a).take j)) ([a] ++ (ordL L a).take j) g c gt n n hlen hL64 wr hRj hTj)
          have HRj := Lib.hid hRj
          have HTj := Lib.hid hTj
          have HOj := Lib.hid hOj
          have hp8 : 0 < d - j := by omega
          clear hRj hTj hOj hlen
          go_wp2_with fail
          refine HMOST.out.mono ?_
          rintro e w5 ⟨b, rfl, hmost, q, rfl⟩
          have hpick := pick_is HLL.out hmost
          have HRQ : Hid (RowI (wr.drewN q) g n c (decA L ((ordL L a).take j))) := HRj.out
          have HTQ : Hid (RowB (wr.drewN q) gt n n (tkL n ([a] ++ (ordL L a).take j))) := HTj.out
          have HOQ : Hid (Own iV 2 (wr.drewN q) (g + 1) u5 (out ++ edgesTo a ((ordL L a).take j))) := HOj.out
          have hBq : Below w.heap.size w (wr.drewN q) := below_drewN' q hBj
          clear hmost HMOST HRj HTj HOj hBj
          generalize wr.drewN q = w5 at HRQ HTQ HOQ hBq ⊢
          rcases hpick with ⟨rfl, hfew⟩ | ⟨o, ho, rfl⟩
          · have HGO : Hid (graphO xs = none) := by
              unfold Hid
              rw [← HF.out]
              exact buildG_fail HTOP.out HNE.out (roundG_few (by rw [HTN.out]; omega))
            go_wp2
            go_ret2
            exact build_none HGO.out rfl hBq
          · have hom := ordL_mem.1 (List.mem_of_getElem? ho)
            have hnt := ordL_not ho
            have hlo : lv (decA L ((ordL L a).take j)) o = lv L o := decA_out hin hnt
            have hgo : (decA L ((ordL L a).take j))[o]? = some (lv L o) := by rw [← hlo]; exact get_lv (by rw [decA_len]; exact hom.1)
            have hon' : o < n := by have := HLL.out; omega
            have hon : (o : Int) < (n : Int) := by omega
            have ho0 : ¬ (o : Int) < 0 := by omega
            have q2 := HRQ.out.at hgo
            have q3 := HRQ.out.free o
            have hrng := HG.out.rng o
            have HJO := Lib.hid ho
            obtain ⟨y, hy⟩ : ∃ y, y = lv L o := ⟨_, rfl⟩
            rw [← hy] at q2 hgo hlo hrng
            have HY := Lib.hid hy
            by_cases hy0 : y = 0
            · have HGO : Hid (graphO xs = none) := by
                unfold Hid
                rw [← HF.out]
                exact buildG_fail HTOP.out HNE.out (roundG_zero (by rw [HTN.out]; exact hjd) HJO.out (HY.out.symm.trans hy0))
              clear hy hgo hlo ho
              subst hy0
              go_wp2
              go_ret2
              exact build_none HGO.out rfl hBq
            · have hy1 : (y == 0) = false := beq_eq_false_iff_ne.2 hy0
              have t1 := HTQ.out.at (tkL_at (S := [a] ++ (ordL L a).take j) hon')
              have t2 := HTQ.out.free o
              have hT1 := HTQ.out.put o true
              rw [tkL_set hon', List.append_assoc, ← take_snoc ho] at hT1
              have hR1 := HRQ.out.set_other (b := gt) (j := o) (bV true) (by omega)
              have hO1 : Own iV 2 (w5.setCell ⟨gt, o, none⟩ (bV true)) (g + 1) u5 (out ++ edgesTo a ((ordL L a).take j)) := HOQ.out.kept (grown_set w5 gt o (bV true)) (by
                cases hk : u5.ownBlock with
                | none => exact .inl rfl
                | some k => exact .inr (by have := hne.out k hk; simp; omega))
              have hB1 := below_set (i := o) (bV true) hBq (show w.heap.size ≤ gt by omega)
              have q4 := hR1.at hgo
              have q5 := hR1.free o
              have hput := hR1.put o (y - 1)
              have hB3 := below_set (g := g) (i := o) (jV (y - 1)) hB1 hgz
              have hdec : (decA L ((ordL L a).take j)).set o (y - 1) = decA L ((ordL L a).take (j + 1)) := by
                rw [take_snoc ho, decA_snoc]
                unfold dec1
                rw [hlo]
              rw [hdec] at hput
              have hT3 := hT1.set_other (b := g) (j := o) (jV (y - 1)) (by omega)
              have hO3 := ownI_set (g := g) (i := o) (jV (y - 1)) hO1 (by omega)
              have hw1 : IntKind.i64.wrap (y - 1) = y - 1 := IntWalk.i64_in _ (by omega)
              have hz3 : g < ((w5.setCell ⟨gt, o, none⟩ (bV true)).setCell ⟨g, o, none⟩ (jV (y - 1))).heap.size := hput.lt
              have hz4 : gt < ((w5.setCell ⟨gt, o, none⟩ (bV true)).setCell ⟨g, o, none⟩ (jV (y - 1))).heap.size := hT3.lt
              have HES : Hid (out ++ edgesTo a ((ordL L a).take (j + 1)) = (out ++ edgesTo a ((ordL L a).take j)) ++ [(a : Int), (o : Int)]) := by
                unfold Hid
                rw [take_snoc ho, edgesTo_snoc, List.append_assoc]
              have HELE : (out ++ edgesTo a ((ordL L a).take j)).length ≤ 2000 := by
                rw [List.length_append, edgesTo_len, List.length_take]
                omega
              have HJL : Hid (j + 1 ≤ (ordL L a).length) := lt_of_get ho
              have HNZ : Hid (∀ (i o : Nat), i < j + 1 → (ordL L a)[i]? = some o → lv L o ≠ 0) := fun i o' hi ho' => by
                rcases Nat.lt_or_ge i j with h | h
                · exact hnz.out i o' h ho'
                · obtain rfl : i = j := by omega
                  rw [ho] at ho'
                  cases ho'
                  rw [← hy]
                  exact hy0
              have hrd2 : Rd iV (((w5.setCell ⟨gt, o, none⟩ (bV true)).setCell ⟨g, o, none⟩ (jV (y - 1))).alloc (.cells #[iV (a : Int), iV (o : Int)] 2)) (.slice (some ⟨w5.heap.size, 0, none⟩) 2 2) [(a : Int), (o : Int)] := by
                have := rd_two iV ((w5.setCell ⟨gt, o, none⟩ (bV true)).setCell ⟨g, o, none⟩ (jV (y - 1))) (a : Int) (o : Int) 2
                rwa [show ((w5.setCell ⟨gt, o, none⟩ (bV true)).setCell ⟨g, o, none⟩ (jV (y - 1))).heap.size = w5.heap.size by simp] at this
              have hz5 : g + 1 ≤ (((w5.setCell ⟨gt, o, none⟩ (bV true)).setCell ⟨g, o, none⟩ (jV (y - 1))).alloc (.cells #[iV (a : Int), iV (o : Int)] 2)).heap.size := by rw [World.size_alloc]; omega
              have HZ5 := Lib.hid hz5
              have HPUT := Lib.hid hput
              have HO3 := Lib.hid hO3
              have HT3 := Lib.hid hT3
              have HZ3 := Lib.hid hz3
              have HZ4 := Lib.hid hz4
              have hal := (Below.refl _ _).alloc (w := (w5.setCell ⟨gt, o, none⟩ (bV true)).setCell ⟨g, o, none⟩ (jV (y - 1))) (Nat.le_refl _) (.cells #[iV (a : Int), iV (o : Int)] 2)
              have HAL := Lib.hid hal
              obtain ⟨EL, hEL⟩ : ∃ EL, EL = out ++ edgesTo a ((ordL L a).take j) := ⟨_, rfl⟩
              rw [← hEL] at HO3 HES HELE
              have hs8 : IntKind.i64.wrap (((d - j : Nat) : Int) - 1) = ((d - (j + 1) : Nat) : Int) := by rw [IntWalk.i64_in _ (by omega)]; omega
              clear hput hO3 hT3 hdec hy hgo hlo ho hO1 hT1 hR1 hin hnt hal hEL HOQ HTQ HRQ hz3 hz4 hz5 hB1
              go_wp2_with (at_builtin; go_loud (refine elI_.app one_iV _ rfl (.tmp 59) (.tmp 62) rfl (g + 1) _ EL rfl (HO3.out.alloc _) _ [(a : Int), (o : Int)] rfl hrd2 (by omega) (by simp; omega) HZ5.out ?_))
              intro v2 w6 ho6 hgw6 hb6 hv6
              have hR5 : RowI w6 g n c (decA L ((ordL L a).take (j + 1))) := (HPUT.out.below HAL.out HZ3.out).below hb6 (by omega)
              have hT5 : RowB w6 gt n n (tkL n ([a] ++ (ordL L a).take (j + 1))) := World.ownsRow.kept (World.ownsRow.alloc HT3.out (.cells #[iV (a : Int), iV (o : Int)] 2)) hgw6 (.inr (fun e => hne.out _ e.symm rfl))
              have hne5 : ∀ k, v2.ownBlock = some k → k ≠ gt := fun k hk => by
                rcases hv6 with e | e
                · rw [e] at hk; exact hne.out k hk
                · rw [e] at hk
                  have h9 := HZ4.out
                  cases hk
                  simp at h9
                  omega
              have hB5 : Below w.heap.size w w6 := hB3.trans ((HAL.out.mono hB3.size).trans (hb6.mono (by omega)))
              have HR5 := Lib.hid hR5
              have HT5 := Lib.hid hT5
              have HO5 := Lib.hid ho6
              have HNE5 := Lib.hid hne5
              clear hR5 hT5 ho6 hgw6 hb6 hv6 hne5 HPUT HO3 HT3 HAL hrd2 HZ5
              go_wp2
              go_roundw
              case rel => exact ⟨j + 1, by omega, rfl, HR5.out, by rw [HES.out]; exact HO5.out, HT5.out, HNE5, HNZ, HJL, hB5⟩
              case measure => simp [intOf]; omega
        · have hjd2 : j = d := by omega
          subst hjd2
          have hat : a ∉ (ordL L a).take j := fun hm => (ordL_mem.1 (List.mem_of_mem_take hm)).2 rfl
          have hla : lv (decA L ((ordL L a).take j)) a = lv L a := decA_out hin hat
          have hga : (decA L ((ordL L a).take j))[a]? = some (lv L a) := by rw [← hla]; exact get_lv (by rw [hlen]; exact han)
          have q1 := hRj.at hga
          have q3 := hRj.free a
          have hput := hRj.put a 0
          have hO3 := ownI_set (g := g) (i := a) (jV 0) hOj (by omega)
          have hB3 := below_set (g := g) (i := a) (jV 0) hBj hgz
          have hnz2 : ∀ (i o : Nat), i < (lv L a).toNat → (ordL L a)[i]? = some o → lv L o ≠ 0 := by rw [HTN.out]; exact hnz.out
          have hjl2 := hjl.out
          have hstep := HG.out.step han HNE.out (by rw [HTN.out]; exact hjl2) hnz2
          have hfin := buildG_step (f := f') (out := out) HTOP.out HNE.out (roundG_some (by rw [HTN.out]; exact hjl2) hnz2)
          rw [HTN.out] at hstep hfin
          have HSTEP := Lib.hid hstep
          have HFIN := Lib.hid (hfin.symm.trans HF.out)
          have hsum := hstep.sum
          have hsum0 := HG.out.sum
          have hlen2 : (out ++ edgesTo a ((ordL L a).take j)).length = out.length + 2 * j := by rw [List.length_append, edgesTo_len, List.length_take]; omega
          have HPUT := Lib.hid hput
          have HO3 := Lib.hid hO3
          have HLEN2 := Lib.hid hlen2
          have HSF2 : Hid (((decA L ((ordL L a).take j)).set a 0).sum < (f' : Int)) := by
            unfold Hid
            have := HSF.out
            push_cast at hsum this
            rw [hlen2] at hsum
            push_cast at hsum
            omega
          obtain ⟨A6, c6, hso6, -, -⟩ := hOj.rd
          have HSO6 := Lib.hid hso6
          have hoj6 : (out ++ edgesTo a ((ordL L a).take j)).length ≤ 1024 := by
            have h2 := sum_nonneg (fun k => (hstep.rng k).1)
            have := HS16.out
            omega
          have h00 : j - j = 0 := Nat.sub_self j
          clear hput hO3 hstep hfin hsum hsum0 hga hla hRj hOj hin hat hnz2 hTj hso6 hlen
          go_wp2
          go_roundw
          case rel => exact ⟨f', _, _, HPUT.out, HO3.out, HSTEP, HFIN, HSF2, hB3⟩
          case measure =>
            rw [HSO.out, HSO6.out, HLEN2.out]
            simp only [lenW]
            omega
end Go.Proofs.Ythdnelfggmlalaa
