/-
  The walks of impl.TreeOfCode and spec.TreeOfCode.
-/
import Derived.Test.YthdnelfggmlalaaTreeS
import Derived.Test.YthdnelfggmlalaaInO
import Derived.Test.YthdnelfggmlalaaIdxI
import Derived.Test.YthdnelfggmlalaaRepI
namespace Go.Proofs.Ythdnelfggmlalaa
open Go.RowKit

/-- What TreeOfCode answers. -/
def treeR (xs : List Int) : List Int := if okCode xs = true then inOrd (treeF xs) else []
def RetTree (xs : List Int) (w : World) (e : Ending) (w' : World) : Prop :=
  ∃ v', e = .returned (.tuple #[v', .bool (okCode xs)]) ∧ Own iV 2 w' w.heap.size v' (treeR xs) ∧ Below w.heap.size w w'
theorem treeF_len {xs : List Int} (h : okCode xs = true) : (treeF xs).length = 2 * (xs.length + 1) := by
  obtain ⟨h1, h2⟩ := okCode_true h
  have hF := fits_at (code := xs) rfl h2 xs.length (Nat.le_refl _)
  rw [List.take_length, List.drop_length] at hF
  obtain ⟨b, hb, _⟩ := hF.1.two
  unfold treeF
  rw [hb, List.length_append, hF.2]
  simp
  omega
theorem treeR_len (xs : List Int) : (treeR xs).length ≤ 126 := by
  unfold treeR
  split
  · rename_i h
    rw [inOrd_len (treeF_len h)]
    have := (okCode_true h).1
    omega
  · simp

theorem specTree_any (v : Value) (xs : List Int) (hn : xs.length ≤ 1099511627776) (w : World) (hr : Rd iV w v xs) :
    Calls Try.prog 27 #[v] w (RetTree xs w) := by
  have HR := Lib.hid hr
  obtain ⟨A, cap, rfl, hcap, hA⟩ := hr
  clear hA
  unfold RetTree treeR
  cases hs : okCode xs
  · have HS := Lib.hid hs
    go_enter Try.func27, Try.ntmps27
    go_wp2_with (go_at_call 55; refine (l04IsCode_any _ xs hn _ HR.out).mono ?_; rintro e w' ⟨rfl, rfl⟩; rw [HS.out])
    go_ret2
    exact ⟨_, rfl, Own.nil, Below.refl _ _⟩
  · have HS := Lib.hid hs
    go_enter Try.func27, Try.ntmps27
    go_wp2_with (first | (go_at_call 55; refine (l04IsCode_any _ xs hn _ HR.out).mono ?_; rintro e w' ⟨rfl, rfl⟩; rw [HS.out]) | (go_at_call 56; refine (l04Tree_any _ xs HS.out _ HR.out).mono ?_; rintro e w2 ⟨v', rfl, ho, hb⟩))
    go_ret2
    exact ⟨_, rfl, ho, hb⟩

set_option maxHeartbeats 2000000 in
set_option maxRecDepth 100000 in
theorem implTree_any (v : Value) (xs : List Int) (hn : xs.length ≤ 1099511627776) (w : World) (hr : Rd iV w v xs) :
    Calls Try.prog 29 #[v] w (RetTree xs w) := by
  have HR := Lib.hid hr
  obtain ⟨A, cap, rfl, hcap, hA⟩ := hr
  have HA := Lib.hid hA
  obtain ⟨n, hnl⟩ : ∃ n, n = xs.length + 2 := ⟨_, rfl⟩
  have hw : IntKind.i64.wrap ((xs.length : Int) + 2) = (n : Int) := by rw [IntWalk.i64_in _ (by omega)]; omega
  have HN := Lib.hid hnl
  clear hA
  by_cases hl : 64 < n
  · have HO : Hid (okCode xs = false) := okCode_long (by omega)
    have HT : Hid (treeR xs = []) := by unfold Hid treeR; rw [HO.out]; rfl
    clear hnl
    unfold RetTree
    go_enter Try.func29, Try.ntmps29
    go_wp2
    go_ret2
    exact ⟨.slice none 0 0, by rw [HO.out]; rfl, by rw [HT.out]; exact Own.nil, Below.refl _ _⟩
  have hle : n ≤ 64 := by omega
  have hw2 : IntKind.i64.wrap ((n : Int) - 1) = (xs.length : Int) + 1 := by rw [IntWalk.i64_in _ (by omega)]; omega
  have hlx : xs.length ≤ 62 := by omega
  clear hnl
  unfold RetTree
  go_enter Try.func29, Try.ntmps29
  go_wp2_with fail
  refine (repeat_any _ 1 n (by have := HN.out; omega) (by omega) _ (rd_one iV w 1 2)).mono ?_
  rintro e w1 ⟨v1, rfl, ho1, hb1⟩
  have hal : Below w.heap.size w (w.alloc (.cells #[iV 1] 2)) := (Below.refl _ _).alloc (Nat.le_refl _) _
  have hB1 : Below w.heap.size w w1 := hal.trans (hb1.mono hal.size)
  obtain ⟨g, cg, rfl, hcg, hgb, hg1⟩ := ho1.form (by rw [List.length_replicate]; have := HN.out; omega)
  have hgz : w.heap.size ≤ g := Nat.le_trans hal.size hgb
  have hR0 : RowI w1 g n cg (degA n (xs.take 0)) := by
    have := row_of_own ho1
    rw [List.length_replicate] at this
    exact this
  rw [List.length_replicate]
  clear ho1 hb1 hal hgb hcg
  go_wp2
  go_loopw [23] (fun si wr => ∃ k : Nat, k ≤ xs.length ∧ si = .int .i64 k ∧ RowI wr g n cg (degA n (xs.take k)) ∧ Below w.heap.size w wr ∧ Hid (∀ x ∈ xs.take k, inB x 0 ((xs.length : Int) + 1) = true)) (fun si _ => xs.length - (intOf si).toNat)
  case atStart => exact ⟨0, by omega, rfl, hR0, hB1, fun x h => by simp at h⟩
  case round =>
    obtain ⟨k, hk, rfl, hR, hB2, HALL⟩ := hrel
    clear hR0 hB1 hg1
    by_cases hlt2 : k < xs.length
    · obtain ⟨x, hx⟩ := get_of_lt hlt2
      obtain ⟨ad, rfl, hbl, hc⟩ := HA.out k _ hx
      have c0 : wr.cell? (ad.add k) = some (iV x) := by rw [hB2.cell (by rw [add_block]; exact hbl)]; exact hc
      have HX := Lib.hid hx
      have HR1 := Lib.hid hR
      clear hR hx hc
      cases hb : inB x 0 ((xs.length : Int) + 1)
      · have HO : Hid (okCode xs = false) := okCode_bad HX.out hb
        have HT : Hid (treeR xs = []) := by unfold Hid treeR; rw [HO.out]; rfl
        go_wp2_with (go_at_call 58; refine (within_any _ _ _ _).mono ?_; rintro e w' ⟨rfl, rfl⟩; rw [hb])
        go_ret2
        exact ⟨.slice none 0 0, by rw [HO.out]; rfl, by rw [HT.out]; exact Own.nil, hB2⟩
      · have HBB := Lib.hid hb
        have hxb := inB_true hb
        obtain ⟨cn, hcn⟩ : ∃ cn : Nat, x = (cn : Int) := ⟨x.toNat, by omega⟩
        subst hcn
        obtain ⟨d, hd⟩ := get_ex (xs := degA n (xs.take k)) (i := cn) (by rw [degA_len]; have := HN.out; omega)
        have hdb := (degA_fits n (xs.take k) (fun c hc => by have := inB_true (HALL.out c hc); have := HN.out; omega)).2.1 _ _ hd
        have hcl2 := List.count_le_length (a := (cn : Int)) (l := xs.take k)
        rw [List.length_take] at hcl2
        have hw1 : IntKind.i64.wrap (d + 1) = d + 1 := IntWalk.i64_in _ (by omega)
        have c1 := HR1.out.at hd
        have f1 := HR1.out.free cn
        have hR2 := HR1.out.put cn (d + 1)
        have e : (degA n (xs.take k)).set cn (d + 1) = degA n (xs.take (k + 1)) := by
          rw [take_snoc HX.out, degA_snoc]
          unfold incD
          rw [Int.toNat_natCast, hd, Option.getD_some]
        rw [e] at hR2
        have HR2 := Lib.hid hR2
        have hcn1 : (cn : Int) < (n : Int) := by have := HN.out; omega
        clear hR2 hd e hdb hcl2 hxb
        go_wp2_with (go_at_call 58; refine (within_any _ _ _ _).mono ?_; rintro e w' ⟨rfl, rfl⟩; rw [hb])
        go_roundw
        case rel =>
          refine ⟨k + 1, by omega, by go_num, HR2.out, below_set _ hB2 hgz, fun y hy => ?_⟩
          rw [take_snoc HX.out, List.mem_append] at hy
          rcases hy with hy | hy
          · exact HALL.out y hy
          · simp at hy; subst hy; exact HBB.out
        case measure => simp [intOf]; omega
    · have hkx : k = xs.length := by omega
      have hok : okCode xs = true := okCode_good (by have := HN.out; omega) (by have := HALL.out; rw [hkx] at this; exact this)
      obtain ⟨-, hin⟩ := okCode_true hok
      rw [← HN.out] at hin
      have HIN := Lib.hid hin
      have HOK := Lib.hid hok
      have HT : Hid (treeR xs = inOrd (treeF xs)) := by unfold Hid treeR; rw [hok, if_pos rfl]
      rw [hkx, List.take_length] at hR
      have hRS : RowI wr g n cg (stAt (degA n xs) (xs.take 0)).1 := hR
      have HRS := Lib.hid hRS
      have hgw : g < wr.heap.size := hR.lt
      clear hR hRS hkx hin hok HALL
      go_wp2
      have hO0 : Own iV 2 (wr.alloc (.cells #[] 2)) (g + 1) (.slice (some ⟨wr.heap.size, 0, none⟩) 0 0) [] := (own_nil_new iV wr 2).base_ (by omega)
      have hR0 : RowI (wr.alloc (.cells #[] 2)) g n cg (stAt (degA n xs) (xs.take 0)).1 := HRS.out.below ((Below.refl _ _).alloc (Nat.le_refl _) _) hgw
      have hB0 : Below w.heap.size w (wr.alloc (.cells #[] 2)) := hB2.alloc hB2.size _
      generalize wr.alloc (.cells #[] 2) = wa at hO0 hR0 hB0 ⊢
      clear HRS hgw
      go_loopw [8, 42] (fun so si wr => ∃ k : Nat, k ≤ xs.length ∧ si = .int .i64 k ∧ RowI wr g n cg (stAt (degA n xs) (xs.take k)).1 ∧ Own iV 2 wr (g + 1) so (stAt (degA n xs) (xs.take k)).2 ∧ Below w.heap.size w wr) (fun _ si _ => xs.length - (intOf si).toNat)
      case atStart => exact ⟨0, by omega, rfl, hR0, hO0, hB0⟩
      case round =>
        obtain ⟨k, hk, rfl, hR, hO, hB3⟩ := hrel
        clear hO0 hR0 hB0
        have hF := fits_at HN.out HIN.out k hk
        obtain ⟨S, hS⟩ : ∃ S, S = stAt (degA n xs) (xs.take k) := ⟨_, rfl⟩
        rw [← hS] at hF hR hO
        by_cases hlt3 : k < xs.length
        · obtain ⟨x, hx⟩ := get_of_lt hlt3
          obtain ⟨cn, hcn⟩ : ∃ cn : Nat, x = (cn : Int) := ⟨x.toNat, by have := HIN.out x (one_mem hx); omega⟩
          subst hcn
          obtain ⟨ad, rfl, hbl, hc⟩ := HA.out k _ hx
          have hdr : xs.drop k = (cn : Int) :: xs.drop (k + 1) := by rw [List.drop_eq_getElem_cons hlt3, (List.getElem?_eq_some_iff.1 hx).2]
          rw [hdr] at hF
          have hcl := HIN.out _ (one_mem hx)
          obtain ⟨d, hd⟩ := get_ex (xs := S.1) (i := cn) (by rw [hF.1.len]; omega)
          obtain ⟨z1, z2, z3, z4, z5, z6, z7⟩ := step_facts hF.1 hd
          have hSn : stAt (degA n xs) (xs.take (k + 1)) = (stepD S.1 (one1 S.1) cn, S.2 ++ [(one1 S.1 : Int), (cn : Int)]) := by
            rw [take_snoc hx, stAt_snoc, ← hS]
            unfold stp
            rw [Int.toNat_natCast]
          have HSn := Lib.hid hSn
          have HOL := Lib.hid hF.2
          have HFL := Lib.hid hF.1.len
          have HST := Lib.hid z7
          have HZ2 := Lib.hid z2
          have HZ4 := Lib.hid z4
          have HIX := Lib.hid (indexI_any (.slice (some ⟨g, 0, none⟩) n cg) S.1 1 (one1 S.1) (by rw [hF.1.len]; omega) z2 (fun j y hj hy => one1_first hj hy) wr ((own_of_row hR (Nat.zero_le g)).rd))
          obtain ⟨j, hleaf⟩ : ∃ leaf, leaf = one1 S.1 := ⟨_, rfl⟩
          rw [← hleaf] at z1 HZ2 HZ4 HST HSn HIX
          have hlenS : (xs.drop (k + 1)).length ≤ 62 := by rw [List.length_drop]; omega
          have HX := Lib.hid hx
          have HR3 := Lib.hid hR
          have HO3 := Lib.hid hO
          have c0 : wr.cell? (ad.add k) = some (iV (cn : Int)) := by rw [hB3.cell (by rw [add_block]; exact hbl)]; exact hc
          clear hF hR hO hd hdr hx hS hSn z2 z4 z7 hleaf hcl hc
          have hjn : (j : Int) < (n : Int) := by omega
          have hSl : S.2.length ≤ 200 := by rw [HOL.out]; omega
          have hgw : g + 1 ≤ wr.heap.size := HR3.out.lt
          go_wp2_with (first | (go_at_call 59; refine HIX.out.mono ?_; rintro e w' ⟨rfl, rfl⟩) | (at_builtin; go_loud (refine elI_.app one_iV _ rfl (.tmp 48) (.tmp 51) rfl (g + 1) _ S.2 rfl (HO3.out.alloc _) _ [(j : Int), (cn : Int)] rfl (rd_two iV wr (j : Int) (cn : Int) 2) (by omega) (by simp; omega) (by simp; omega) ?_)))
          intro v2 w2 ho2 hg2 hb2 _
          have hal : Below wr.heap.size wr (wr.alloc (.cells #[iV (j : Int), iV (cn : Int)] 2)) := (Below.refl _ _).alloc (Nat.le_refl _) _
          have hR4 : RowI w2 g n cg S.1 := (HR3.out.below hal hgw).below hb2 (by omega)
          have hB4 : Below w.heap.size w w2 := hB3.trans ((hal.mono hB3.size).trans (hb2.mono (by omega)))
          have c1 := hR4.at HZ2.out
          have f1 := hR4.free j
          have hR5 := hR4.put j 0
          have hB5 : Below w.heap.size w (w2.setCell ⟨g, j, none⟩ (jV 0)) := below_set _ hB4 hgz
          have c2 := hR5.at HZ4.out
          have f2 := hR5.free cn
          have hR6 := hR5.put cn (d - 1)
          rw [← HST.out] at hR6
          have hB6 := below_set (i := cn) (jV (d - 1)) hB5 hgz
          have ho6 : Own iV 2 ((w2.setCell ⟨g, j, none⟩ (jV 0)).setCell ⟨g, cn, none⟩ (jV (d - 1))) (g + 1) v2 (S.2 ++ [(j : Int), (cn : Int)]) := ownI_set _ (ownI_set _ ho2 (by omega)) (by omega)
          have hw1 : IntKind.i64.wrap (d - 1) = d - 1 := IntWalk.i64_in _ (by omega)
          have HR6 := Lib.hid hR6
          have HO6 := Lib.hid ho6
          have hcn1 : (cn : Int) < (n : Int) := by omega
          clear hR4 hR5 hR6 ho6 ho2 hg2 hb2 hal c0
          go_wp2
          go_roundw
          case rel =>
            refine ⟨k + 1, by omega, by go_num, ?_, ?_, hB6⟩
            · rw [HSn.out]; exact HR6.out
            · rw [HSn.out]; exact HO6.out
          case measure => simp [intOf]; omega
        · have hkx : k = xs.length := by omega
          have hSe : S = stAt (degA n xs) xs := by rw [hS, hkx, List.take_length]
          rw [hkx, List.drop_length] at hF
          have HFL := Lib.hid hF.1.len
          have HOL : Hid (S.2.length = 2 * xs.length) := hF.2
          obtain ⟨b, hb0, ha1, ha2, hb1, hb2, hb3⟩ := hF.1.two
          have HIX := Lib.hid (indexI_any (.slice (some ⟨g, 0, none⟩) n cg) S.1 1 (one1 S.1) (by rw [hF.1.len]; omega) ha2 (fun j y hj hy => one1_first hj hy) wr ((own_of_row hR (Nat.zero_le g)).rd))
          have HIX2 := fun (W : World) (h : RowI W g n cg (S.1.set (one1 S.1) 0)) => indexI_any (.slice (some ⟨g, 0, none⟩) n cg) (S.1.set (one1 S.1) 0) 1 b (by rw [List.length_set, hF.1.len]; omega) hb3 (fun j y hj hy => one1_first (by rw [← hb1]; exact hj) hy) W ((own_of_row h (Nat.zero_le g)).rd)
          have HTF : Hid (treeF xs = S.2 ++ [(one1 S.1 : Int), (b : Int)]) := by
            unfold Hid treeF
            rw [← HN.out, ← hSe, hb0]
          obtain ⟨a, haa⟩ : ∃ a, a = one1 S.1 := ⟨_, rfl⟩
          rw [← haa] at HIX HIX2 HTF ha1 ha2
          have c1 := hR.at ha2
          have f1 := hR.free a
          have hR5 := hR.put a 0
          have ho5 := ownI_set (g := g) (i := a) (jV 0) hO (by omega)
          have hal5 := (Below.refl _ _).alloc (w := wr.setCell ⟨g, a, none⟩ (jV 0)) (Nat.le_refl _) (.cells #[iV (a : Int), iV (b : Int)] 2)
          have hrd2 : Rd iV ((wr.setCell ⟨g, a, none⟩ (jV 0)).alloc (.cells #[iV (a : Int), iV (b : Int)] 2)) (.slice (some ⟨wr.heap.size, 0, none⟩) 2 2) [(a : Int), (b : Int)] := by
            have := rd_two iV (wr.setCell ⟨g, a, none⟩ (jV 0)) (a : Int) (b : Int) 2
            rwa [show (wr.setCell ⟨g, a, none⟩ (jV 0)).heap.size = wr.heap.size by simp] at this
          have hgz5 : g + 1 ≤ (wr.setCell ⟨g, a, none⟩ (jV 0)).heap.size := hR5.lt
          have hB5 : Below w.heap.size w (wr.setCell ⟨g, a, none⟩ (jV 0)) := below_set _ hB3 hgz
          have HIX3 := Lib.hid (HIX2 _ hR5)
          have hgw5 : g < (wr.setCell ⟨g, a, none⟩ (jV 0)).heap.size := hR5.lt
          have HO5 := Lib.hid ho5
          have hlenF : (treeF xs).length = 2 * (xs.length + 1) := treeF_len HOK.out
          have HLF := Lib.hid hlenF
          have hSl : S.2.length ≤ 200 := by rw [HOL.out]; omega
          have han : (a : Int) < (n : Int) := by omega
          clear hF hR hO hkx hSe hS hb0 ha2 hb1 hb3 HIX2 haa hR5 ho5 hlenF
          go_wp2_with (first | (go_at_call 59; first | (refine HIX.out.mono ?_; rintro e w' ⟨rfl, rfl⟩) | (refine HIX3.out.mono ?_; rintro e w' ⟨rfl, rfl⟩)) | (at_builtin; go_loud (refine elI_.app one_iV _ rfl (.tmp 74) (.tmp 78) rfl (g + 1) _ S.2 rfl (HO5.out.alloc _) _ [(a : Int), (b : Int)] rfl hrd2 (by omega) (by simp; omega) (by rw [World.size_alloc]; omega) ?_)))
          intro v2 w2 ho2 hg2 hb2 _
          rw [← HTF.out] at ho2
          have hB6 : Below w.heap.size w w2 := hB5.trans ((hal5.mono hB5.size).trans (hb2.mono (by omega)))
          have HINO := Lib.hid (inOrder_any (xs.length + 1) v2 (treeF xs) HLF.out (by have := HLF.out; omega) w2 ho2.rd)
          clear ho2 hg2 hb2 hal5 HIX3 HIX c1 f1
          go_wp2_with (go_at_call 60; refine HINO.out.mono ?_; rintro e w5 ⟨v5, rfl, ho5, hb5⟩)
          go_ret2
          exact ⟨v5, by rw [HOK.out]; rfl, by rw [HT.out]; exact ho5.base_ hB6.size, hB6.trans (hb5.mono hB6.size)⟩
end Go.Proofs.Ythdnelfggmlalaa
