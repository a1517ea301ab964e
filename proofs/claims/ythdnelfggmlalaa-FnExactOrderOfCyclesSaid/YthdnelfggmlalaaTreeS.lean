/-
  The walks of spec.l04IsCode and spec.l04Tree.
-/
import Derived.Test.YthdnelfggmlalaaTreeP
import Derived.Test.YthdnelfggmlalaaSortS
import Derived.Test.YthdnelfggmlalaaWithin
namespace Go.Proofs.Ythdnelfggmlalaa
open Go.RowKit

theorem RowI.below {w w' : World} {g n c B : Nat} {xs : List Int} (h : RowI w g n c xs) (t : Below B w w') (hd : g < B) : RowI w' g n c xs := by
  have hb : w'.heap[g]? = w.heap[g]? := t.block g hd
  refine ⟨h.1, ?_⟩
  rcases h.2 with ⟨e, _⟩ | ⟨g', cap, cur, e, h1, h2, rest⟩
  · cases e
  · cases e
    exact .inr ⟨g, c, cur, rfl, h1, hb.trans h2, rest⟩
theorem ownI_touch {w w' : World} {base lo hi : Nat} {v : Value} {xs : List Int} (h : Own iV 2 w base v xs) (t : Touch lo hi w w') (hd : hi ≤ base) : Own iV 2 w' base v xs := by
  refine ⟨h.1, ?_⟩
  rcases h.2 with ⟨e, h0⟩ | ⟨g', cap, cur, e, h1, h2, rest⟩
  · exact .inl ⟨e, h0⟩
  · exact .inr ⟨g', cap, cur, e, h1, (t.block g' (Array.getElem?_eq_some_iff.1 h2).1 (by omega)).trans h2, rest⟩
theorem ownI_set {w : World} {base g i : Nat} {v : Value} {xs : List Int} (u : Value) (h : Own iV 2 w base v xs) (hg : g < base) : Own iV 2 (w.setCell ⟨g, i, none⟩ u) base v xs :=
  ownI_touch h (Touch.setCell w ⟨g, i, none⟩ u) hg
theorem below_set {a w : World} {g i : Nat} (u : Value) (h : Below a.heap.size a w) (hg : a.heap.size ≤ g) : Below a.heap.size a (w.setCell ⟨g, i, none⟩ u) :=
  h.trans ((Touch.setCell w ⟨g, i, none⟩ u).below hg h.size)
/-- Two new elements of 'append(s, x, y)' as a slice that reads. -/
theorem rd_two {α : Type} (f : α → Value) (w : World) (x y : α) (E : TypeId) : Rd f (w.alloc (.cells #[f x, f y] E)) (.slice (some ⟨w.heap.size, 0, none⟩) 2 2) [x, y] :=
  ⟨_, 2, rfl, Nat.le_refl _, fun k z hk => by
    match k, hk with
    | 0, hk =>
      simp at hk
      subst hk
      exact ⟨_, rfl, by simp, by simp [Addr.add]⟩
    | 1, hk =>
      simp at hk
      subst hk
      exact ⟨_, rfl, by simp, by simp [Addr.add]⟩⟩

/-- Whether a list is the code of a tree. -/
def okCode (xs : List Int) : Bool := decide (xs.length + 2 ≤ 64) && xs.all fun c => inB c 0 ((xs.length : Int) + 1)
theorem okCode_long {xs : List Int} (h : 64 < xs.length + 2) : okCode xs = false := by
  unfold okCode
  rw [decide_eq_false (by omega)]
  rfl
theorem okCode_bad {xs : List Int} {k : Nat} {x : Int} (hx : xs[k]? = some x) (h : inB x 0 ((xs.length : Int) + 1) = false) : okCode xs = false := by
  unfold okCode
  have : xs.all (fun c => inB c 0 ((xs.length : Int) + 1)) = false := by
    rw [List.all_eq_false]
    exact ⟨x, List.mem_of_getElem? hx, by simpa using h⟩
  rw [this, Bool.and_false]
theorem okCode_good {xs : List Int} (hl : xs.length + 2 ≤ 64) (h : ∀ x ∈ xs.take xs.length, inB x 0 ((xs.length : Int) + 1) = true) : okCode xs = true := by
  unfold okCode
  rw [List.take_length] at h
  rw [decide_eq_true hl, Bool.true_and, List.all_eq_true]
  exact h
theorem okCode_true {xs : List Int} (h : okCode xs = true) : xs.length + 2 ≤ 64 ∧ ∀ c ∈ xs, 0 ≤ c ∧ c < ((xs.length + 2 : Nat) : Int) := by
  unfold okCode at h
  rw [Bool.and_eq_true] at h
  refine ⟨of_decide_eq_true h.1, fun c hc => ?_⟩
  have := inB_true (List.all_eq_true.1 h.2 c hc)
  omega

theorem l04IsCode_any (v : Value) (xs : List Int) (hn : xs.length ≤ 1099511627776) (w : World) (hr : Rd iV w v xs) :
    Calls Try.prog 55 #[v] w fun e w' => e = .returned (.bool (okCode xs)) ∧ w = w' := by
  obtain ⟨A, cap, rfl, hcap, hA⟩ := hr
  have HA := Lib.hid hA
  clear hA
  obtain ⟨n, hnl⟩ : ∃ n, n = xs.length + 2 := ⟨_, rfl⟩
  have hw : IntKind.i64.wrap ((xs.length : Int) + 2) = (n : Int) := by rw [IntWalk.i64_in _ (by omega)]; omega
  have HN := Lib.hid hnl
  by_cases hl : 64 < n
  · have HO : Hid (okCode xs = false) := okCode_long (by omega)
    clear hnl
    go_enter Try.func55, Try.ntmps55
    go_wp2
    go_loop [4] (fun si => si = .int .i64 0) (fun _ => 0)
    case atStart => rfl
    case round =>
      obtain rfl := hrel
      by_cases h0 : 0 < xs.length
      · go_wp2
        go_ret
        exact ⟨ret_bool (by rw [HO.out]; exact decide_eq_false (by omega)), rfl⟩
      · go_wp2
        go_ret
        exact ⟨ret_bool (by rw [HO.out]; exact decide_eq_false (by omega)), rfl⟩
  · have hw2 : IntKind.i64.wrap ((n : Int) - 1) = (xs.length : Int) + 1 := by rw [IntWalk.i64_in _ (by omega)]; omega
    have hle : n ≤ 64 := by omega
    clear hnl
    go_enter Try.func55, Try.ntmps55
    go_wp2
    go_loop [4] (fun si => ∃ k : Nat, k ≤ xs.length ∧ si = .int .i64 k ∧ Hid (∀ x ∈ xs.take k, inB x 0 ((xs.length : Int) + 1) = true)) (fun si => xs.length - (intOf si).toNat)
    case atStart => exact ⟨0, Nat.zero_le _, rfl, fun x h => by simp at h⟩
    case round =>
      obtain ⟨k, hk, rfl, HALL⟩ := hrel
      by_cases hlt : k < xs.length
      · obtain ⟨x, hx⟩ := get_of_lt hlt
        obtain ⟨ad, rfl, hbl, hc⟩ := HA.out k x hx
        have HX := Lib.hid hx
        clear hx
        cases hb : inB x 0 ((xs.length : Int) + 1)
        · have HO : Hid (okCode xs = false) := okCode_bad HX.out hb
          go_wp2_with (go_at_call 62; refine (l00In_any _ _ _ _).mono ?_; rintro e w' ⟨rfl, rfl⟩; rw [hb])
          go_ret
          exact ⟨ret_bool HO.out.symm, rfl⟩
        · have HB := Lib.hid hb
          go_wp2_with (go_at_call 62; refine (l00In_any _ _ _ _).mono ?_; rintro e w' ⟨rfl, rfl⟩; rw [hb])
          go_round
          case rel =>
            refine ⟨k + 1, by omega, by go_num, fun y hy => ?_⟩
            rw [take_snoc HX.out, List.mem_append] at hy
            rcases hy with hy | hy
            · exact HALL.out y hy
            · simp at hy; subst hy; exact HB.out
          case measure => simp [intOf]; omega
      · have hke : k = xs.length := by omega
        have HO : Hid (okCode xs = true) := okCode_good (by have := HN.out; omega) (by have := HALL.out; rw [hke] at this; exact this)
        clear hke
        go_wp2
        go_ret
        exact ⟨ret_bool (by rw [HO.out]; first | rfl | exact decide_eq_true (by omega)), rfl⟩

/-- The first k numbers are 1, the rest 0. -/
def onesRow (n k : Nat) : List Int := List.replicate k 1 ++ List.replicate (n - k) 0
theorem onesRow_set {n k : Nat} (h : k < n) : (onesRow n k).set k 1 = onesRow n (k + 1) := by
  unfold onesRow
  rw [List.set_append_right _ _ (by simp), List.length_replicate, Nat.sub_self]
  obtain ⟨m, hm⟩ : ∃ m, n - k = m + 1 := ⟨n - k - 1, by omega⟩
  rw [hm, show n - (k + 1) = m by omega, List.replicate_succ, List.set_cons_zero, List.replicate_succ', List.append_assoc]
  rfl
theorem onesRow_end (n : Nat) : onesRow n n = List.replicate n 1 := by simp [onesRow]
theorem onesRow_len {n k : Nat} (h : k ≤ n) : (onesRow n k).length = n := by simp [onesRow]; omega

theorem one_mem {α : Type} {xs : List α} {k : Nat} {x : α} (h : xs[k]? = some x) : x ∈ xs := List.mem_of_getElem? h
/-- What the places of a tree's step hold. -/
theorem step_facts {n : Nat} {D rest : List Int} {cn : Nat} {d : Int} (hF : Fits n D ((cn : Int) :: rest)) (hd : D[cn]? = some d) :
    one1 D < n ∧ D[one1 D]? = some 1 ∧ cn < n ∧ (D.set (one1 D) 0)[cn]? = some d ∧ 2 ≤ d ∧ d ≤ 2 + rest.length ∧ stepD D (one1 D) cn = (D.set (one1 D) 0).set cn (d - 1) := by
  obtain ⟨d', hd', h2, hne, he⟩ := hF.get
  have hcn : ((cn : Int)).toNat = cn := by simp
  rw [hcn] at hd' hne
  rw [hd] at hd'
  cases hd'
  have hl := hF.leaf
  have h1 : (D.set (one1 D) 0)[cn]? = some d := by rw [List.getElem?_set_ne (Ne.symm hne)]; exact hd
  refine ⟨hl.1, hl.2, ?_, h1, h2, ?_, ?_⟩
  · have := lt_of_get hd
    have := hF.len
    omega
  · have := List.count_le_length (a := (cn : Int)) (l := rest)
    omega
  · unfold stepD
    rw [h1, Option.getD_some]

set_option maxHeartbeats 2000000 in
set_option maxRecDepth 100000 in
theorem l04Tree_any (v : Value) (xs : List Int) (hok : okCode xs = true) (w : World) (hr : Rd iV w v xs) :
    Calls Try.prog 56 #[v] w fun e w' => ∃ v', e = .returned v' ∧ Own iV 2 w' w.heap.size v' (inOrd (treeF xs)) ∧ Below w.heap.size w w' := by
  obtain ⟨hl64, hin⟩ := okCode_true hok
  have HR := Lib.hid hr
  obtain ⟨A, cap, rfl, hcap, hA⟩ := hr
  have HA := Lib.hid hA
  obtain ⟨n, hnl⟩ : ∃ n, n = xs.length + 2 := ⟨_, rfl⟩
  rw [← hnl] at hin hl64
  have HIN := Lib.hid hin
  have HN := Lib.hid hnl
  have hw : IntKind.i64.wrap ((xs.length : Int) + 2) = (n : Int) := by rw [IntWalk.i64_in _ (by omega)]; omega
  have hlx : xs.length ≤ 62 := by omega
  clear hA hnl hin hok
  go_enter Try.func56, Try.ntmps56
  go_wp2_with (at_make; go_loud (refine elI_.make _ rfl _ _ rfl .i64 .i64 _ _ n rfl rfl rfl rfl (by omega) (by omega) ?_))
  intro w1 ho1 hb1 hz1
  obtain ⟨g, hg⟩ : ∃ g, g = w.heap.size := ⟨_, rfl⟩
  have hR0 : RowI w1 g n n (onesRow n 0) := by
    have : RowI w1 w.heap.size n n (List.replicate n 0) := row_of_own (xs := List.replicate n 0) (by unfold Own; rw [List.length_replicate, List.map_replicate]; exact ho1)
    rw [hg]
    simpa [onesRow] using this
  have HG := Lib.hid hg
  rw [← hg]
  have hgz : w.heap.size ≤ g := by omega
  have hg1 : g < w1.heap.size := by omega
  clear ho1 hz1 hg
  go_wp2
  go_loopw [5] (fun si wr => ∃ k : Nat, k ≤ n ∧ si = .int .i64 k ∧ RowI wr g n n (onesRow n k) ∧ Below w.heap.size w wr) (fun si _ => n - (intOf si).toNat)
  case atStart => exact ⟨0, by omega, rfl, hR0, hb1⟩
  case round =>
    obtain ⟨k, hk, rfl, hR, hB⟩ := hrel
    clear hR0 hb1 hg1
    by_cases hlt : k < n
    · obtain ⟨d, hd⟩ := get_ex (xs := onesRow n k) (i := k) (by rw [onesRow_len hk]; exact hlt)
      have c1 := hR.at hd
      have f1 := hR.free k
      have hR2 := hR.put k 1
      rw [onesRow_set hlt] at hR2
      have HR2 := Lib.hid hR2
      clear hR hR2 hd
      go_wp2
      go_roundw
      case rel => exact ⟨k + 1, by omega, by go_num, HR2.out, below_set _ hB hgz⟩
      case measure => simp [intOf]; omega
    · have hkn : k = n := by omega
      rw [hkn, onesRow_end] at hR
      have hR' : RowI wr g n n (degA n (xs.take 0)) := hR
      have HR' := Lib.hid hR'
      clear hR hR' hkn
      go_wp2
      go_loopw [6] (fun si wr => ∃ k : Nat, k ≤ xs.length ∧ si = .int .i64 k ∧ RowI wr g n n (degA n (xs.take k)) ∧ Below w.heap.size w wr) (fun si _ => xs.length - (intOf si).toNat)
      case atStart => exact ⟨0, by omega, rfl, HR'.out, hB⟩
      case round =>
        obtain ⟨k, hk, rfl, hR, hB2⟩ := hrel
        by_cases hlt2 : k < xs.length
        · obtain ⟨x, hx⟩ := get_of_lt hlt2
          obtain ⟨cn, hcn⟩ : ∃ cn : Nat, x = (cn : Int) := ⟨x.toNat, by have := HIN.out x (one_mem hx); omega⟩
          subst hcn
          have hcl := HIN.out _ (one_mem hx)
          obtain ⟨ad, rfl, hbl, hc⟩ := HA.out k _ hx
          have c0 : wr.cell? (ad.add k) = some (iV (cn : Int)) := by rw [hB2.cell (by rw [add_block]; exact hbl)]; exact hc
          obtain ⟨d, hd⟩ := get_ex (xs := degA n (xs.take k)) (i := cn) (by rw [degA_len]; omega)
          have hdb := (degA_fits n (xs.take k) (fun c hc => HIN.out c (List.mem_of_mem_take hc))).2.1 _ _ hd
          have hcl2 := List.count_le_length (a := (cn : Int)) (l := xs.take k)
          rw [List.length_take] at hcl2
          have hw1 : IntKind.i64.wrap (d + 1) = d + 1 := IntWalk.i64_in _ (by omega)
          have c1 := hR.at hd
          have f1 := hR.free cn
          have hR2 := hR.put cn (d + 1)
          have e : (degA n (xs.take k)).set cn (d + 1) = degA n (xs.take (k + 1)) := by
            rw [take_snoc hx, degA_snoc]
            unfold incD
            rw [Int.toNat_natCast, hd, Option.getD_some]
          rw [e] at hR2
          have HR2 := Lib.hid hR2
          have hcn1 : (cn : Int) < (n : Int) := by omega
          clear hR hR2 hd e hdb hcl2 hx hc hcl
          go_wp2
          go_roundw
          case rel => exact ⟨k + 1, by omega, by go_num, HR2.out, below_set _ hB2 hgz⟩
          case measure => simp [intOf]; omega
        · have hkx : k = xs.length := by omega
          rw [hkx, List.take_length] at hR
          have hRS : RowI wr g n n (stAt (degA n xs) (xs.take 0)).1 := hR
          have HRS := Lib.hid hRS
          have hgw : g < wr.heap.size := hR.lt
          clear hR hRS hkx
          go_wp2
          have hO0 : Own iV 2 (wr.alloc (.cells #[] 2)) (g + 1) (.slice (some ⟨wr.heap.size, 0, none⟩) 0 0) [] := (own_nil_new iV wr 2).base_ (by omega)
          have hR0 : RowI (wr.alloc (.cells #[] 2)) g n n (stAt (degA n xs) (xs.take 0)).1 := HRS.out.below ((Below.refl _ _).alloc (Nat.le_refl _) _) hgw
          have hB0 : Below w.heap.size w (wr.alloc (.cells #[] 2)) := hB2.alloc hB2.size _
          generalize wr.alloc (.cells #[] 2) = wa at hO0 hR0 hB0 ⊢
          clear HRS hgw
          go_loopw [7, 8] (fun so si wr => ∃ k : Nat, k ≤ xs.length ∧ si = .int .i64 k ∧ RowI wr g n n (stAt (degA n xs) (xs.take k)).1 ∧ Own iV 2 wr (g + 1) so (stAt (degA n xs) (xs.take k)).2 ∧ Below w.heap.size w wr) (fun _ si _ => xs.length - (intOf si).toNat)
          case atStart => exact ⟨0, by omega, rfl, hR0, hO0, hB0⟩
          case round =>
            obtain ⟨k, hk, rfl, hR, hO, hB3⟩ := hrel
            clear hO0 hR0 hB0
            have hF := fits_at HN.out HIN.out k hk
            obtain ⟨S, hS⟩ : ∃ S, S = stAt (degA n xs) (xs.take k) := ⟨_, rfl⟩
            rw [← hS] at hF hR hO
            by_cases hlt3 : k < xs.length
            · obtain ⟨x, hx⟩ := get_of_lt hlt3
              obtain ⟨cn, hcn⟩ : ∃ cn : Nat, x = (cn : Int) := ⟨x.toNat, by have := HIN.out x (one_mem hx); omega⟩
              subst hcn
              obtain ⟨ad, rfl, hbl, hc⟩ := HA.out k _ hx
              have hdr : xs.drop k = (cn : Int) :: xs.drop (k + 1) := by rw [List.drop_eq_getElem_cons hlt3, (List.getElem?_eq_some_iff.1 hx).2]
              rw [hdr] at hF
              have hcl := HIN.out _ (one_mem hx)
              obtain ⟨d, hd⟩ := get_ex (xs := S.1) (i := cn) (by rw [hF.1.len]; omega)
              obtain ⟨z1, z2, z3, z4, z5, z6, z7⟩ := step_facts hF.1 hd
              have hSn : stAt (degA n xs) (xs.take (k + 1)) = (stepD S.1 (one1 S.1) cn, S.2 ++ [(one1 S.1 : Int), (cn : Int)]) := by
                rw [take_snoc hx, stAt_snoc, ← hS]
                unfold stp
                rw [Int.toNat_natCast]
              have HSn := Lib.hid hSn
              have HOL := Lib.hid hF.2
              have HFL := Lib.hid hF.1.len
              have HST := Lib.hid z7
              have HZ2 := Lib.hid z2
              have HZ4 := Lib.hid z4
              have hone1 := fun (j : Nat) (h : j < one1 S.1) (u : Int) (hu : S.1[j]? = some u) => one1_first h hu
              have HONE := Lib.hid hone1
              obtain ⟨leaf, hleaf⟩ : ∃ leaf, leaf = one1 S.1 := ⟨_, rfl⟩
              rw [← hleaf] at z1 HZ2 HZ4 HST HSn HONE
              have hlenS : (xs.drop (k + 1)).length ≤ 62 := by rw [List.length_drop]; omega
              have HX := Lib.hid hx
              have HR3 := Lib.hid hR
              have HO3 := Lib.hid hO
              clear hF hR hO hd hdr hx hS hSn z2 z4 z7 hone1 hleaf hcl
              go_wp2
              go_loop [9] (fun sj => ∃ j : Nat, j ≤ leaf ∧ sj = .int .i64 j) (fun sj => n + 1 - (intOf sj).toNat)
              case atStart => exact ⟨0, Nat.zero_le _, rfl⟩
              case round =>
                obtain ⟨j, hj, rfl⟩ := hrel
                by_cases hjl : j < leaf
                · obtain ⟨u, hu⟩ := get_ex (xs := S.1) (i := j) (by rw [HFL.out]; omega)
                  have hne := HONE.out j hjl u hu
                  have c1 := HR3.out.at hu
                  have hjn : (j : Int) < (n : Int) := by omega
                  clear hu
                  go_wp2
                  go_round
                  case rel => exact ⟨j + 1, by omega, by go_num⟩
                  case measure => simp [intOf]; omega
                · obtain rfl : j = leaf := by omega
                  have c1 := HR3.out.at HZ2.out
                  have c0 : wr.cell? (ad.add k) = some (iV (cn : Int)) := by rw [hB3.cell (by rw [add_block]; exact hbl)]; exact hc
                  have hjn : (j : Int) < (n : Int) := by omega
                  have hSl : S.2.length ≤ 200 := by rw [HOL.out]; omega
                  have hgw : g + 1 ≤ wr.heap.size := HR3.out.lt
                  clear hc
                  go_wp2_with (at_builtin; go_loud (refine elI_.app one_iV _ rfl (.tmp 53) (.tmp 59) rfl (g + 1) _ S.2 rfl (HO3.out.alloc _) _ [(j : Int), (cn : Int)] rfl (rd_two iV wr (j : Int) (cn : Int) 2) (by omega) (by simp; omega) (by simp; omega) ?_))
                  intro v2 w2 ho2 hg2 hb2 _
                  have hal : Below wr.heap.size wr (wr.alloc (.cells #[iV (j : Int), iV (cn : Int)] 2)) := (Below.refl _ _).alloc (Nat.le_refl _) _
                  have hR4 : RowI w2 g n n S.1 := (HR3.out.below hal hgw).below hb2 (by omega)
                  have hB4 : Below w.heap.size w w2 := hB3.trans ((hal.mono hB3.size).trans (hb2.mono (by omega)))
                  have c0 : w2.cell? (ad.add k) = some (iV (cn : Int)) := by rw [hB4.cell (by rw [add_block]; exact hbl), ← hB3.cell (by rw [add_block]; exact hbl)]; exact c0
                  have c1 := hR4.at HZ2.out
                  have f1 := hR4.free j
                  have hR5 := hR4.put j 0
                  have hB5 : Below w.heap.size w (w2.setCell ⟨g, j, none⟩ (jV 0)) := below_set _ hB4 hgz
                  have c3 : (w2.setCell ⟨g, j, none⟩ (jV 0)).cell? (ad.add k) = some (iV (cn : Int)) := by rw [hB5.cell (by rw [add_block]; exact hbl), ← hB4.cell (by rw [add_block]; exact hbl)]; exact c0
                  have c2 := hR5.at HZ4.out
                  have f2 := hR5.free cn
                  have hR6 := hR5.put cn (d - 1)
                  rw [← HST.out] at hR6
                  have hB6 := below_set (i := cn) (jV (d - 1)) hB5 hgz
                  have ho6 : Own iV 2 ((w2.setCell ⟨g, j, none⟩ (jV 0)).setCell ⟨g, cn, none⟩ (jV (d - 1))) (g + 1) v2 (S.2 ++ [(j : Int), (cn : Int)]) := ownI_set _ (ownI_set _ ho2 (by omega)) (by omega)
                  have hw1 : IntKind.i64.wrap (d - 1) = d - 1 := IntWalk.i64_in _ (by omega)
                  have HR6 := Lib.hid hR6
                  have HO6 := Lib.hid ho6
                  have hcn1 : (cn : Int) < (n : Int) := by omega
                  clear hR4 hR5 hR6 ho6 ho2 hg2 hb2 hal
                  go_wp2
                  go_roundw
                  case rel =>
                    refine ⟨k + 1, by omega, by go_num, ?_, ?_, hB6⟩
                    · rw [HSn.out]; exact HR6.out
                    · rw [HSn.out]; exact HO6.out
                  case measure => simp [intOf]; omega
            · have hkx : k = xs.length := by omega
              have hSe : S = stAt (degA n xs) xs := by rw [hS, hkx, List.take_length]
              rw [hkx, List.drop_length] at hF
              have HSE := Lib.hid hSe
              have HFF := Lib.hid hF.1
              have HOL : Hid (S.2.length = 2 * xs.length) := hF.2
              have HR3 := Lib.hid hR
              have hO3 : Own iV 2 wr (g + 1) u7 (S.2 ++ onesF (S.1.take 0) 0) := by simpa [onesF] using hO
              have HO3 := Lib.hid hO3
              clear hF hR hO hO3 hkx hSe hS
              go_wp2
              go_loopw [7, 10] (fun so si wr => ∃ i : Nat, i ≤ n ∧ si = .int .i64 i ∧ RowI wr g n n S.1 ∧ Own iV 2 wr (g + 1) so (S.2 ++ onesF (S.1.take i) 0) ∧ Below w.heap.size w wr) (fun _ si _ => n - (intOf si).toNat)
              case atStart => exact ⟨0, by omega, rfl, HR3.out, HO3.out, hB3⟩
              case round =>
                obtain ⟨i, hi, rfl, hR, hO, hB4⟩ := hrel
                clear HR3 HO3
                have HR3 := Lib.hid hR
                have HO3 := Lib.hid hO
                have hgw : g + 1 ≤ wr.heap.size := hR.lt
                by_cases hlt4 : i < n
                · obtain ⟨d, hd⟩ := get_ex (xs := S.1) (i := i) (by rw [HFF.out.len]; exact hlt4)
                  have c1 := hR.at hd
                  have hsn := onesF_snoc (S.1.take i) d 0
                  rw [← take_snoc hd, List.length_take, HFF.out.len, Nat.min_eq_left hi, Nat.zero_add] at hsn
                  have hjn : (i : Int) < (n : Int) := by omega
                  clear hR hO hd
                  by_cases h1 : d = 1
                  · have HSN : Hid (onesF (S.1.take (i + 1)) 0 = onesF (S.1.take i) 0 ++ [(i : Int)]) := by unfold Hid; rw [hsn, if_pos h1]
                    clear hsn
                    subst h1
                    have hOl : (S.2 ++ onesF (S.1.take i) 0).length ≤ 400 := by
                      rw [List.length_append, onesF_len]
                      have := List.countP_le_length (p := fun d => d == 1) (l := S.1.take i)
                      rw [List.length_take] at this
                      have := HOL.out
                      omega
                    go_wp2_with (at_builtin; go_loud (refine elI_.app one_iV _ rfl (.tmp 83) (.tmp 85) rfl (g + 1) _ (S.2 ++ onesF (S.1.take i) 0) rfl (HO3.out.alloc _) _ [(i : Int)] rfl (rd_one iV wr (i : Int) 2) (by omega) (by simp only [List.length_cons, List.length_nil]; omega) (by simp; omega) ?_))
                    intro v2 w2 ho2 hg2 hb2 _
                    have hal : Below wr.heap.size wr (wr.alloc (.cells #[iV (i : Int)] 2)) := (Below.refl _ _).alloc (Nat.le_refl _) _
                    have hR4 : RowI w2 g n n S.1 := (HR3.out.below hal hgw).below hb2 (by omega)
                    have hB5 : Below w.heap.size w w2 := hB4.trans ((hal.mono hB4.size).trans (hb2.mono (by omega)))
                    have HR4 := Lib.hid hR4
                    have HO4 := Lib.hid ho2
                    clear hR4 ho2 hg2 hb2 hal hOl
                    go_wp2
                    go_roundw
                    case rel =>
                      refine ⟨i + 1, by omega, by go_num, HR4.out, ?_, hB5⟩
                      rw [HSN.out]
                      first | exact HO4.out | (rw [← List.append_assoc]; exact HO4.out)
                    case measure => simp [intOf]; omega
                  · have HSN : Hid (onesF (S.1.take (i + 1)) 0 = onesF (S.1.take i) 0) := by unfold Hid; rw [hsn, if_neg h1]
                    clear hsn
                    go_wp2
                    go_roundw
                    case rel =>
                      refine ⟨i + 1, by omega, by go_num, HR3.out, ?_, hB4⟩
                      rw [HSN.out]
                      exact HO3.out
                    case measure => simp [intOf]; omega
                · have hin : i = n := by omega
                  have e : S.2 ++ onesF (S.1.take i) 0 = treeF xs := by
                    rw [hin, List.take_of_length_le (by rw [HFF.out.len]; exact Nat.le_refl _)]
                    unfold treeF
                    rw [← HN.out, ← HSE.out]
                  rw [e] at hO
                  have hlen : (treeF xs).length = 2 * (xs.length + 1) := by
                    obtain ⟨b, hb, _⟩ := HFF.out.two
                    rw [← e, hin, List.take_of_length_le (by rw [HFF.out.len]; exact Nat.le_refl _), hb, List.length_append, HOL.out]
                    simp
                    omega
                  have HSORT := Lib.hid (l04Sort_any u7 (treeF xs) _ hlen (by omega) wr hO.rd)
                  clear hR hO e hlen HR3 HO3 hin
                  go_wp2_with (go_at_call 65; refine HSORT.out.mono ?_; rintro e w5 ⟨v5, rfl, ho5, hb5⟩)
                  go_ret
                  exact ⟨_, rfl, ho5.base_ hB4.size, hB4.trans (hb5.mono hB4.size)⟩
end Go.Proofs.Ythdnelfggmlalaa
