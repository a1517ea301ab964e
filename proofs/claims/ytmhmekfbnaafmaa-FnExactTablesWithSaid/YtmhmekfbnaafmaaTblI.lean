/-
  Tables with sums told: what the program's maps of counts hold; the walk of the visit that impl.TablesWith hands to eachRow.
-/
import Derived.Test.YtmhmekfbnaafmaaMapK
import Derived.Test.YtmhmekfbnaafmaaTblT
import Derived.Test.YtmhmekfbnaafmaaOrdT
import Derived.Test.YtmhmekfbnaafmaaBox
namespace Go.Proofs.Ytmhmekfbnaafmaa
open Go.RowKit Go.Maps

def padZ (C : Nat) (u : List Nat) : List Nat := u ++ List.replicate (4 - C) 0
theorem padZ_len {C : Nat} (hC : C ≤ 4) {u : List Nat} (hu : u.length = C) : (padZ C u).length = 4 := by unfold padZ; simp; omega
theorem padZ_lt {C : Nat} {u : List Nat} (hu : ∀ x ∈ u, x < 25) : ∀ x ∈ padZ C u, x < 25 := fun x hx => by
  unfold padZ at hx
  rcases List.mem_append.1 hx with h | h
  · exact hu x h
  · rw [List.eq_of_mem_replicate h]; omega
theorem padZ_inj {C : Nat} {u v : List Nat} (h : padZ C u = padZ C v) : u = v := List.append_cancel_right h
theorem aV_inj {l l' : List Nat} (h : aV l = aV l') : l = l' := by
  unfold aV at h
  injection h with h
  have h2 : (l.map fun n : Nat => iV n) = l'.map fun n : Nat => iV n := by simpa using h
  exact List.map_inj_right (fun x y e => by injection e with _ e; omega) |>.1 h2
theorem K4_inj {l l' : List Nat} (h4 : l.length = 4) (h : ∀ x ∈ l, x < 25) (h4' : l'.length = 4) (h' : ∀ x ∈ l', x < 25) (e : K4 l = K4 l') : l = l' :=
  aV_inj (lawA.inj (keyOf4 h4 h) (by rw [e]; exact keyOf4 h4' h'))
/-- What a map of counts holds. -/
def MapT (C : Nat) (D : DataW Unit) (F : Nat → Nat) : Prop := ∀ u : List Nat, u.length = C → (∀ x ∈ u, x < 25) → D.atKey (K4 (padZ C u)) (.lit (.int .i64 0)) = .lit (.int .i64 (wrap64 ((F (code u) : Nat) : Int)))
def KeysT (C : Nat) (D : DataW Unit) : Prop := ∀ kl, has D kl = true → ∃ u : List Nat, u.length = C ∧ (∀ x ∈ u, x < 25) ∧ kl = K4 (padZ C u)
theorem KeysT.put {C : Nat} {D : DataW Unit} (h : KeysT C D) {u : List Nat} (hu : u.length = C) (hx : ∀ x ∈ u, x < 25) (d : DataW Unit) : KeysT C (D.put (K4 (padZ C u)) d) := fun kl hk => by
  by_cases e : kl = K4 (padZ C u)
  · exact ⟨u, hu, hx, e⟩
  · rw [has_put_other e] at hk
    exact h kl hk
theorem MapT.put {C : Nat} (hC : C ≤ 4) {D : DataW Unit} (hm : IsMap D) {F : Nat → Nat} (h : MapT C D F) {u : List Nat} (hu : u.length = C) (hx : ∀ x ∈ u, x < 25) {c : Int} {m : Nat}
    (hc : D.atKey (K4 (padZ C u)) (.lit (.int .i64 0)) = .lit (.int .i64 c)) :
    MapT C (D.put (K4 (padZ C u)) (.lit (.int .i64 (wrap64 (c + wrap64 (m : Int)))))) (fun n => F n + if code u = n then m else 0) := fun v hv hvx => by
  have e1 := h u hu hx
  rw [hc] at e1
  injection e1 with e1
  injection e1 with _ e1
  by_cases e : v = u
  · subst e
    show _ = DataW.lit (Lit.int .i64 (wrap64 ((F (code v) + (if code v = code v then m else 0) : Nat) : Int)))
    rw [atKey_put_same hm (K4_isKey _), if_pos rfl, e1, wrap64_add]
    congr 3
  · have hne : K4 (padZ C v) ≠ K4 (padZ C u) := fun e2 => e (padZ_inj (K4_inj (padZ_len hC hv) (padZ_lt hvx) (padZ_len hC hu) (padZ_lt hx) e2))
    have hce : code u ≠ code v := fun e2 => e (code_inj (hv.trans hu.symm) hvx hx e2.symm)
    show _ = DataW.lit (Lit.int .i64 (wrap64 ((F (code v) + (if code u = code v then m else 0) : Nat) : Int)))
    rw [atKey_put_other hne, h v hv hvx, if_neg hce, Nat.add_zero]

/-- The row taken away. -/
def subL (v xs : List Nat) : List Nat := List.zipWith (· - ·) v xs
theorem subL_len {v xs : List Nat} (h : xs.length = v.length) : (subL v xs).length = v.length := by unfold subL; simp; omega
theorem subL_lt {v xs : List Nat} (h : ∀ x ∈ v, x < 25) : ∀ x ∈ subL v xs, x < 25 := fun x hx => by
  unfold subL at hx
  rw [List.mem_iff_getElem?] at hx
  obtain ⟨i, hi⟩ := hx
  rw [List.getElem?_zipWith] at hi
  cases ha : v[i]? with
  | none => rw [ha] at hi; simp at hi
  | some a =>
    cases hb : xs[i]? with
    | none => rw [ha, hb] at hi; simp at hi
    | some b =>
      rw [ha, hb] at hi
      simp at hi
      have := h a (List.mem_of_getElem? ha)
      omega
/-- .. its first k numbers. -/
def subK (L xs : List Nat) (k : Nat) : List Nat := subL (L.take k) (xs.take k) ++ L.drop k
theorem subK_zero (L xs : List Nat) : subK L xs 0 = L := by simp [subK, subL]
theorem subK_all {C : Nat} {v xs : List Nat} (hv : v.length = C) (hx : xs.length = C) : subK (padZ C v) xs C = padZ C (subL v xs) := by
  unfold subK padZ
  rw [List.take_append_of_le_length (by omega), List.take_of_length_le (by omega), List.take_of_length_le (by omega), List.drop_append_of_le_length (by omega), List.drop_of_length_le (by omega)]
  rfl
theorem subK_len {L xs : List Nat} {k : Nat} (h1 : k ≤ L.length) (h2 : k ≤ xs.length) : (subK L xs k).length = L.length := by
  unfold subK subL; simp; omega
theorem subK_at {L xs : List Nat} {k a : Nat} (h1 : k ≤ xs.length) (ha : L[k]? = some a) : (subK L xs k)[k]? = some a := by
  have hk := lt_of_get ha
  unfold subK subL
  have hl : (List.zipWith (· - ·) (L.take k) (xs.take k)).length = k := by simp; omega
  rw [List.getElem?_append_right (by omega), hl, Nat.sub_self, List.getElem?_drop]
  exact ha
theorem subK_set {L xs : List Nat} {k a b : Nat} (ha : L[k]? = some a) (hb : xs[k]? = some b) : (subK L xs k).set k (a - b) = subK L xs (k + 1) := by
  have hk := lt_of_get ha
  have hk2 := lt_of_get hb
  unfold subK subL
  have hl : (List.zipWith (· - ·) (L.take k) (xs.take k)).length = k := by simp; omega
  rw [List.set_append_right _ _ (by omega), hl, Nat.sub_self, take_snoc ha, take_snoc hb, List.zipWith_append (by simp; omega), List.append_assoc, List.drop_eq_getElem_cons hk]
  rfl
theorem four_of {L : List Nat} (h : L.length = 4) : ∃ a b c d, L = [a, b, c, d] := by
  match L, h with
  | [a, b, c, d], _ => exact ⟨a, b, c, d, rfl⟩
theorem grown_of_below {w w' : World} (h : Below w.heap.size w w') (row : Option Nat) : w.grownBy w' row := ⟨h.os, h.tape, h.output, h.size, fun k hk _ => h.block k hk⟩
/-- Numbers as cells. -/
def nVs (L : List Nat) : List Value := L.map fun n : Nat => iV n

set_option maxRecDepth 100000 in
set_option maxHeartbeats 1600000 in
theorem visit_any (C : Nat) (hC : C ≤ 4) (u : Value) (xs v : List Nat) (hx : xs.length = C) (hv : v.length = C) (hlt : ∀ x ∈ v, x < 25) (hle : ∀ (i a b : Nat), v[i]? = some a → xs[i]? = some b → b ≤ a)
    (bl bx bm bn n m : Nat) (D : DataW Unit) (F : Nat → Nat) (hn : n + 1 < maxLen) (w : World) (hr : Rd iV w u (iL xs)) (hbl : BoxAt w bl (nVs (padZ C v))) (hbx : BoxAt w bx [.map (some bn)]) (hbm : BoxAt w bm [iV (wrap64 (m : Int))])
    (hown : ownsA w bn n D) (hD : MapT C D F) (hK : KeysT C D) :
    Calls Try.prog 56 #[u, .pointer (some ⟨bl, 0, none⟩), .pointer (some ⟨bx, 0, none⟩), .pointer (some ⟨bm, 0, none⟩)] w fun e w' =>
      e = .returned (.tuple #[]) ∧ ∃ D', ownsA w' bn (n + 1) D' ∧ MapT C D' (fun k => F k + if code (subL v xs) = k then m else 0) ∧ KeysT C D' ∧ w.grownBy w' (some bn) := by
  obtain ⟨A, cap, rfl, hcap, hA⟩ := hr
  rw [iL_len] at hcap ⊢
  have HA := Lib.hid hA
  obtain ⟨L, hL⟩ : ∃ L, L = padZ C v := ⟨_, rfl⟩
  have hL4 : L.length = 4 := by rw [hL]; exact padZ_len hC hv
  have hLlt : ∀ x ∈ L, x < 25 := by rw [hL]; exact padZ_lt hlt
  rw [← hL] at hbl
  obtain ⟨l0, l1, l2, l3, hLe⟩ := four_of hL4
  have c0 := hbl.cell 0 (iV l0) (by rw [hLe]; rfl)
  have c1 := hbl.cell 1 (iV l1) (by rw [hLe]; rfl)
  have c2 := hbl.cell 2 (iV l2) (by rw [hLe]; rfl)
  have c3 := hbl.cell 3 (iV l3) (by rw [hLe]; rfl)
  have HLE := Lib.hid hLe
  have HD := Lib.hid hD
  have HK := Lib.hid hK
  have HL := Lib.hid hL
  have HLT := Lib.hid hLlt
  have HLE2 := Lib.hid hle
  have HVL := Lib.hid hlt
  have HO := Lib.hid hown
  have HBX := Lib.hid hbx
  have HBM := Lib.hid hbm
  clear hA hLe hD hK hL hLlt hle hlt hown hbl hbx hbm
  go_enter Try.func56, Try.ntmps56
  go_wp2
  obtain ⟨b5, hb5⟩ : ∃ b5, b5 = w.heap.size := ⟨_, rfl⟩
  have hB0 : Below w.heap.size w (w.alloc (.cells #[iV l0, iV l1, iV l2, iV l3] 63)) := (Below.refl _ _).alloc (Nat.le_refl _) _
  have hX0 : BoxAt (w.alloc (.cells #[iV l0, iV l1, iV l2, iV l3] 63)) b5 (nVs (subK L xs 0)) := by
    rw [subK_zero, HLE.out, hb5]
    exact BoxAt.new w [iV l0, iV l1, iV l2, iV l3] _
  generalize w.alloc (.cells #[iV l0, iV l1, iV l2, iV l3] 63) = w1 at *
  rw [← hb5] at hB0 ⊢
  have HB5 := Lib.hid hb5
  clear hb5 c0 c1 c2 c3
  go_loopw [6, 7, 11] (fun _ _ sk wr => ∃ k : Nat, k ≤ C ∧ sk = .int .i64 k ∧ BoxAt wr b5 (nVs (subK L xs k)) ∧ Below b5 w wr) (fun _ _ sk _ => C - (intOf sk).toNat)
  case atStart => exact ⟨0, Nat.zero_le _, rfl, hX0, hB0⟩
  case round =>
    obtain ⟨k, hk, rfl, hX, hB⟩ := hrel
    clear hX0 hB0
    by_cases hlt : k < C
    · obtain ⟨x, hx1⟩ := get_of_lt (xs := xs) (k := k) (by omega)
      obtain ⟨a, ha1⟩ := get_of_lt (xs := L) (k := k) (by omega)
      obtain ⟨ad, rfl, hbl, hc⟩ := HA.out k x (iL_get hx1)
      have hc' : wr.cell? (ad.add k) = some (iV x) := by rw [hB.cell (by rw [add_block, HB5.out]; exact hbl)]; exact hc
      have ha25 := HLT.out a (List.mem_of_getElem? ha1)
      have hxa : x ≤ a := HLE2.out k a x (by have := ha1; rw [HL.out] at this; unfold padZ at this; rwa [List.getElem?_append_left (by omega)] at this) hx1
      have hs := subK_at (L := L) (xs := xs) (k := k) (by omega) ha1
      have hcell : (nVs (subK L xs k))[k]? = some (iV a) := by unfold nVs; rw [List.getElem?_map, hs]; rfl
      have c1 := hX.cell k _ hcell
      have f1 := hX.free k
      have hX2 := hX.set hcell (iV ((a - x : Nat) : Int))
      have e : (nVs (subK L xs k)).set k (iV ((a - x : Nat) : Int)) = nVs (subK L xs (k + 1)) := by
        rw [← subK_set ha1 hx1]; unfold nVs; rw [List.map_set]
      rw [e] at hX2
      have hw : IntKind.i64.wrap ((a : Int) - (x : Int)) = ((a - x : Nat) : Int) := by rw [IntWalk.i64_in _ (by omega)]; omega
      have HX2 := Lib.hid hX2
      have hB2 : Below b5 w (wr.setCell ⟨b5, k, none⟩ (iV ((a - x : Nat) : Int))) := hB.setCell (p := ⟨b5, k, none⟩) (Nat.le_refl _) _
      clear hX hX2 e hcell hs ha1 hx1 hc
      go_wp2
      go_roundw
      case rel => exact ⟨k + 1, by omega, by go_num, HX2.out, hB2⟩
      case measure => simp [intOf]; omega
    · have hkC : k = C := by omega
      subst hkC
      obtain ⟨R, hR⟩ : ∃ R, R = subK L xs k := ⟨_, rfl⟩
      rw [← hR] at hX
      have hR4 : R.length = 4 := by rw [hR, subK_len (by omega) (by omega)]; exact hL4
      have hRp : R = padZ k (subL v xs) := by rw [hR, HL.out, subK_all hv hx]
      obtain ⟨r0, r1, r2, r3, hRe⟩ := four_of hR4
      have c0 := hX.cell 0 (iV r0) (by rw [hRe]; rfl)
      have c1 := hX.cell 1 (iV r1) (by rw [hRe]; rfl)
      have c2 := hX.cell 2 (iV r2) (by rw [hRe]; rfl)
      have c3 := hX.cell 3 (iV r3) (by rw [hRe]; rfl)
      --BEGINREG
      have hOw : ownsA wr bn n D := HO.out.kept (row := none) (grown_of_below (by rw [← HB5.out]; exact hB) none) (by simp)
      have hbx1 := (HBX.out.below (by rw [← HB5.out]; exact hB)).cell 0 _ rfl
      have hbm1 := (HBM.out.below (by rw [← HB5.out]; exact hB)).cell 0 _ rfl
      go_wp2_with fail
      refine wp_region_T (fun w' => w'.cell? ⟨bx, 0, none⟩ = some (.map (some bn)) ∧ w'.cell? ⟨bm, 0, none⟩ = some (iV (wrap64 (m : Int))) ∧ w'.cell? ⟨b5, 0, none⟩ = some (iV r0) ∧ w'.cell? ⟨b5, 1, none⟩ = some (iV r1) ∧ w'.cell? ⟨b5, 2, none⟩ = some (iV r2) ∧ w'.cell? ⟨b5, 3, none⟩ = some (iV r3)) [5, 7] (by kernel_rfl) ⟨hbx1, hbm1, c0, c1, c2, c3⟩ (fun hS1 => ?_)
      simp only [List.size_toArray, List.length_cons, List.length_nil, Nat.reduceAdd]
      repeat (first | simp only [List.getElem_toArray] | simp only [List.getElem_cons_succ] | simp only [List.getElem_cons_zero] | simp only [Act.put] | simp only [List.setIfInBounds_toArray] | simp only [List.set_cons_succ] | simp only [List.set_cons_zero])
      refine wpAnyT_take (i := 0) (v := .map (some bn)) rfl (by kernel_rfl) (by kernel_rfl) (by kernel_rfl) (by kernel_rfl) (by kernel_rfl) (fun _ _ _ h => h) (Or.inl ⟨by rfl, ?_⟩) hS1 ?_
      · intro wq hq; obtain ⟨q0, q1, q2, q3, q4, q5⟩ := hq; go_simp
      repeat (first | simp only [List.getElem_toArray] | simp only [List.getElem_cons_succ] | simp only [List.getElem_cons_zero] | simp only [Act.put] | simp only [List.setIfInBounds_toArray] | simp only [List.set_cons_succ] | simp only [List.set_cons_zero])
      refine wpAnyT_take (i := 1) (v := .agg #[iV (r0 : Int), iV (r1 : Int), iV (r2 : Int), iV (r3 : Int)]) rfl (by kernel_rfl) (by kernel_rfl) (by kernel_rfl) (by kernel_rfl) (by kernel_rfl) (fun _ _ _ h => h) (Or.inl ⟨by rfl, ?_⟩) hS1 ?_
      · intro wq hq; obtain ⟨q0, q1, q2, q3, q4, q5⟩ := hq; go_simp
      repeat (first | simp only [List.getElem_toArray] | simp only [List.getElem_cons_succ] | simp only [List.getElem_cons_zero] | simp only [Act.put] | simp only [List.setIfInBounds_toArray] | simp only [List.set_cons_succ] | simp only [List.set_cons_zero])
      refine wpAnyT_take (i := 3) (v := iV (wrap64 (m : Int))) rfl (by kernel_rfl) (by kernel_rfl) (by kernel_rfl) (by kernel_rfl) (by kernel_rfl) (fun _ _ _ h => h) (Or.inl ⟨by rfl, ?_⟩) hS1 ?_
      · intro wq hq; obtain ⟨q0, q1, q2, q3, q4, q5⟩ := hq; go_simp
      repeat (first | simp only [List.getElem_toArray] | simp only [List.getElem_cons_succ] | simp only [List.getElem_cons_zero] | simp only [Act.put] | simp only [List.setIfInBounds_toArray] | simp only [List.set_cons_succ] | simp only [List.set_cons_zero])
      have hOd : ownsA wr.drew bn n D := hOw
      have hBd : Below b5 w wr.drew := hB.drew
      clear hS1 hOw hX c0 c1 c2 c3 hbx1 hbm1
      generalize wr.drew = wd at *
      obtain ⟨c, s0, w2, hE, hat, hl1, hl2, hg2, hst⟩ := entry_own hOd hn hR4 (by rw [hRp]; exact padZ_lt (subL_lt HVL.out))
      obtain ⟨w3, hS3, ho3, hg3⟩ := hst (wrap64 (c + wrap64 (m : Int))) (by unfold inI wrap64; omega)
      have hag : aV R = .agg #[iV (r0 : Int), iV (r1 : Int), iV (r2 : Int), iV (r3 : Int)] := by rw [hRe]; rfl
      rw [hag] at hE hl1 hl2
      clear hag
      have HS3 := Lib.hid hS3
      clear hst
      refine wpAnyT_ready (rs := [2, 5]) (by kernel_rfl) (by simp) ?_
      have hfin : ∃ D', ownsA w3 bn (n + 1) D' ∧ MapT k D' (fun j => F j + if code (subL v xs) = j then m else 0) ∧ KeysT k D' ∧ w.grownBy w3 (some bn) := by
        have hsl : (subL v xs).length = k := by rw [subL_len (by omega)]; exact hv
        have hslt : ∀ x ∈ subL v xs, x < 25 := subL_lt HVL.out
        rw [hRp] at ho3 hat
        exact ⟨_, ho3, HD.out.put hC hOd.isMap hsl hslt hat, HK.out.put hsl hslt _, grown_trans1 (grown_of_below (by rw [← HB5.out]; exact hBd) _) hg3⟩
      have HFIN := Lib.hid hfin
      clear hfin ho3 hat
      refine AllT.cons rfl (fun K hK => ?_) ?_
      · skip
        go_simp
        refine hK.out _ _ (fun h _ => h) ?_
        clear hK K
        repeat (first | simp only [List.getElem_toArray] | simp only [List.getElem_cons_succ] | simp only [List.getElem_cons_zero] | simp only [Act.put] | simp only [List.setIfInBounds_toArray] | simp only [List.set_cons_succ] | simp only [List.set_cons_zero])
        refine wpAnyT_takeY (i := 4) (v := ?_) rfl (by kernel_rfl) (by kernel_rfl) (by kernel_rfl) (fun _ _ _ h => h) (Or.inl ⟨by rfl, ?_⟩) ?_
        rotate_left
        · intro wq; first | (go_simp; done) | (go_simp; with_reducible rfl)
        repeat (first | simp only [List.getElem_toArray] | simp only [List.getElem_cons_succ] | simp only [List.getElem_cons_zero] | simp only [Act.put] | simp only [List.setIfInBounds_toArray] | simp only [List.set_cons_succ] | simp only [List.set_cons_zero])
        refine wpAnyT_ready (rs := [5]) (by kernel_rfl) (by simp) ?_
        refine AllT.cons rfl (fun K hK => ?_) AllT.nil
        go_simp
        refine hK.out _ _ (fun _ h => by cases h) ?_
        clear hK K
        repeat (first | simp only [List.getElem_toArray] | simp only [List.getElem_cons_succ] | simp only [List.getElem_cons_zero] | simp only [Act.put] | simp only [List.setIfInBounds_toArray] | simp only [List.set_cons_succ] | simp only [List.set_cons_zero])
        refine wpAnyT_takeY (i := 6) (v := ?_) rfl (by kernel_rfl) (by kernel_rfl) (by kernel_rfl) (fun _ _ _ h => h) (Or.inl ⟨by rfl, ?_⟩) ?_
        rotate_left
        · intro wq; first | (go_simp; done) | (go_simp; with_reducible rfl)
        repeat (first | simp only [List.getElem_toArray] | simp only [List.getElem_cons_succ] | simp only [List.getElem_cons_zero] | simp only [Act.put] | simp only [List.setIfInBounds_toArray] | simp only [List.set_cons_succ] | simp only [List.set_cons_zero])
        refine wpAnyT_ready (rs := [7]) (by kernel_rfl) (by simp) ?_
        refine AllT.cons rfl (fun K hK => ?_) AllT.nil
        have hS4 := HS3.out; rw [← IntWalk.i64_left (c + wrap64 (m : Int))] at hS4
        go_simp
        refine hK.out _ _ (fun _ h => by cases h) ?_
        clear hK K
        repeat (first | simp only [List.getElem_toArray] | simp only [List.getElem_cons_succ] | simp only [List.getElem_cons_zero] | simp only [Act.put] | simp only [List.setIfInBounds_toArray] | simp only [List.set_cons_succ] | simp only [List.set_cons_zero])
        refine wpAnyT_done (by kernel_rfl) ?_ _
        go_wp2_with fail
        first | go_end0 | refine bodyPost_ret (results_none rfl _ _ _) rfl ?_
        exact ⟨rfl, HFIN.out⟩
      refine AllT.cons rfl (fun K hK => ?_) AllT.nil
      go_simp
      refine hK.out _ _ (fun _ h => by cases h) ?_
      clear hK K
      repeat (first | simp only [List.getElem_toArray] | simp only [List.getElem_cons_succ] | simp only [List.getElem_cons_zero] | simp only [Act.put] | simp only [List.setIfInBounds_toArray] | simp only [List.set_cons_succ] | simp only [List.set_cons_zero])
      refine wpAnyT_takeY (i := 6) (v := ?_) rfl (by kernel_rfl) (by kernel_rfl) (by kernel_rfl) (fun _ _ _ h => h) (Or.inl ⟨by rfl, ?_⟩) ?_
      rotate_left
      · intro wq; first | (go_simp; done) | (go_simp; with_reducible rfl)
      repeat (first | simp only [List.getElem_toArray] | simp only [List.getElem_cons_succ] | simp only [List.getElem_cons_zero] | simp only [Act.put] | simp only [List.setIfInBounds_toArray] | simp only [List.set_cons_succ] | simp only [List.set_cons_zero])
      refine wpAnyT_ready (rs := [2]) (by kernel_rfl) (by simp) ?_
      refine AllT.cons rfl (fun K hK => ?_) AllT.nil
      go_simp
      refine hK.out _ _ (fun h _ => h) ?_
      clear hK K
      repeat (first | simp only [List.getElem_toArray] | simp only [List.getElem_cons_succ] | simp only [List.getElem_cons_zero] | simp only [Act.put] | simp only [List.setIfInBounds_toArray] | simp only [List.set_cons_succ] | simp only [List.set_cons_zero])
      refine wpAnyT_takeY (i := 4) (v := ?_) rfl (by kernel_rfl) (by kernel_rfl) (by kernel_rfl) (fun _ _ _ h => h) (Or.inl ⟨by rfl, ?_⟩) ?_
      rotate_left
      · intro wq; first | (go_simp; done) | (go_simp; with_reducible rfl)
      repeat (first | simp only [List.getElem_toArray] | simp only [List.getElem_cons_succ] | simp only [List.getElem_cons_zero] | simp only [Act.put] | simp only [List.setIfInBounds_toArray] | simp only [List.set_cons_succ] | simp only [List.set_cons_zero])
      refine wpAnyT_ready (rs := [7]) (by kernel_rfl) (by simp) ?_
      refine AllT.cons rfl (fun K hK => ?_) AllT.nil
      have hS4 := HS3.out; rw [← IntWalk.i64_left (c + wrap64 (m : Int))] at hS4
      go_simp
      refine hK.out _ _ (fun _ h => by cases h) ?_
      clear hK K
      repeat (first | simp only [List.getElem_toArray] | simp only [List.getElem_cons_succ] | simp only [List.getElem_cons_zero] | simp only [Act.put] | simp only [List.setIfInBounds_toArray] | simp only [List.set_cons_succ] | simp only [List.set_cons_zero])
      refine wpAnyT_done (by kernel_rfl) ?_ _
      go_wp2_with fail
      first | go_end0 | refine bodyPost_ret (results_none rfl _ _ _) rfl ?_
      exact ⟨rfl, HFIN.out⟩
end Go.Proofs.Ytmhmekfbnaafmaa
