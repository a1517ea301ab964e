/-
  impl.byDegree: all numbers but one, by their degrees.
-/
import Derived.Test.YthdnelfggmlalaaLayD
import Derived.Test.YthdnelfggmlalaaGrW
import Derived.Test.YthdnelfggmlalaaSortP
import Derived.Test.YthdnelfggmlalaaStableW
import Derived.Lib.OwnBridge
namespace Go.Proofs.Ythdnelfggmlalaa
open Go.RowKit

def toI (ks : List Nat) : List Int := ks.map fun (k : Nat) => (k : Int)
theorem toI_len (ks : List Nat) : (toI ks).length = ks.length := by simp [toI]
theorem numI_toI (n : Nat) : numI n = toI (List.range n) := rfl
theorem enter_byD1 (args : Array Value) (w : World) : (callFunc 97 args).run Try.prog w = .ok (.enter 97 args) w := enter_of Try.func97 (by kernel_rfl) (by kernel_rfl) args w
theorem enter_byD2 (args : Array Value) (w : World) : (callFunc 99 args).run Try.prog w = .ok (.enter 99 args) w := enter_of Try.func99 (by kernel_rfl) (by kernel_rfl) args w
theorem byD1_any (x a : Int) (b : Nat) (w : World) (hc : w.cell? ⟨b, 0, none⟩ = some (iV a)) : Calls Try.prog 97 #[.int .i64 x, .pointer (some ⟨b, 0, none⟩)] w fun e w' => e = .returned (.bool (x == a)) ∧ w = w' := by
  by_cases h : x = a
  · subst h
    have HE : Hid ((x == x) = true) := beq_self_eq_true x
    go_enter Try.func97, Try.ntmps97
    go_wp2
    go_ret
    exact ⟨ret_bool (by first | rw [HE.out] | rfl), rfl⟩
  · have HE : Hid ((x == a) = false) := beq_eq_false_iff_ne.2 h
    go_enter Try.func97, Try.ntmps97
    go_wp2
    go_ret
    exact ⟨ret_bool (by first | rfl | rw [HE.out]), rfl⟩
theorem cmpI_q (x y : Int) (w : World) (k : Nat) : Calls Try.prog 100 #[iV x, iV y] (w.drewN k) fun e w'' => e = .returned (.int .i64 (cmpI x y)) ∧ ∃ m, w'' = w.drewN m := (compareI_any x y _).mono fun _ _ ⟨h1, h2⟩ => ⟨h1, k, h2.symm⟩
theorem byD2_any (L : List Int) (v : Value) (x y : Nat) (hx : x < L.length) (hy : y < L.length) (_hn : L.length ≤ 64) (b : Nat) (w : World) (hc : w.cell? ⟨b, 0, none⟩ = some v) (hr : Rd iV w v L) :
    Calls Try.prog 99 #[.int .i64 x, .int .i64 y, .pointer (some ⟨b, 0, none⟩)] w fun e w' => e = .returned (.int .i64 (cmpI (lv L y) (lv L x))) ∧ ∃ m, w' = w.drewN m := by
  obtain ⟨A, cap, rfl, hcap, hA⟩ := hr
  obtain ⟨ad, rfl, hbl, c1⟩ := hA x _ (get_lv hx)
  obtain ⟨ad', e, hbl', c2⟩ := hA y _ (get_lv hy)
  cases e
  have hx1 : (x : Int) < (L.length : Int) := by omega
  have hy1 : (y : Int) < (L.length : Int) := by omega
  have HC := Lib.hid (cmpI_q (lv L y) (lv L x) w)
  obtain ⟨q, hq⟩ : ∃ q, q = cmpI (lv L y) (lv L x) := ⟨_, rfl⟩
  rw [← hq] at HC ⊢
  clear hA hq
  go_enter Try.func99, Try.ntmps99
  go_wp2_with fail
  go_quiet (exact HC.out _)
  go_wp2
  go_ret
  exact ⟨rfl, _, rfl⟩

theorem ahd_trans (L : List Int) (a b c : Nat) (h : ahd L a b = true) (k : ahd L b c = true) : ahd L a c = true := by
  unfold ahd at *
  have := of_decide_eq_true h
  have := of_decide_eq_true k
  exact decide_eq_true (by omega)
theorem cmpI_neg (x y : Int) : decide (cmpI x y < 0) = decide (x < y) := by
  unfold cmpI
  by_cases h : x < y
  · rw [if_pos h, decide_eq_true h]; rfl
  · rw [if_neg h, decide_eq_false h]
    split <;> rfl
theorem tells_deg (L : List Int) (a : Nat) : TellsAll (fun x y => ahd L x.toNat y.toNat) (fun x y => cmpI (lv L y.toNat) (lv L x.toNat)) (toI ((List.range L.length).filter (fun k => k != a))) := by
  unfold TellsAll toI
  rw [List.pairwise_map]
  refine (List.pairwise_lt_range.filter _).imp ?_
  intro x y hxy
  simp only [Int.toNat_natCast]
  rw [cmpI_neg]
  unfold ahd
  constructor
  · rw [decide_eq_decide]; omega
  · by_cases h : lv L x > lv L y ∨ lv L x = lv L y ∧ x < y
    · rw [decide_eq_true h, decide_eq_false (by omega)]; rfl
    · rw [decide_eq_false h, decide_eq_true (by omega)]; rfl
theorem ord_of_up {L : List Int} {a : Nat} {R : List Int} (hU : Up (fun x y => ahd L x.toNat y.toNat) R) (hP : R.Perm (toI ((List.range L.length).filter (fun k => k != a)))) : R = toI (ordL L a) := by
  have h0 : toI (R.map Int.toNat) = R := by
    unfold toI
    rw [List.map_map]
    conv => rhs; rw [← List.map_id R]
    apply List.map_congr_left
    intro x hx
    have := hP.mem_iff.1 hx
    unfold toI at this
    rw [List.mem_map] at this
    obtain ⟨k, _, rfl⟩ := this
    simp
  have h1 : (R.map Int.toNat).Perm ((List.range L.length).filter (fun k => k != a)) := by
    have := hP.map Int.toNat
    unfold toI at this
    rw [List.map_map] at this
    rwa [show (Int.toNat ∘ fun (k : Nat) => (k : Int)) = id from funext fun k => by simp, List.map_id] at this
  have h2 : (R.map Int.toNat).Pairwise (fun a b => ahd L b a = false) := by
    rw [List.pairwise_map]
    exact List.Pairwise.imp (fun h => (ahd_less L).asym _ _ h) hU
  rw [← h0, ordL_of h1 h2]
theorem filt_toI (n a : Nat) : (toI (List.range n)).filter (fun x => !(x == (a : Int))) = toI ((List.range n).filter (fun k => k != a)) := by
  unfold toI
  rw [List.filter_map]
  congr 1
  apply List.filter_congr
  intro k _
  simp only [Function.comp]
  by_cases h : k = a
  · subst h; simp
  · have h1 : ¬ (k : Int) = (a : Int) := by omega
    have h2 : (k != a) = true := by simp [h]
    rw [h2, beq_eq_false_iff_ne.2 h1]
    rfl
theorem putRow_sortWorld {α : Type} [Inhabited α] (enc : α → Value) (w : World) (q g : Nat) (d : Array α) : Go.Sort.putRow enc (Go.Sort.ahead w q) g 0 d = sortWorld enc w g 0 q d #[] := by unfold sortWorld; rw [Go.Sort.grow_empty]
theorem cell_sortWorld {α : Type} [Inhabited α] {enc : α → Value} {w : World} {blk off m : Nat} {dk : Array α} {os : Array Obj} {p : Addr} (hk : p.block < w.heap.size) (hb : p.block ≠ blk) : (sortWorld enc w blk off m dk os).cell? p = w.cell? p := by
  unfold World.cell?
  rw [heap_sortWorld hk hb]

set_option maxHeartbeats 1000000 in
set_option maxRecDepth 100000 in
theorem byDegree_any (v : Value) (L : List Int) (a : Nat) (ha : a < L.length) (hn : L.length ≤ 64) (w : World) (hr : Rd iV w v L) :
    Calls Try.prog 74 #[v, .int .i64 a] w fun e w' => ∃ v', e = .returned v' ∧ Own iV 2 w' w.heap.size v' (toI (ordL L a)) ∧ Below w.heap.size w w' := by
  have HR := Lib.hid hr
  obtain ⟨A, cap, rfl, hcap, hA⟩ := hr
  obtain ⟨n, hnl⟩ : ∃ n, n = L.length := ⟨_, rfl⟩
  have HN := Lib.hid hnl
  have hw : IntKind.i64.wrap ((L.length : Int) - 1) = (n : Int) - 1 := by rw [IntWalk.i64_in _ (by omega)]; omega
  clear hA
  go_enter Try.func74, Try.ntmps74
  have B1 : Below w.heap.size w ((w.alloc (.cells #[.slice A L.length cap] 36)).alloc (.cells #[iV (a : Int)] 2)) := ((Below.refl _ _).alloc (Nat.le_refl _) _).alloc (by simp) _
  have z1 : ((w.alloc (.cells #[.slice A L.length cap] 36)).alloc (.cells #[iV (a : Int)] 2)).heap.size = w.heap.size + 2 := by simp
  have k1 : ((w.alloc (.cells #[.slice A L.length cap] 36)).alloc (.cells #[iV (a : Int)] 2)).cell? ⟨w.heap.size, 0, none⟩ = some (.slice A L.length cap) := by simp
  have k2 : ((w.alloc (.cells #[.slice A L.length cap] 36)).alloc (.cells #[iV (a : Int)] 2)).cell? ⟨w.heap.size + 1, 0, none⟩ = some (iV (a : Int)) := by simp
  go_wp2_with fail
  generalize (w.alloc (.cells #[.slice A L.length cap] 36)).alloc (.cells #[iV (a : Int)] 2) = w1 at B1 z1 k1 k2 ⊢
  refine (numbersI_any L.length (by omega) _ rfl w1).mono ?_
  rintro e w2 ⟨v2, rfl, ho2, hb2⟩
  obtain ⟨g, c, rfl, hcc, hg1, hg2⟩ := ho2.form (by rw [numI_len]; omega)
  obtain ⟨g', c', e, -, -, -, hmx, -, hH⟩ := Lib.holds_of_ownsRow (enc := iV) ho2 (by simp)
  cases e
  have hds : (numI L.length).toArray.size = L.length := by simp [numI_len]
  have hB2 : Below w.heap.size w w2 := B1.trans (hb2.mono B1.size)
  have m1 : w2.cell? ⟨w.heap.size, 0, none⟩ = some (.slice A L.length cap) := by rw [hb2.cell (by simp only; omega)]; exact k1
  have m2 : w2.cell? ⟨w.heap.size + 1, 0, none⟩ = some (iV (a : Int)) := by rw [hb2.cell (by simp only; omega)]; exact k2
  have zw : w1.heap.size ≤ w2.heap.size := hb2.size
  have hpr : PredAt Try.prog 97 #[.pointer (some ⟨w.heap.size + 1, 0, none⟩)] iV (fun x => x == (a : Int)) w2 := fun W x hb =>
    (byD1_any x a _ W (by rw [hb.cell (by simp only; omega)]; exact m2)).mono fun _ _ ⟨h1, h2⟩ => ⟨h1, 0, h2.symm⟩
  have hpo : PredOver Try.prog 97 #[.pointer (some ⟨w.heap.size + 1, 0, none⟩)] iV (fun x => x == (a : Int)) g 0 (numI L.length).toArray.size w2 := fun q os dk x _ =>
    (byD1_any x a _ _ (by rw [cell_sortWorld (by simp only; omega) (by simp only; omega)]; exact m2)).mono fun _ _ ⟨h1, h2⟩ => ⟨h1, 0, h2.symm⟩
  have hdel := AnyE.slices_DeleteFunc delF iV (fun _ => rfl) (fun x => x == (a : Int)) 97 #[.pointer (some ⟨w.heap.size + 1, 0, none⟩)] (fun args w => enter_byD1 args w) 0 (fun w => by first | exact Try.zeroValue2 w | kernel_rfl)
    g 0 c (numI L.length).toArray w2 hpr hpo hH (by rw [hds]; omega) (by rw [hds]; rw [numI_len] at hcc; exact hcc)
  rw [hds] at hdel
  dsimp only at hdel
  rw [numI_toI, filt_toI] at hdel
  change Calls Try.prog 96 _ _ _ at hdel
  obtain ⟨D, hD⟩ : ∃ D, D = toI ((List.range L.length).filter (fun k => k != a)) := ⟨_, rfl⟩
  rw [← hD] at hdel
  have hDl : D.length ≤ L.length := by
    rw [hD, toI_len]
    have := List.length_filter_le (fun k => k != a) (List.range L.length)
    rwa [List.length_range] at this
  have HDEL := Lib.hid hdel
  have HD := Lib.hid hD
  have HO2 := Lib.hid ho2
  have hg0 : w.heap.size + 2 ≤ g := by omega
  rw [numI_len]
  clear hpr hpo hdel hD hH ho2 hb2 B1 k1 k2 hnl
  go_wp2_with fail
  refine HDEL.out.mono ?_
  rintro e w3 ⟨rfl, q, hw3⟩
  have hrow : RowI w3 g D.length c D := by
    have h := Lib.ownsRow_putRow (enc := iV) (q := q) (k := D.length) (ys := D ++ List.replicate (L.length - D.length) 0) (by have := HO2.out; unfold Own at this; rw [numI_len] at this; exact this) (by rw [List.length_append, List.length_replicate]; omega) hDl
    rw [List.take_append_of_le_length (Nat.le_refl _), List.take_length] at h
    rw [hw3]
    exact own_base h (Nat.zero_le _)
  have hT3 : Touch g (g + 1) w2 w3 := by rw [hw3, putRow_sortWorld]; exact touch_sortWorld
  have n1 : w3.cell? ⟨w.heap.size, 0, none⟩ = some (.slice A L.length cap) := by rw [hT3.cell (by simp only; omega) (.inl (by simp only; omega))]; exact m1
  have hB3 : Below w.heap.size w w3 := hB2.trans (hT3.below (by omega) (by omega))
  have hcmp : CmpOk 99 #[.pointer (some ⟨w.heap.size, 0, none⟩)] (fun x y => cmpI (lv L y.toNat) (lv L x.toNat)) D g w3 := by
    intro w' x y ht hx hy m
    have nat_of : ∀ {z : Int}, z ∈ D → ∃ k : Nat, z = k ∧ k < L.length := fun {z} hz => by
      rw [HD.out] at hz
      unfold toI at hz
      rw [List.mem_map] at hz
      obtain ⟨k, hk, rfl⟩ := hz
      exact ⟨k, rfl, List.mem_range.1 (List.mem_filter.1 hk).1⟩
    obtain ⟨kx, rfl, hkx⟩ := nat_of hx
    obtain ⟨ky, rfl, hky⟩ := nat_of hy
    have hc' : (w'.drewN m).cell? ⟨w.heap.size, 0, none⟩ = some (.slice A L.length cap) := by
      show w'.cell? _ = _
      rw [ht.cell (by have := hrow.lt; simp only; omega) (.inl (by simp only; omega))]
      exact n1
    have hr' : Rd iV (w'.drewN m) (.slice A L.length cap) L := (HR.out.below (hB3.trans (ht.below (by omega) (by have := hrow.lt; omega)))).drewN m
    refine (byD2_any L _ kx ky hkx hky hn _ (w'.drewN m) hc' hr').mono ?_
    rintro e w'' ⟨h1, p, h2⟩
    exact ⟨by simpa using h1, m + p, by rw [h2, World.drewN_drewN]⟩
  have hsort := sortStable_any (fun x y => ahd L x.toNat y.toNat) (fun x y z => ahd_trans L x.toNat y.toNat z.toNat) (fun x y => cmpI (lv L y.toNat) (lv L x.toNat)) 99 #[.pointer (some ⟨w.heap.size, 0, none⟩)] D g D.length c (fun args w => enter_byD2 args w) (by omega) (by rw [HD.out]; exact tells_deg L a) w3 hcmp hrow
  have HSORT := Lib.hid hsort
  have hg3 := hrow.lt
  clear hsort hcmp hrow hw3 n1 hT3 m1 m2
  go_wp2_with fail
  refine HSORT.out.mono ?_
  rintro e w4 ⟨R, rfl, hU, hP, hrow4, hT4⟩
  have hR : R = toI (ordL L a) := ord_of_up hU (by rw [← HD.out]; exact hP)
  have hRl := hrow4.len
  have hB4 : Below w.heap.size w w4 := hB3.trans (hT4.below (by omega) (by omega))
  have ho4 := own_of_row (base := w.heap.size) hrow4 (by omega)
  rw [hR] at ho4
  have HO4 := Lib.hid ho4
  clear ho4 hrow4 hU hP hR hRl hT4
  go_wp2
  go_ret
  exact ⟨_, rfl, HO4.out, hB4⟩
end Go.Proofs.Ythdnelfggmlalaa
