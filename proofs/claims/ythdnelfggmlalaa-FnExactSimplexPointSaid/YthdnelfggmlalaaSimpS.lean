/-
  spec.l04Ascending: a list in order, as a row of the call's own.
-/
import Derived.Test.YthdnelfggmlalaaSimpP
import Derived.Test.YthdnelfggmlalaaApp
namespace Go.Proofs.Ythdnelfggmlalaa
open Go.RowKit
attribute [local go_sem] run_store_float

theorem own_row' {w : World} {base k : Nat} {v : Value} {xs : List Nat} (h : Own fV 56 w base v xs) (h1 : v.ownBlock = some k) : ∃ g c, v = .slice (some ⟨g, 0, none⟩) xs.length c ∧ base ≤ g ∧ RowF w g xs.length c xs := by
  rcases h.2 with ⟨e, _⟩ | ⟨g, cap, cur, e, h2, rest⟩
  · rw [e] at h1
    cases h1
  · exact ⟨g, cap, e, h2, h.1, .inr ⟨g, cap, cur, rfl, Nat.zero_le _, rest⟩⟩
def AscE (xs : List Nat) (w : World) (e : Ending) (w' : World) : Prop :=
  ∃ g c ys, e = .returned (.slice (some ⟨g, 0, none⟩) xs.length c) ∧ w.heap.size ≤ g ∧ RowF w' g xs.length c ys ∧ ys.Perm xs ∧ SR ltW 0 ys.length ys ∧ Below w.heap.size w w'
set_option maxHeartbeats 3200000 in
set_option maxRecDepth 100000 in
theorem l04Ascending_any (v : Value) (xs : List Nat) (hn : xs.length ≤ 1000) (hF : Fins xs) (w : World) (hr : Rd fV w v xs) :
    Calls Try.prog 43 #[v] w (AscE xs w) := by
  have HR := Lib.hid hr
  have HF := Lib.hid hF
  obtain ⟨A, cap, rfl, hcap, hA⟩ := hr
  clear hA hF
  go_enter Try.func43, Try.ntmps43
  go_wp2_with (at_builtin; go_loud (refine elF_.app (fun _ => rfl) _ rfl _ _ rfl w.heap.size _ [] rfl (own_nil_new fV _ _) _ xs rfl (HR.out.below (below_alloc _ _)) (by omega) (by simp; omega) (by simp) ?_))
  intro v' w1 ho hg hbb hp
  have hob : v'.ownBlock = some w.heap.size ∨ v'.ownBlock = some (w.heap.size + 1) := by
    rcases hp with h | h
    · exact .inl h
    · exact .inr h
  obtain ⟨g, c, rfl, hg2, hRow⟩ : ∃ g c, v' = .slice (some ⟨g, 0, none⟩) xs.length c ∧ w.heap.size ≤ g ∧ RowF w1 g xs.length c xs := by
    rcases hob with h | h
    · exact own_row' ho h
    · exact own_row' ho h
  have hb1 : Below w.heap.size w w1 := ((Below.refl _ _).alloc (Nat.le_refl _) _).trans hbb
  obtain ⟨n, hnn⟩ : ∃ n, n = xs.length := ⟨_, rfl⟩
  have HN := Lib.hid hnn
  rw [← hnn] at hRow hn ⊢
  have HRow := Lib.hid hRow
  have hws := hb1.size
  have HB1 := Lib.hid hb1
  clear ho hg hbb hp hob hRow hnn hb1
  go_wp2
  go_loopw [4] (fun si wr => ∃ (i : Nat) (ys : List Nat), si = .int .i64 i ∧ 1 ≤ i ∧ (i ≤ n ∨ i = 1) ∧ Hid (PR 0 n xs ys) ∧ Hid (SR ltW 0 i ys) ∧ RowF wr g n c ys ∧ Touch g (g + 1) w1 wr) (fun si _ => n + 2 - (intOf si).toNat)
  case atStart => exact ⟨1, xs, rfl, Nat.le_refl _, .inr rfl, PR.refl _ _ _, SR.small (Nat.le_refl _), HRow.out, touch_refl _ _ _⟩
  case round =>
    clear HRow
    obtain ⟨i, ys, rfl, hi1, hi2, hp, hs, hR, hTo⟩ := hrel
    have HRY := Lib.hid hR
    by_cases hlt : i < n
    · clear hR
      go_wp2_with fail
      go_loopw [5] (fun sj wr => ∃ (j : Nat) (zs : List Nat), sj = .int .i64 j ∧ j ≤ i ∧ Hid (PR 0 n xs zs) ∧ Hid (InsI 0 i j zs) ∧ RowF wr g n c zs ∧ Touch g (g + 1) w1 wr) (fun sj _ => (intOf sj).toNat)
      case atStart => exact ⟨i, ys, rfl, Nat.le_refl _, hp, InsI.start hs.out, HRY.out, hTo⟩
      case round =>
        clear HRY hTo hp hs
        obtain ⟨j, zs, rfl, hji, hpz, hI, hR, hTo⟩ := hrel
        have hzl := Lib.hid (hpz.out.len.trans HN.out.symm)
        have HR2 := Lib.hid hR
        by_cases hj0 : j = 0
        · subst hj0
          clear hR
          go_wp2_with fail
          go_quiet (fail)
          go_wp2_with fail
          go_roundw
          case rel => exact ⟨i + 1, zs, by go_num, by omega, .inl (by omega), hpz, hI.out.done (.inl rfl) (Nat.zero_le _) (by rw [hzl.out]; omega), HR2.out.drewN _, touch_drewN hTo _⟩
          case measure => simp [intOf]; omega
        obtain ⟨j', rfl⟩ : ∃ j', j = j' + 1 := ⟨j - 1, by omega⟩
        obtain ⟨x, hx⟩ := get_ex (xs := zs) (i := j' + 1) (by rw [hzl.out]; omega)
        obtain ⟨y, hy⟩ := get_ex (xs := zs) (i := j') (by rw [hzl.out]; omega)
        have c1 : wr.cell? ⟨g, j' + 1, none⟩ = some (fV x) := hR.at hx
        have c2 : wr.cell? ⟨g, j', none⟩ = some (fV y) := hR.at hy
        have fz := HF.out.perm hpz.out.perm
        have he : (FloatKind.f32.format.order x y == some .lt) = ltW x y := lt_ord (fz.at hx) (fz.at hy)
        have HX := Lib.hid hx
        have HY := Lib.hid hy
        have hjaz : decide ((j' : Int) + 1 > 0) = true := decide_eq_true (by omega)
        have hz0 : (0 : Int) ≤ (j' : Int) + 1 := by omega
        have hz1 : (j' : Int) + 1 < (n : Int) := by omega
        have hz2 : (j' : Int) < (n : Int) := by omega
        have hz3 : ((j' : Int) + 1).toNat = j' + 1 := by omega
        have hz4 : (j' : Int) + 1 - 1 = (j' : Int) := by omega
        have hz5 : (0 : Int) ≤ (j' : Int) := by omega
        have hz6 : IntKind.i64.wrap ((j' : Int)) = (j' : Int) := IntWalk.i64_in _ (by omega)
        clear hR hx hy fz
        cases hlc : ltW x y
        · have hq : (FloatKind.f32.format.order x y == some .lt) = false := by rw [he, hlc]
          have HLC := Lib.hid hlc
          clear he hlc
          go_wp2_with fail
          go_quiet (fail)
          go_wp2_with fail
          go_roundw
          case rel => exact ⟨i + 1, zs, by go_num, by omega, .inl (by omega), hpz, hI.out.done (.inr fun u v hu hv => by
              rw [HX.out] at hu
              rw [Nat.add_sub_cancel, HY.out] at hv
              cases hu
              cases hv
              exact HLC.out) (Nat.zero_le _) (by rw [hzl.out]; omega), HR2.out.drewN _, touch_drewN hTo _⟩
          case measure => simp [intOf]; omega
        · have hq : (FloatKind.f32.format.order x y == some .lt) = true := by rw [he, hlc]
          have HLC := Lib.hid hlc
          clear he hlc
          go_wp2_with fail
          go_quiet (fail)
          have hR3 := HR2.out.drewN nq
          have c1' := hR3.at HX.out
          have c2' := hR3.at HY.out
          have f1 := hR3.free j'
          have f2 := hR3.free (j' + 1)
          have hTT := touch_drewN hTo nq
          clear c1 c2
          generalize wr.drewN nq = w5 at hR3 c1' c2' f1 f2 hTT ⊢
          have HS := Lib.hid (hR3.sw (j' + 1) j' x y)
          clear hR3
          go_wp2_with fail
          go_roundw
          case rel => exact ⟨j', Go.Proofs.Ythdnelfggmlalaa.sw zs (j' + 1) j' x y, by go_num, by omega, hpz.out.trans (PR.sw HX.out HY.out (by omega) (by omega) (by omega) (by omega)), hI.out.step (by omega) (by omega) HX.out HY.out HLC.out, HS.out, hTT.trans (touch_swap _ _ _ _ _ _)⟩
          case measure => simp [intOf]
    · have hyl : ys.length = n := hp.out.len.trans HN.out.symm
      have HSS : Hid (SR ltW 0 ys.length ys) := by
        rw [hyl]
        rcases hi2 with h | h
        · have e : i = n := by omega
          rw [← e]; exact hs.out
        · exact SR.small (by omega)
      have HP := Lib.hid hp.out.perm
      clear hR hyl
      go_wp2
      go_ret
      exact ⟨g, c, ys, by rw [← HN.out] <;> rfl, hg2, by rw [← HN.out]; exact HRY.out, HP.out, HSS.out, touch_back HB1.out hTo hg2 HB1.out.size⟩
end Go.Proofs.Ythdnelfggmlalaa
