/-
  The walks of spec.StairGap and impl.StairGap.
-/
import Derived.Test.YtepiioegiicebaaBoth
namespace Go.Proofs.Ytepiioegiicebaa
open Go.RowKit

/-- The gap at x. -/
def gapAt (xa xb : List Int) (x : Int) : Int := (xb.length : Int) * atM xa x - (xa.length : Int) * atM xb x
/-- The greatest gap at the numbers of a list. -/
def gapTo (xa xb : List Int) (l : List Int) : Int := l.foldl (fun m x => max (max m (gapAt xa xb x)) (-(gapAt xa xb x))) 0
theorem gapTo_snoc (xa xb l : List Int) (x : Int) : gapTo xa xb (l ++ [x]) = max (max (gapTo xa xb l) (gapAt xa xb x)) (-(gapAt xa xb x)) := by simp [gapTo]
theorem gapAt_bd {xa xb : List Int} (h : xa.length + xb.length ≤ 40) (x : Int) : -1600 ≤ gapAt xa xb x ∧ gapAt xa xb x ≤ 1600 ∧ 0 ≤ (xb.length : Int) * atM xa x ∧ (xb.length : Int) * atM xa x ≤ 1600 ∧ 0 ≤ (xa.length : Int) * atM xb x ∧ (xa.length : Int) * atM xb x ≤ 1600 := by
  have a1 := atM_bd x xa
  have a2 := atM_bd x xb
  have h1 : 0 ≤ (xb.length : Int) * atM xa x := Int.mul_nonneg (by omega) a1.1
  have h2 : 0 ≤ (xa.length : Int) * atM xb x := Int.mul_nonneg (by omega) a2.1
  have h3 : (xb.length : Int) * atM xa x ≤ 40 * 40 := Int.mul_le_mul (by omega) (by omega) a1.1 (by omega)
  have h4 : (xa.length : Int) * atM xb x ≤ 40 * 40 := Int.mul_le_mul (by omega) (by omega) a2.1 (by omega)
  unfold gapAt
  omega
theorem gapTo_bd {xa xb : List Int} (h : xa.length + xb.length ≤ 40) (l : List Int) : 0 ≤ gapTo xa xb l ∧ gapTo xa xb l ≤ 1600 := by
  have H : ∀ (l : List Int) (m : Int), 0 ≤ m → m ≤ 1600 → 0 ≤ l.foldl (fun m x => max (max m (gapAt xa xb x)) (-(gapAt xa xb x))) m ∧ l.foldl (fun m x => max (max m (gapAt xa xb x)) (-(gapAt xa xb x))) m ≤ 1600 := by
    intro l
    induction l with
    | nil => intro m h1 h2; exact ⟨h1, h2⟩
    | cons x l ih =>
      intro m h1 h2
      have := gapAt_bd h x
      refine ih _ ?_ ?_ <;> dsimp only <;> omega
  exact H l 0 (by omega) (by omega)

def sgN (xs ys : List Int) : Int := if bothB 40 xs ys then gapTo xs ys (xs ++ ys) else 0
def RetStairGap (xs ys : List Int) (w : World) (e : Ending) (w' : World) : Prop :=
  e = .returned (.tuple #[.int .i64 (sgN xs ys), .bool (bothB 40 xs ys)]) ∧ Below w.heap.size w w'

set_option maxHeartbeats 1000000 in
theorem implStairGap_any (u : Value) (xa : List Int) (ha : xa.length ≤ 1099511627776) (v : Value) (xb : List Int) (hb : xb.length ≤ 1099511627776) (w : World) (hr : Rd iV w u xa) (hs : Rd iV w v xb) :
    Calls Try.prog 38 #[u, v] w (RetStairGap xa xb w) := by
  have HA := Lib.hid hr
  have HB := Lib.hid hs
  obtain ⟨A1, c1, rfl, hc1, hA1⟩ := hr
  obtain ⟨A2, c2, rfl, hc2, hA2⟩ := hs
  clear hA1 hA2
  cases h : bothB 40 xa xb
  · go_enter Try.func38, Try.ntmps38
    go_wp2_with (go_at_call 67; go_loud (refine (areSamples_any _ _ xa xb 40 (by omega) ha hb _ HA.out HB.out).mono ?_); rintro e w' ⟨rfl, n, rfl⟩; rw [h])
    go_ret2
    exact ⟨ret_ib (by unfold sgN; rw [h]; rfl) h.symm, below_of_drew ⟨_, rfl⟩⟩
  · obtain ⟨g1, g2, g3⟩ := both_parts h
    have g4 := smp_len g1
    have g5 := smp_len g2
    go_enter Try.func38, Try.ntmps38
    go_wp2_with (go_at_call 67; go_loud (refine (areSamples_any _ _ xa xb 40 (by omega) ha hb _ HA.out HB.out).mono ?_); rintro e w' ⟨rfl, n, rfl⟩; rw [h])
    go_wp2_with fail
    refine (concat2_any _ _ xa xb (by omega) (by omega) (w.drewN n) (HA.out.drewN n) (HB.out.drewN n)).mono ?_
    rintro e w1 ⟨v1, rfl, o1, b1⟩
    have hT : Below w.heap.size w w1 := below_to (below_of_drew ⟨n, rfl⟩) b1 (Nat.le_refl _)
    have hll : (xa ++ xb).length = xa.length + xb.length := by simp
    obtain ⟨g, cap, rfl, hcap, hg, hgl⟩ := o1.form (by omega)
    have HO := Lib.hid o1.rd
    have HLL := Lib.hid hll
    clear o1 b1 hll
    obtain ⟨L, hL⟩ : ∃ L, L = xa ++ xb := ⟨_, rfl⟩
    rw [← hL] at HO HLL hcap ⊢
    have HLe := Lib.hid hL
    clear hL
    have hLn : L.length ≤ 40 := by have := HLL.out; omega
    go_wp2
    go_loop [6, 19] (fun sm si => ∃ k : Nat, k ≤ L.length ∧ si = .int .i64 k ∧ sm = .int .i64 (gapTo xa xb (L.take k))) (fun _ si => L.length - (intOf si).toNat)
    case atStart => exact ⟨0, by omega, rfl, rfl⟩
    case round =>
      obtain ⟨k, hk, rfl, rfl⟩ := hrel
      by_cases hlt : k < L.length
      · obtain ⟨x, hx⟩ := get_of_lt hlt
        obtain ⟨A3, c3, e3, _, hA3⟩ := HO.out
        cases e3
        obtain ⟨ad, e4, hbl, hc⟩ := hA3 k x hx
        cases e4
        rw [Addr.add_lit, Nat.zero_add] at hc
        have hb1 := gapAt_bd g3 x
        have hb2 := gapTo_bd g3 (L.take k)
        have hsn := gapTo_snoc xa xb (L.take k) x
        rw [← take_snoc hx] at hsn
        have HS := Lib.hid hsn
        have HGA : Hid (gapAt xa xb x = (xb.length : Int) * atM xa x - (xa.length : Int) * atM xb x) := rfl
        clear hx hA3 hsn
        go_wp2_with fail
        refine (atMost_any _ xa x (by omega) _ (HA.out.below hT)).mono ?_
        rintro e w2 ⟨rfl, rfl⟩
        go_wp2_with fail
        refine (atMost_any _ xb x (by omega) _ (HB.out.below hT)).mono ?_
        rintro e w2 ⟨rfl, rfl⟩
        go_wp2
        go_round
        case rel => exact ⟨k + 1, by omega, by go_num, by rw [HS.out, HGA.out]; congr 1; simp only [Int.max_def]; repeat' split; all_goals omega⟩
        case measure => simp [intOf]; omega
      · have hke : k = L.length := by omega
        have HK := Lib.hid hke
        clear hke
        go_wp2
        go_ret2
        exact ⟨ret_ib (by unfold sgN; rw [h, HK.out, List.take_length, HLe.out]; rfl) h.symm, hT⟩

set_option maxHeartbeats 1000000 in
theorem specStairGap_any (u : Value) (xa : List Int) (ha : xa.length ≤ 1099511627776) (v : Value) (xb : List Int) (hb : xb.length ≤ 1099511627776) (w : World) (hr : Rd iV w u xa) (hs : Rd iV w v xb) :
    Calls Try.prog 37 #[u, v] w (RetStairGap xa xb w) := by
  have HA := Lib.hid hr
  have HB := Lib.hid hs
  obtain ⟨A1, c1, rfl, hc1, hA1⟩ := hr
  obtain ⟨A2, c2, rfl, hc2, hA2⟩ := hs
  clear hA1 hA2
  cases h : bothB 40 xa xb
  · go_enter Try.func37, Try.ntmps37
    go_wp2_with (go_at_call 64; go_loud (refine (l06Both_any _ _ xa xb ha hb _ HA.out HB.out).mono ?_); rintro e w' ⟨rfl, n, rfl⟩; rw [h])
    go_ret2
    exact ⟨ret_ib (by unfold sgN; rw [h]; rfl) h.symm, below_of_drew ⟨_, rfl⟩⟩
  · obtain ⟨g1, g2, g3⟩ := both_parts h
    have g4 := smp_len g1
    have g5 := smp_len g2
    go_enter Try.func37, Try.ntmps37
    go_wp2_with (go_at_call 64; go_loud (refine (l06Both_any _ _ xa xb ha hb _ HA.out HB.out).mono ?_); rintro e w' ⟨rfl, n, rfl⟩; rw [h])
    go_wp2_with fail
    refine (l06Joined_any _ _ xa xb (by omega) (w.drewN n) (HA.out.drewN n) (HB.out.drewN n)).mono ?_
    rintro e w1 ⟨v1, rfl, o1, b1⟩
    have hT : Below w.heap.size w w1 := below_to (below_of_drew ⟨n, rfl⟩) b1 (Nat.le_refl _)
    have hll : (xa ++ xb).length = xa.length + xb.length := by simp
    obtain ⟨g, cap, rfl, hcap, hg, hgl⟩ := o1.form (by omega)
    have HO := Lib.hid o1.rd
    have HLL := Lib.hid hll
    clear o1 b1 hll
    obtain ⟨L, hL⟩ : ∃ L, L = xa ++ xb := ⟨_, rfl⟩
    rw [← hL] at HO HLL hcap ⊢
    have HLe := Lib.hid hL
    clear hL
    have hLn : L.length ≤ 40 := by have := HLL.out; omega
    have HT := Lib.hid hT
    clear hT
    go_wp2
    go_loopw [7, 8] (fun sm si wr => ∃ k : Nat, k ≤ L.length ∧ si = .int .i64 k ∧ sm = .int .i64 (gapTo xa xb (L.take k)) ∧ ∃ j, w1.drewN j = wr) (fun _ si _ => L.length - (intOf si).toNat)
    case atStart => exact ⟨0, by omega, rfl, rfl, 0, rfl⟩
    case round =>
      obtain ⟨k, hk, rfl, rfl, j, rfl⟩ := hrel
      by_cases hlt : k < L.length
      · obtain ⟨x, hx⟩ := get_of_lt hlt
        obtain ⟨A3, c3, e3, _, hA3⟩ := HO.out
        cases e3
        obtain ⟨ad, e4, hbl, hc⟩ := hA3 k x hx
        cases e4
        rw [Addr.add_lit, Nat.zero_add] at hc
        have hb1 := gapAt_bd g3 x
        have hb2 := gapTo_bd g3 (L.take k)
        have hsn := gapTo_snoc xa xb (L.take k) x
        rw [← take_snoc hx] at hsn
        have HS := Lib.hid hsn
        have HGA : Hid (gapAt xa xb x = (xb.length : Int) * atM xa x - (xa.length : Int) * atM xb x) := rfl
        have hb3 : -1600 ≤ (xb.length : Int) * atM xa x - (xa.length : Int) * atM xb x ∧ (xb.length : Int) * atM xa x - (xa.length : Int) * atM xb x ≤ 1600 := by rw [← HGA.out]; omega
        clear hx hA3 hsn
        have k0 : (0 : Int) ≤ (k : Int) := by omega
        have k1 : (k : Int) < (L.length : Int) := by omega
        have e1 : IntKind.i64.wrap ((xb.length : Int) * atM xa x) = (xb.length : Int) * atM xa x := IntWalk.i64_in _ (by omega)
        have e2 : IntKind.i64.wrap ((xa.length : Int) * atM xb x) = (xa.length : Int) * atM xb x := IntWalk.i64_in _ (by omega)
        have e3 : IntKind.i64.wrap ((xb.length : Int) * atM xa x - (xa.length : Int) * atM xb x) = (xb.length : Int) * atM xa x - (xa.length : Int) * atM xb x := IntWalk.i64_in _ (by omega)
        go_wp2
        go_quiet ((go_at_call 66; first | exact quiet_mine_add (l06AtMost_any _ xa x (by omega) _ ((HA.out.below HT.out).drewN _)) | exact quiet_mine_add (l06AtMost_any _ xb x (by omega) _ ((HB.out.below HT.out).drewN _))))
        clear e1 e2 e3
        go_wp2
        go_roundw
        case rel => exact ⟨k + 1, by omega, by go_num, (by rw [HS.out, HGA.out]; congr 1; simp only [Int.max_def]; repeat' split; all_goals omega), _, rfl⟩
        case measure => simp [intOf]; omega
      · have hke : k = L.length := by omega
        have HK := Lib.hid hke
        clear hke
        go_wp2
        go_ret2
        exact ⟨ret_ib (by unfold sgN; rw [h, HK.out, List.take_length, HLe.out]; rfl) h.symm, below_drewN' _ HT.out⟩
end Go.Proofs.Ytepiioegiicebaa
