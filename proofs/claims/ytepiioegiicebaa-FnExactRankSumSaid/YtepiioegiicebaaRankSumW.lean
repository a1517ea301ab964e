/-
  The walks of spec.RankSum and impl.RankSum.
-/
import Derived.Test.YtepiioegiicebaaBoth
import Derived.Test.YtepiioegiicebaaRanks
namespace Go.Proofs.Ytepiioegiicebaa
open Go.RowKit

def rsN (xs ys : List Int) : Int := if bothB 40 xs ys then sumW ((ranks (xs ++ ys)).take xs.length) else 0
def RetRankSum (xs ys : List Int) (w : World) (e : Ending) (w' : World) : Prop :=
  e = .returned (.tuple #[.int .i64 (rsN xs ys), .bool (bothB 40 xs ys)]) ∧ Below w.heap.size w w'

theorem specRankSum_any (u : Value) (xa : List Int) (ha : xa.length ≤ 1099511627776) (v : Value) (xb : List Int) (hb : xb.length ≤ 1099511627776) (w : World) (hr : Rd iV w u xa) (hs : Rd iV w v xb) :
    Calls Try.prog 39 #[u, v] w (RetRankSum xa xb w) := by
  have HA := Lib.hid hr
  have HB := Lib.hid hs
  obtain ⟨A1, c1, rfl, hc1, hA1⟩ := hr
  obtain ⟨A2, c2, rfl, hc2, hA2⟩ := hs
  clear hA1 hA2
  cases h : bothB 40 xa xb
  · go_enter Try.func39, Try.ntmps39
    go_wp2_with (go_at_call 64; refine (l06Both_any _ _ xa xb ha hb _ HA.out HB.out).mono ?_; rintro e w' ⟨rfl, n, rfl⟩; rw [h])
    go_ret2
    exact ⟨ret_ib (by unfold rsN; rw [h]; rfl) h.symm, below_of_drew ⟨_, rfl⟩⟩
  · obtain ⟨g1, g2, g3⟩ := both_parts h
    have g4 := smp_len g1
    go_enter Try.func39, Try.ntmps39
    go_wp2_with (go_at_call 64; refine (l06Both_any _ _ xa xb ha hb _ HA.out HB.out).mono ?_; rintro e w' ⟨rfl, n, rfl⟩; rw [h])
    go_wp2_with fail
    refine (l06Joined_any _ _ xa xb (by omega) _ (HA.out.drewN n) (HB.out.drewN n)).mono ?_
    rintro e w1 ⟨v1, rfl, o1, b1⟩
    go_wp2_with fail
    refine (l06Ranks_any _ (xa ++ xb) (by simp; omega) _ o1.rd).mono ?_
    rintro e w2 ⟨v2, rfl, o2, b2⟩
    go_wp2_with fail
    refine (l06First_any _ (ranks (xa ++ xb)) xa.length (by rw [ranks_len]; simp; omega) (by rw [ranks_len]; simp) _ o2.rd).mono ?_
    rintro e w3 ⟨rfl, rfl⟩
    go_wp2
    go_ret2
    exact ⟨ret_ib (by unfold rsN; rw [h]; rfl) h.symm, below_to (below_to (below_of_drew ⟨n, rfl⟩) b1 (Nat.le_refl _)) b2 (by simpa using b1.size)⟩

theorem implRankSum_any (u : Value) (xa : List Int) (ha : xa.length ≤ 1099511627776) (v : Value) (xb : List Int) (hb : xb.length ≤ 1099511627776) (w : World) (hr : Rd iV w u xa) (hs : Rd iV w v xb) :
    Calls Try.prog 40 #[u, v] w (RetRankSum xa xb w) := by
  have HA := Lib.hid hr
  have HB := Lib.hid hs
  obtain ⟨A1, c1, rfl, hc1, hA1⟩ := hr
  obtain ⟨A2, c2, rfl, hc2, hA2⟩ := hs
  clear hA1 hA2
  cases h : bothB 40 xa xb
  · go_enter Try.func40, Try.ntmps40
    go_wp2_with (go_at_call 67; go_loud (refine (areSamples_any _ _ xa xb 40 (by omega) ha hb _ HA.out HB.out).mono ?_); rintro e w' ⟨rfl, n, rfl⟩; rw [h])
    go_ret2
    exact ⟨ret_ib (by unfold rsN; rw [h]; rfl) h.symm, below_of_drew ⟨_, rfl⟩⟩
  · obtain ⟨g1, g2, g3⟩ := both_parts h
    have g4 := smp_len g1
    go_enter Try.func40, Try.ntmps40
    go_wp2_with (go_at_call 67; go_loud (refine (areSamples_any _ _ xa xb 40 (by omega) ha hb _ HA.out HB.out).mono ?_); rintro e w' ⟨rfl, n, rfl⟩; rw [h])
    go_wp2_with fail
    refine (concat2_any _ _ xa xb (by omega) (by omega) (w.drewN n) (HA.out.drewN n) (HB.out.drewN n)).mono ?_
    rintro e w1 ⟨v1, rfl, o1, b1⟩
    go_wp2_with fail
    refine (ranksOf_any _ (xa ++ xb) (by simp; omega) _ o1.rd).mono ?_
    rintro e w2 ⟨v2, rfl, o2, b2⟩
    have hlr : (ranks (xa ++ xb)).length = xa.length + xb.length := by rw [ranks_len]; simp
    obtain ⟨g, cap, rfl, hcap, hg, hgl⟩ := o2.form (by omega)
    have HRD := Lib.hid ((o2.rd).take (k := xa.length) (by omega))
    rw [hlr] at hcap
    have HL := Lib.hid hlr
    clear hlr
    go_wp2_with fail
    refine (total_any _ ((ranks (xa ++ xb)).take xa.length) (by simp; omega) _ HRD.out).mono ?_
    rintro e w3 ⟨rfl, rfl⟩
    go_wp2
    go_ret2
    exact ⟨ret_ib (by unfold rsN; rw [h]; rfl) h.symm, below_to (below_to (below_of_drew ⟨n, rfl⟩) b1 (Nat.le_refl _)) b2 (by simpa using b1.size)⟩
end Go.Proofs.Ytepiioegiicebaa
