/-
  RowSums, walked in the program and in the reference.
-/
import Derived.Test.YtmhmekfbnaafmaaSumsR
import Derived.Test.YtmhmekfbnaafmaaChunk
namespace Go.Proofs.Ytmhmekfbnaafmaa
open Go.RowKit

def rowR (r c : Int) (xs : List Int) : List Int := if okTab r c xs = true then rowsOf r.toNat c.toNat xs else []
theorem rowR_len (r c : Int) (xs : List Int) : (rowR r c xs).length ≤ 1099511627776 := by
  unfold rowR
  split
  · rename_i h
    unfold rowsOf
    rw [List.length_map, List.length_range]
    unfold okTab at h
    simp only [Bool.and_eq_true] at h
    have := inB_true h.1.1.1.1
    omega
  · simp
def RetRowSums (r c : Int) (xs : List Int) (w : World) (e : Ending) (w' : World) : Prop :=
  ∃ v, e = .returned (.tuple #[v, .bool (okTab r c xs)]) ∧ Own iV 2 w' w.heap.size v (rowR r c xs) ∧ Below w.heap.size w w'
theorem okTab_nums {r c : Int} {xs : List Int} (h : okTab r c xs = true) : ∃ rn m : Nat, r = (rn : Int) ∧ c = (m : Int) ∧ 1 ≤ m ∧ m ≤ 4 ∧ rn ≤ 4 ∧ 1 ≤ rn ∧ xs.length = rn * m := by
  unfold okTab at h
  simp only [Bool.and_eq_true, decide_eq_true_eq] at h
  obtain ⟨⟨⟨⟨h1, h2⟩, h3⟩, -⟩, -⟩ := h
  have b1 := inB_true h1
  have b2 := inB_true h2
  refine ⟨r.toNat, c.toNat, by omega, by omega, by omega, by omega, by omega, by omega, ?_⟩
  have e1 : ((r.toNat : Nat) : Int) = r := by omega
  have e2 : ((c.toNat : Nat) : Int) = c := by omega
  have : ((xs.length : Nat) : Int) = ((r.toNat * c.toNat : Nat) : Int) := by rw [h3]; push_cast; rw [e1, e2]
  exact_mod_cast this

theorem implRowSums_any (r c : Int) (s : Value) (xs : List Int) (h1 : xs.length ≤ 1099511627776) (w : World) (hr : Rd iV w s xs) :
    Calls Try.prog 18 #[tabV r c s] w (RetRowSums r c xs w) := by
  have HR := Lib.hid hr
  obtain ⟨A, cap, rfl, hcap, hA⟩ := hr
  clear hA
  unfold RetRowSums
  cases hok : okTab r c xs
  · have HOK := Lib.hid hok
    clear hok
    go_enter Try.func18, Try.ntmps18
    go_wp2_with fail
    have hT := below1 w (.cells #[.int .i64 r, .int .i64 c, .slice A xs.length cap] 28)
    generalize hW : w.alloc _ = W0 at hT ⊢
    clear hW
    refine (implValidTable_any _ _ _ xs h1 _ (HR.out.below hT)).mono ?_
    rintro e w1 ⟨rfl, hb⟩
    rw [HOK.out]
    go_wp2
    go_ret2
    exact ⟨_, rfl, by unfold rowR; rw [HOK.out]; exact Own.nil, below_to hT hb hT.size⟩
  · obtain ⟨rn, m, rfl, rfl, hm1, hm4, hrn, hrn1, hlen⟩ := okTab_nums hok
    have HOK := Lib.hid hok
    have hx : xs.length ≤ 1000000 := by rw [hlen]; exact Nat.le_trans (Nat.mul_le_mul hrn hm4) (by decide)
    have HLEN := Lib.hid hlen
    clear hok hlen
    go_enter Try.func18, Try.ntmps18
    go_wp2_with fail
    have hT := below1 w (.cells #[.int .i64 rn, .int .i64 m, .slice A xs.length cap] 28)
    have B := tabAt_new w rn m (.slice A xs.length cap) 28
    generalize hW : w.alloc _ = W0 at hT B ⊢
    clear hW
    refine (implValidTable_any _ _ _ xs h1 _ (HR.out.below hT)).mono ?_
    rintro e w1 ⟨rfl, hb⟩
    rw [HOK.out]
    replace B := B.below hb
    replace hT := below_to hT hb hT.size
    obtain ⟨l0, k0, k1, k2⟩ := B
    clear hb
    go_wp2_with fail
    refine (rowSums_any rn m _ xs hm1 hrn1 hm4 hrn HLEN.out _ (HR.out.below hT)).mono ?_
    rintro e w2 ⟨v, rfl, ho, hb⟩
    go_wp2
    go_ret2
    exact ⟨_, rfl, by unfold rowR; rw [if_pos HOK.out]; exact ho.base_ hT.size, below_to hT hb hT.size⟩

theorem specRowSums_any (r c : Int) (s : Value) (xs : List Int) (h1 : xs.length ≤ 1099511627776) (w : World) (hr : Rd iV w s xs) :
    Calls Try.prog 17 #[tabV r c s] w (RetRowSums r c xs w) := by
  have HR := Lib.hid hr
  obtain ⟨A, cap, rfl, hcap, hA⟩ := hr
  clear hA
  unfold RetRowSums
  cases hok : okTab r c xs
  · have HOK := Lib.hid hok
    clear hok
    go_enter Try.func17, Try.ntmps17
    go_wp2_with fail
    have hT := below1 w (.cells #[.int .i64 r, .int .i64 c, .slice A xs.length cap] 28)
    have B := tabAt_new w r c (.slice A xs.length cap) 28
    generalize hW : w.alloc _ = W0 at hT B ⊢
    clear hW
    refine (l06Is_any _ r c _ xs h1 _ B (HR.out.below hT)).mono ?_
    rintro e w1 ⟨rfl, hd⟩
    have hb := below_of_drew hd
    clear hd
    rw [HOK.out]
    go_wp2
    go_ret2
    exact ⟨_, rfl, by unfold rowR; rw [HOK.out]; exact Own.nil, below_to hT hb hT.size⟩
  · obtain ⟨rn, m, rfl, rfl, hm1, hm4, hrn, hrn1, hlen⟩ := okTab_nums hok
    have HOK := Lib.hid hok
    have HLEN := Lib.hid hlen
    clear hok hlen
    go_enter Try.func17, Try.ntmps17
    go_wp2_with fail
    have hT := below1 w (.cells #[.int .i64 rn, .int .i64 m, .slice A xs.length cap] 28)
    have B := tabAt_new w rn m (.slice A xs.length cap) 28
    generalize hW : w.alloc _ = W0 at hT B ⊢
    clear hW
    refine (l06Is_any _ _ _ _ xs h1 _ B (HR.out.below hT)).mono ?_
    rintro e w1 ⟨rfl, hd⟩
    have hb := below_of_drew hd
    clear hd
    rw [HOK.out]
    replace B := B.below hb
    replace hT := below_to hT hb hT.size
    clear hb
    go_wp2_with fail
    refine (l06Sums_any _ rn m _ xs hm1 (by omega) (by omega) HLEN.out _ B (HR.out.below hT)).mono ?_
    rintro e w2 ⟨v1, v2, rfl, ho1, ho2, hb⟩
    go_wp2
    go_ret2
    exact ⟨_, rfl, by unfold rowR; rw [if_pos HOK.out]; rw [sumsTo_rows hm1 HLEN.out] at ho1; exact ho1.base_ hT.size, below_to hT hb hT.size⟩
end Go.Proofs.Ytmhmekfbnaafmaa
