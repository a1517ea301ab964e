/-
  A share that a region has got out of a call and has put into a variable of its own: whatever came first.
-/
import Derived.Test.YtkohhhmllekokaaShBack
namespace Go.Proofs.Ytkohhhmllekokaa
open Go.RowKit

/-- The variable at s6 holds the share, s7 says whether there is one. -/
def Got (ok : Bool) (V C : List (Option Nat)) (w1 wx : World) (s6 s7 : Value) : Prop :=
  ∃ S A0 c0 A1 c1 y0 y1 lo hi lo' hi', s6 = .pointer (some ⟨S, 0, none⟩) ∧ s7 = .bool ok ∧ BoxAt wx S [.slice A0 y0.length c0, .slice A1 y1.length c1] ∧ Below w1.heap.size w1 wx ∧
    OwnR fV 25 wx lo hi (.slice A0 y0.length c0) y0 ∧ OwnR fV 25 wx lo' hi' (.slice A1 y1.length c1) y1 ∧ y0.length ≤ 1099511627 ∧ y1.length ≤ 1099511627 ∧
    absL y0 = (if ok then V else []) ∧ absL y1 = (if ok then C else []) ∧ w1.heap.size ≤ lo ∧ lo ≤ wx.heap.size ∧ hi ≤ wx.heap.size ∧ w1.heap.size ≤ lo' ∧ lo' ≤ wx.heap.size ∧ hi' ≤ wx.heap.size ∧ (hi ≤ lo' ∨ hi' ≤ lo) ∧
    w1.heap.size ≤ S ∧ (S < lo ∧ S < lo' ∨ hi ≤ S ∧ hi' ≤ S)
section
variable {ok : Bool} {V C : List (Option Nat)} {w1 w3 w4 : World} {S : Nat} {A0 A1 : Option Addr} {c0 c1 : Nat} {y0 y1 : List Nat} {z0 z1 : Value}
/-- The variable was made ahead of the call. -/
theorem got_set (KB : BoxAt w4 S [z0, z1]) (hc : Below w1.heap.size w1 w4) (hS : w1.heap.size ≤ S) (hS3 : S < w3.heap.size) (_h3 : w1.heap.size ≤ w3.heap.size) (hb : Below w3.heap.size w3 w4)
    (o0 : Own fV 25 w4 w3.heap.size (.slice A0 y0.length c0) y0) (o1 : Own fV 25 w4 w3.heap.size (.slice A1 y1.length c1) y1) (ap : (Value.slice A0 y0.length c0).ownBlock = none ∨ (Value.slice A0 y0.length c0).ownBlock ≠ (Value.slice A1 y1.length c1).ownBlock)
    (l0 : y0.length ≤ 1099511627) (l1 : y1.length ≤ 1099511627) (a0 : absL y0 = if ok then V else []) (a1 : absL y1 = if ok then C else []) :
    Got ok V C w1 ((w4.setCell ⟨S, 0, none⟩ (.slice A0 y0.length c0)).setCell ⟨S, 1, none⟩ (.slice A1 y1.length c1)) (.pointer (some ⟨S, 0, none⟩)) (.bool ok) := by
  have k0 := Own.other (Own.other o0 (p := ⟨S, 0, none⟩) (fun e => by have h9 := (o0.lt _ e).1; simp at h9; omega) (.slice A0 y0.length c0)) (p := ⟨S, 1, none⟩) (fun e => by have h9 := (o0.lt _ e).1; simp at h9; omega) (.slice A1 y1.length c1)
  have k1 := Own.other (Own.other o1 (p := ⟨S, 0, none⟩) (fun e => by have h9 := (o1.lt _ e).1; simp at h9; omega) (.slice A0 y0.length c0)) (p := ⟨S, 1, none⟩) (fun e => by have h9 := (o1.lt _ e).1; simp at h9; omega) (.slice A1 y1.length c1)
  have hB := (KB.set (i := 0) rfl (.slice A0 y0.length c0)).set (i := 1) rfl (.slice A1 y1.length c1)
  have hc2 := (hc.setCell (p := ⟨S, 0, none⟩) hS (.slice A0 y0.length c0)).setCell (p := ⟨S, 1, none⟩) hS (.slice A1 y1.length c1)
  have hz : w3.heap.size ≤ ((w4.setCell ⟨S, 0, none⟩ (.slice A0 y0.length c0)).setCell ⟨S, 1, none⟩ (.slice A1 y1.length c1)).heap.size := by simpa using hb.size
  obtain ⟨lo, hi, lo', hi', r0, r1, q1, q2, q3, q4, q5, q6, q7⟩ := own_pt2 k0 k1 ap hz
  exact ⟨S, A0, c0, A1, c1, y0, y1, lo, hi, lo', hi', rfl, rfl, hB, hc2, r0, r1, l0, l1, a0, a1, by omega, q2, q3, by omega, q5, q6, q7, hS, .inl ⟨by omega, by omega⟩⟩
/-- It was made after the call. -/
theorem got_last {T : TypeId} (hc : Below w1.heap.size w1 w4) (h3 : w1.heap.size ≤ w3.heap.size) (hb : Below w3.heap.size w3 w4)
    (o0 : Own fV 25 w4 w3.heap.size (.slice A0 y0.length c0) y0) (o1 : Own fV 25 w4 w3.heap.size (.slice A1 y1.length c1) y1) (ap : (Value.slice A0 y0.length c0).ownBlock = none ∨ (Value.slice A0 y0.length c0).ownBlock ≠ (Value.slice A1 y1.length c1).ownBlock)
    (l0 : y0.length ≤ 1099511627) (l1 : y1.length ≤ 1099511627) (a0 : absL y0 = if ok then V else []) (a1 : absL y1 = if ok then C else []) :
    Got ok V C w1 (w4.alloc (.cells #[.slice A0 y0.length c0, .slice A1 y1.length c1] T)) (.pointer (some ⟨w4.heap.size, 0, none⟩)) (.bool ok) := by
  obtain ⟨lo, hi, lo', hi', r0, r1, q1, q2, q3, q4, q5, q6, q7⟩ := own_pt2 o0 o1 ap hb.size
  have hz := hc.size
  exact ⟨w4.heap.size, A0, c0, A1, c1, y0, y1, lo, hi, lo', hi', rfl, rfl, BoxAt.new w4 [.slice A0 y0.length c0, .slice A1 y1.length c1] T, hc.alloc hz _, r0.below (below_alloc _ _), r1.below (below_alloc _ _), l0, l1, a0, a1, by omega, by simp; omega, by simp; omega, by omega, by simp; omega, by simp; omega, q7, hz, .inr ⟨q3, q6⟩⟩
end
end Go.Proofs.Ytkohhhmllekokaa
