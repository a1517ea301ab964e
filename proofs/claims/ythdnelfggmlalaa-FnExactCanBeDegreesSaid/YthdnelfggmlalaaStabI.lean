/-
  The stable sort's two passes in plain lists: what a step of each keeps.
-/
import Derived.Test.YthdnelfggmlalaaStab
namespace Go.Proofs.Ythdnelfggmlalaa

section
variable {lx : Int → Int → Bool} {cf : Int → Int → Int} {n s a b s2 : Nat} {D D1 X1 D2 X2 R : List Int}
theorem tells_at {DA DB D3 A B : List Int} (h : TellsAll lx cf D) (e : D = D1 ++ (DA ++ (DB ++ D3))) (hA : A.Perm DA) (hB : B.Perm DB) : Tells lx cf A B := by
  rw [e] at h
  exact h.two.perm hA hB
/-- The blocks of 20 up to a are sorted; the rest lies as it lay. -/
def InvA (lx : Int → Int → Bool) (D : List Int) (n a b : Nat) (D1 X1 D2 : List Int) : Prop := b = a + 20 ∧ D = D1 ++ D2 ∧ D1.length = a ∧ X1.length = a ∧ Ahead lx 20 D1 X1 ∧ a + D2.length = n
theorem invA_start (h : D.length = n) : InvA lx D n 0 20 [] [] D := ⟨rfl, rfl, rfl, rfl, ahead_nil _, by omega⟩
theorem InvA.take (h : InvA lx D n a b D1 X1 D2) (hb : b ≤ n) : (D2.take 20).length = 20 := by
  obtain ⟨h1, _, _, _, _, h6⟩ := h
  simp; omega
theorem InvA.tells (h : InvA lx D n a b D1 X1 D2) (ht : TellsAll lx cf D) : TellsAll lx cf (D2.take 20) ∧ TellsAll lx cf D2 := by
  obtain ⟨_, h2, _⟩ := h
  constructor
  · rw [h2, ← List.take_append_drop 20 D2] at ht
    exact ht.part
  · rw [h2, ← List.append_nil D2] at ht
    exact ht.part
theorem InvA.mem (h : InvA lx D n a b D1 X1 D2) {z : Int} (hz : z ∈ D2) : z ∈ D := by
  rw [h.2.1]
  exact List.mem_append_right _ hz
theorem InvA.step (h : InvA lx D n a b D1 X1 D2) (hb : b ≤ n) (hp : R.Perm (D2.take 20)) (hu : Up lx R) : InvA lx D n b (b + 20) (D1 ++ D2.take 20) (X1 ++ R) (D2.drop 20) := by
  have ht := h.take hb
  obtain ⟨h1, h2, h3, h4, h5, h6⟩ := h
  have hRl : R.length = 20 := by rw [hp.length_eq, ht]
  exact ⟨rfl, by rw [List.append_assoc, List.take_append_drop]; exact h2, by rw [List.length_append, ht]; omega, by rw [List.length_append, hRl]; omega, h5.more hRl hp hu, by simp; omega⟩
theorem InvA.fin (h : InvA lx D n a b D1 X1 D2) (hb : ¬ b ≤ n) (hp : R.Perm D2) (hu : Up lx R) : Chunks lx 20 D (X1 ++ R) := by
  obtain ⟨h1, h2, h3, h4, h5, h6⟩ := h
  have := h5.whole (DA := D2) (A := R) (by rw [hp.length_eq]; omega) hp hu
  rwa [← h2] at this
/-- The blocks up to a are twice as long; the rest are as they were. -/
def InvB (lx : Int → Int → Bool) (s s2 n : Nat) (D : List Int) (a b : Nat) (D1 X1 D2 X2 : List Int) : Prop := b = a + s2 ∧ D = D1 ++ D2 ∧ D1.length = a ∧ X1.length = a ∧ Ahead lx s2 D1 X1 ∧ Chunks lx s D2 X2 ∧ a + X2.length = n
theorem invB_start {X : List Int} (h : X.length = n) (hc : Chunks lx s D X) : InvB lx s s2 n D 0 s2 [] [] D X := ⟨by omega, rfl, rfl, rfl, ahead_nil _, hc, by omega⟩
/-- Two blocks ahead. -/
theorem InvB.two (h : InvB lx s s2 n D a b D1 X1 D2 X2) (hs : s2 = 2 * s) (hb : b ≤ n) (ht : TellsAll lx cf D) : ∃ DA DB D3 A B X3, D2 = DA ++ (DB ++ D3) ∧ X2 = A ++ (B ++ X3) ∧ A.length = s ∧ B.length = s ∧ Up lx A ∧ Up lx B ∧ Tells lx cf A B ∧ (∀ z ∈ A ++ B, z ∈ D) ∧
    ∀ R : List Int, R.Perm (A ++ B) → Up lx R → InvB lx s s2 n D b (b + s2) (D1 ++ (DA ++ DB)) (X1 ++ R) D3 X3 := by
  obtain ⟨h1, h2, h3, h4, h5, h6, h7⟩ := h
  obtain ⟨DA, A, D', X', rfl, rfl, lA, pA, uA, c1⟩ := h6.split (by omega)
  have l1 := pA.length_eq
  simp only [List.length_append] at h7
  obtain ⟨DB, B, D3, X3, rfl, rfl, lB, pB, uB, c2⟩ := c1.split (by omega)
  have l2 := pB.length_eq
  simp only [List.length_append] at h7
  refine ⟨DA, DB, D3, A, B, X3, rfl, rfl, lA, lB, uA, uB, tells_at ht h2 pA pB, fun z hz => ?_, fun R hp hu => ?_⟩
  · rw [h2]
    rcases List.mem_append.1 hz with h | h
    · exact List.mem_append_right _ (List.mem_append_left _ (pA.mem_iff.1 h))
    · exact List.mem_append_right _ (List.mem_append_right _ (List.mem_append_left _ (pB.mem_iff.1 h)))
  · have lR : R.length = s2 := by rw [hp.length_eq, List.length_append]; omega
    exact ⟨rfl, by rw [h2]; simp, by simp only [List.length_append]; omega, by simp only [List.length_append]; omega, h5.more lR (hp.trans (pA.append pB)) hu, c2, by omega⟩
/-- A block and a shorter one. -/
theorem InvB.last (h : InvB lx s s2 n D a b D1 X1 D2 X2) (hs : s2 = 2 * s) (hb : ¬ b ≤ n) (hm : a + s < n) (ht : TellsAll lx cf D) : ∃ A B, X2 = A ++ (B ++ []) ∧ A.length = s ∧ a + s + B.length = n ∧ 1 ≤ B.length ∧ Up lx A ∧ Up lx B ∧ Tells lx cf A B ∧ (∀ z ∈ A ++ B, z ∈ D) ∧
    ∀ R : List Int, R.Perm (A ++ B) → Up lx R → Chunks lx s2 D (X1 ++ R) := by
  obtain ⟨h1, h2, h3, h4, h5, h6, h7⟩ := h
  obtain ⟨DA, A, DB, B, rfl, rfl, lA, pA, uA, c1⟩ := h6.split (by omega)
  simp only [List.length_append] at h7
  have uB := c1.one (by omega)
  have pB := c1.perm
  refine ⟨A, B, by rw [List.append_nil], lA, by omega, by omega, uA, uB, tells_at (D3 := []) ht (by rw [List.append_nil]; exact h2) pA pB, fun z hz => ?_, fun R hp hu => ?_⟩
  · rw [h2]
    rcases List.mem_append.1 hz with h | h
    · exact List.mem_append_right _ (List.mem_append_left _ (pA.mem_iff.1 h))
    · exact List.mem_append_right _ (List.mem_append_right _ (pB.mem_iff.1 h))
  · have h := h5.whole (DA := DA ++ DB) (A := R) (by rw [hp.length_eq, List.length_append]; omega) (hp.trans (pA.append pB)) hu
    rwa [← h2] at h
theorem InvB.fin (h : InvB lx s s2 n D a b D1 X1 D2 X2) (hs : s2 = 2 * s) (hm : ¬ a + s < n) : Chunks lx s2 D (X1 ++ X2) := by
  obtain ⟨h1, h2, h3, h4, h5, h6, h7⟩ := h
  have h := h5.whole (DA := D2) (A := X2) (by omega) h6.perm (h6.one (by omega))
  rwa [← h2] at h
end
end Go.Proofs.Ythdnelfggmlalaa
