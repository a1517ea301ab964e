/-
  Seeds in the laws: laws.toSeed, laws.eqSeed; an argument that is a seed, opened.
-/
import Derived.Test.YthdnelfggmlalaaSeedS
import Derived.Test.YthdnelfggmlalaaOpen
import Derived.Lib.SmallJoins
namespace Go.Proofs.Ythdnelfggmlalaa
open Go.RowKit Go.WideShapes Go.ChangeShapes Go.Deep Go.Joins

theorem toSeed_any (k a b : Int) (w : World) : Calls Try.prog 12 #[sdV k a b] w fun e w' => e = .returned (sdV k a b) ∧ Below w.heap.size w w' := by
  have hT := Below.refl w.heap.size w
  go_enter Try.func12, Try.ntmps12
  go_wp2
  refine bodyPost_ret (v := sdV k a b) (by simp [results, Try.results12, go_sem, *]) rfl ⟨rfl, ?_⟩
  exact ((hT.alloc (Nat.le_refl _) _).alloc (by simp) _).alloc (by simp; omega) _
theorem eqSeed_any (k a b : Int) (w : World) : Calls Try.prog 14 #[sdV k a b, sdV k a b] w fun e w' => e = .returned (.bool true) ∧ Below w.heap.size w w' := by
  have hT := Below.refl w.heap.size w
  go_enter Try.func14, Try.ntmps14
  go_wp2
  all_goals first | (go_ret; exact ⟨rfl, (hT.alloc (Nat.le_refl _) _).alloc (by simp) _⟩) | trace_state
section
variable {H : Type} {enc : TypeId × Value → H} {w : World} {base : Nat} {spare : Nat → Bool} {held : Bool}
theorem u64_wf {n : Int} (h : (Lit.int .u64 n).wf = true) : 0 ≤ n := by
  simp [Lit.wf, IntKind.min, IntKind.max, IntKind.signed, IntKind.bits] at h
  omega
set_option maxRecDepth 10000 in
theorem open_seed {r : Reach} {b0 : Nat} {v : Value} {d : DataW H} {p : List MemPlace} (hv : Value.okWide Try.prog w r b0 24 v) (h : DataW.Trod enc Try.prog w base spare held 24 v d p) :
    ∃ k a b : Int, v = sdV k a b ∧ 0 ≤ b := by
  obtain ⟨v0, v1, v2, y0, y1, y2, n, rfl, -, -, h0, h1, h2⟩ := open_agg3 Try.underlying24 (by kernel_rfl) (by kernel_rfl) hv h
  obtain ⟨k, rfl⟩ := elem_int Try.underlying2 n v0 y0 h0
  obtain ⟨a, rfl⟩ := elem_int Try.underlying22 n v1 y1 h1
  obtain ⟨b, hb, -, hw⟩ := DataW.trod_int Try.underlying22 h2
  simp at hb
  subst hb
  exact ⟨k, a, b, rfl, u64_wf hw⟩
end
end Go.Proofs.Ythdnelfggmlalaa
