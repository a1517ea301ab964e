/-
  The bell, reckoned fast by rungs.
-/
import Derived.Test.YthafpbhjpmnddaaBells
import Derived.Test.YthafpbhjpmnddaaFast
namespace Go.Proofs.Ythafpbhjpmnddaa
open Go.RowKit
open Ieee

/-- The terms of the bell's sum, one by one. -/
def goS (X : Option Nat) : Nat → Nat → Option Nat → Option Nat → Option Nat
  | 0, _, _, s => s
  | n + 1, k, t, s => goS X n (k + 1) (opF .quo .f64 (opF .mul .f64 (opF .mul .f64 t X) X) (some (iF (2 * k + 3)))) (opF .add .f64 s (opF .quo .f64 (opF .mul .f64 (opF .mul .f64 t X) X) (some (iF (2 * k + 3)))))
theorem goS_eq (X : Option Nat) : ∀ n k, goS X n k (termA X k) (sumA X k) = sumA X (k + n)
  | 0, _ => rfl
  | n + 1, k => by
    have h := goS_eq X n (k + 1)
    rw [show k + 1 + n = k + (n + 1) by omega] at h
    exact h
def kT : List Nat := [4613937818241073152, 4617315517961601024, 4619567317775286272, 4621256167635550208, 4622382067542392832, 4623507967449235456, 4624633867356078080, 4625478292286210048, 4626041242239631360, 4626604192193052672, 4627167142146473984, 4627730092099895296, 4628293042053316608, 4628855992006737920, 4629418941960159232, 4629841154425225216, 4630122629401935872, 4630404104378646528, 4630685579355357184, 4630967054332067840, 4631248529308778496, 4631530004285489152, 4631811479262199808, 4632092954238910464, 4632374429215621120, 4632655904192331776, 4632937379169042432, 4633218854145753088, 4633500329122463744, 4633781804099174400, 4634063279075885056, 4634274385308418048, 4634415122796773376, 4634555860285128704, 4634696597773484032, 4634837335261839360, 4634978072750194688, 4635118810238550016, 4635259547726905344, 4635400285215260672, 4635541022703616000, 4635681760191971328, 4635822497680326656, 4635963235168681984, 4636103972657037312, 4636244710145392640, 4636385447633747968, 4636526185122103296, 4636666922610458624, 4636807660098813952, 4636948397587169280, 4637089135075524608, 4637229872563879936, 4637370610052235264, 4637511347540590592, 4637652085028945920, 4637792822517301248, 4637933560005656576, 4638074297494011904, 4638215034982367232, 4638355772470722560, 4638496509959077888, 4638637247447433216, 4638742800563699712, 4638813169307877376, 4638883538052055040, 4638953906796232704, 4639024275540410368, 4639094644284588032, 4639165013028765696, 4639235381772943360, 4639305750517121024, 4639376119261298688, 4639446488005476352, 4639516856749654016, 4639587225493831680, 4639657594238009344, 4639727962982187008, 4639798331726364672, 4639868700470542336, 4639939069214720000, 4640009437958897664, 4640079806703075328, 4640150175447252992, 4640220544191430656, 4640290912935608320, 4640361281679785984, 4640431650423963648, 4640502019168141312, 4640572387912318976, 4640642756656496640, 4640713125400674304, 4640783494144851968, 4640853862889029632, 4640924231633207296, 4640994600377384960, 4641064969121562624, 4641135337865740288, 4641205706609917952, 4641276075354095616, 4641346444098273280, 4641416812842450944, 4641487181586628608, 4641557550330806272, 4641627919074983936, 4641698287819161600, 4641768656563339264, 4641839025307516928, 4641909394051694592, 4641979762795872256, 4642050131540049920, 4642120500284227584, 4642190869028405248, 4642261237772582912, 4642331606516760576, 4642401975260938240, 4642472344005115904, 4642542712749293568, 4642613081493471232, 4642683450237648896]
theorem kT_len : kT.length = 120 := by decide
theorem kT_at : ∀ k, k < 120 → iF (2 * k + 3) = kT.getD k 0 ∧ kT.getD k 0 < INF ∧ rM D64 (kT.getD k 0) ≠ 0 := by decide +kernel
/-- The sum of the bell's terms by rungs: the terms have one sign. -/
def goF (x : Nat) : List Nat → Nat → Nat → Option Nat
  | [], _, s => some s
  | c :: cs, t, s => forceN (mulR t x) fun a => bif Nat.blt a INF then forceN (mulR a x) fun b => bif Nat.blt b INF then forceN (quoR b c) fun u => bif Nat.blt u INF then forceN (addR s u) fun v => bif Nat.blt v INF then goF x cs u v else none else none else none else none
theorem blt_t {a b : Nat} (h : Nat.blt a b = true) : a < b := by rw [Nat.blt_eq] at h; exact h
theorem goF_step {x c t s r : Nat} {cs : List Nat} (h : goF x (c :: cs) t s = some r) : ∃ a b u v, a = mulG t x ∧ a < INF ∧ b = mulG a x ∧ b < INF ∧ u = quoG b c ∧ u < INF ∧ v = addG s u ∧ v < INF ∧ goF x cs u v = some r := by
  unfold goF at h
  simp only [force_eq] at h
  cases h1 : Nat.blt (mulR t x) INF
  · rw [h1] at h; cases h
  rw [h1, cond_true] at h
  cases h2 : Nat.blt (mulR (mulR t x) x) INF
  · rw [h2] at h; cases h
  rw [h2, cond_true] at h
  cases h3 : Nat.blt (quoR (mulR (mulR t x) x) c) INF
  · rw [h3] at h; cases h
  rw [h3, cond_true] at h
  cases h4 : Nat.blt (addR s (quoR (mulR (mulR t x) x) c)) INF
  · rw [h4] at h; cases h
  rw [h4, cond_true] at h
  exact ⟨_, _, _, _, mulR_eq t x, blt_t h1, by rw [mulR_eq], blt_t h2, by rw [quoR_eq], blt_t h3, by rw [addR_eq], blt_t h4, h⟩
theorem goF_ok {s : Bool} {x : Nat} (hx : x < INF) : ∀ (cs : List Nat) (k t q r : Nat), t < INF → q < INF → k + cs.length ≤ 120 → (∀ i, i < cs.length → cs.getD i 0 = kT.getD (k + i) 0) → goF x cs t q = some r →
    goS (some (sgw s x)) cs.length k (some (sgw s t)) (some (sgw s q)) = some (sgw s r) ∧ r < INF
  | [], k, t, q, r, _, hq, _, _, h => by
    unfold goF at h
    cases h
    exact ⟨rfl, hq⟩
  | c :: cs, k, t, q, r, ht, hq, hl, hc, h => by
    obtain ⟨a, b, u, v, ea, la, eb, lb, eu, lu, ev, lv, h'⟩ := goF_step h
    have hk : k < 120 := by simp at hl; omega
    have hc0 : c = kT.getD k 0 := by have := hc 0 (by simp); simpa using this
    obtain ⟨k1, k2, k3⟩ := kT_at k hk
    rw [← hc0] at k1 k2 k3
    have m1 : opF .mul .f64 (some (sgw s t)) (some (sgw s x)) = some (sgw false a) := by
      have := mul_g s s ht hx
      rw [Bool.xor_self, ← ea] at this
      exact this
    have m2 : opF .mul .f64 (some (sgw false a)) (some (sgw s x)) = some (sgw s b) := by
      have := mul_g false s la hx
      rw [Bool.false_xor, ← eb] at this
      exact this
    have m3 : opF .quo .f64 (some (sgw s b)) (some (iF (2 * k + 3))) = some (sgw s u) := by
      have := quo_g s false lb k2 k3
      rw [Bool.xor_false, ← eu] at this
      rw [k1]
      exact this
    have m4 : opF .add .f64 (some (sgw s q)) (some (sgw s u)) = some (sgw s v) := by
      have := add_g s hq lu
      rw [← ev] at this
      exact this
    have ih := goF_ok (s := s) hx cs (k + 1) u v r lu lv (by simp at hl; omega) (fun i hi => by
      have := hc (i + 1) (by simp; omega)
      rw [List.getD_cons_succ] at this
      rw [this]
      congr 1
      omega) h'
    refine ⟨?_, ih.2⟩
    rw [List.length_cons]
    show goS _ cs.length (k + 1) (opF .quo .f64 (opF .mul .f64 (opF .mul .f64 (some (sgw s t)) (some (sgw s x))) (some (sgw s x))) (some (iF (2 * k + 3)))) (opF .add .f64 (some (sgw s q)) (opF .quo .f64 (opF .mul .f64 (opF .mul .f64 (some (sgw s t)) (some (sgw s x))) (some (sgw s x))) (some (iF (2 * k + 3))))) = _
    rw [m1, m2, m3, m4]
    exact ih.1
theorem sumA_fast {s : Bool} {x r : Nat} (hx : x < INF) (h : goF x kT x x = some r) : sumA (some (sgw s x)) 120 = some (sgw s r) ∧ r < INF := by
  have h0 := goF_ok (s := s) hx kT 0 x x r hx hx (by rw [kT_len]; omega) (fun i hi => by rw [Nat.zero_add]) h
  rw [kT_len] at h0
  have h1 := goS_eq (some (sgw s x)) 120 0
  rw [Nat.zero_add] at h1
  exact ⟨h1.symm.trans h0.1, h0.2⟩
end Go.Proofs.Ythafpbhjpmnddaa
