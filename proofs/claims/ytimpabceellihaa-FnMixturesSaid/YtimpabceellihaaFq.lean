/-
  A region that draws its order, whose operations and callees only read, but whose VALUES may hang on the tape (the bits of a NaN): one walk of the lexical order serves every order.
-/
import Derived.Test.YtimpabceellihaaFloat
import Derived.StillTail
import Derived.Deep.Quiet
import Derived.Deep.QuietTactic
import Derived.BigQuiet
import Derived.BigCall
namespace Go.Proofs.Ytimpabceellihaa
open Go

section
variable {P : Program} {ops : Array Oper} {md : Region.Mode} {C : World → Prop} {S : FuncId → Array Value → Value → Prop}

/-- What is asked once an operation has run in a world of the class. -/
def fqUpon (P : Program) (C : World → Prop) (S : FuncId → Array Value → Value → Prop) (w : World) : Result Next → Prop
  | .ok (.value _) w1 => C w1
  | .ok .skip w1 => C w1
  | .ok (.enter f args) w1 => w1 = w ∧ Calls P f args w fun e w2 => ∃ v, e = .returned v ∧ S f args v ∧ C w2
  | _ => False
/-- What it may yield. -/
def fqGive (S : FuncId → Array Value → Value → Prop) (v : Value) : Result Next → Prop
  | .ok (.value u) _ => v = u
  | .ok .skip _ => v = undef
  | .ok (.enter f args) _ => S f args v
  | _ => False
def Oper.fqOk (P : Program) (C : World → Prop) (S : FuncId → Array Value → Value → Prop) (o : Oper) (a : Act) : Prop := ∀ w, C w → fqUpon P C S w ((execOp a.eval o).run P w)
def Oper.fqMay (P : Program) (C : World → Prop) (S : FuncId → Array Value → Value → Prop) (o : Oper) (a : Act) (v : Value) : Prop := ∃ w, C w ∧ fqGive S v ((execOp a.eval o).run P w)
def Oper.fq (P : Program) (C : World → Prop) (S : FuncId → Array Value → Value → Prop) (o : Oper) (a : Act) (K : Act → Prop) : Prop :=
  Oper.fqOk P C S o a ∧ ∀ v, Oper.fqMay P C S o a v → K (a.put o.dst v)

/-- The lexical walk. -/
def wpFq (P : Program) (ops : Array Oper) (C : World → Prop) (S : FuncId → Array Value → Value → Prop) (Q : Act → Prop) : List Oper → Act → Prop
  | [], a => Q a
  | o :: rest, a => if Region.wanted o (yielded ops a.tmps) then Oper.fq P C S o a (wpFq P ops C S Q rest) else wpFq P ops C S Q rest (a.put o.dst undef)

def fOp (P : Program) (ops : Array Oper) (C : World → Prop) (S : FuncId → Array Value → Value → Prop) (i : Nat) (K : Act → Prop) (a : Act) : Prop :=
  match ops[i]? with
  | none => K a
  | some o => if Region.wanted o (yielded ops a.tmps) then Oper.fq P C S o a K else K (a.put o.dst undef)

theorem Oper.fq_mono {o : Oper} {a : Act} {K K' : Act → Prop} (h : ∀ a, K a → K' a) (hh : Oper.fq P C S o a K) : Oper.fq P C S o a K' := ⟨hh.1, fun v hv => h _ (hh.2 v hv)⟩
theorem fOp_mono {i : Nat} {a : Act} {K K' : Act → Prop} (h : ∀ a, K a → K' a) (hh : fOp P ops C S i K a) : fOp P ops C S i K' a := by
  unfold fOp at *
  split
  · exact h _ (by simpa [*] using hh)
  · rename_i o ho
    simp only [ho] at hh
    split
    · rename_i hw; simp only [hw, if_true] at hh; exact Oper.fq_mono h hh
    · rename_i hw; simp only [hw] at hh; exact h _ hh

theorem Oper.wp_of_fq {o : Oper} {a : Act} {K : Act → Prop} {K' : Act → World → Prop} {Q' : Exit → Act → World → Prop} {w : World} (hw : C w) (h : ∀ a w', C w' → K a → K' a w') (hh : Oper.fq P C S o a K) : o.wp P a w K' Q' := by
  obtain ⟨h1, h2⟩ := hh
  have h3 := h1 w hw
  have h4 : ∀ v, fqGive S v ((execOp a.eval o).run P w) → K (a.put o.dst v) := fun v hv => h2 v ⟨w, hw, hv⟩
  unfold Oper.wp
  generalize (execOp a.eval o).run P w = r at *
  cases r with
  | ok n w' =>
    cases n <;> simp only [fqUpon] at h3 <;> simp only [Oper.upon]
    case value u => exact h _ _ h3 (h4 u rfl)
    case skip => exact h _ _ h3 (h4 undef rfl)
    case enter f args =>
      obtain ⟨e1, hc⟩ := h3
      rw [e1]
      exact hc.mono fun e w'' ⟨v, he, hs, hw''⟩ => by subst he; exact h _ _ hw'' (h4 v hs)
  | halt x w' => simp only [fqUpon] at h3

theorem wpOp_of_fOp {i : Nat} {a : Act} {K : Act → Prop} {K' : Act → World → Prop} {Q' : Exit → Act → World → Prop} {w : World} (hC : C w) (h : ∀ a w', C w' → K a → K' a w') (hh : fOp P ops C S i K a) : wpOp P ops Q' i K' a w := by
  unfold fOp at hh
  unfold wpOp
  split
  · rename_i ho; simp only [ho] at hh; exact h _ _ hC hh
  · rename_i o ho
    simp only [ho] at hh
    split
    · rename_i hw; simp only [hw, if_true] at hh; exact .inl (Oper.wp_of_fq hC h hh)
    · rename_i hw; simp only [hw] at hh; exact h _ _ hC hh

/-- In state 'a' the operation is in order. -/
def FOk (P : Program) (ops : Array Oper) (C : World → Prop) (S : FuncId → Array Value → Value → Prop) (o : Oper) (a : Act) : Prop := Region.wanted o (yielded ops a.tmps) = true → Oper.fqOk P C S o a
/-- .. and may leave v. -/
def FMay (P : Program) (ops : Array Oper) (C : World → Prop) (S : FuncId → Array Value → Value → Prop) (o : Oper) (a : Act) (v : Value) : Prop :=
  (Region.wanted o (yielded ops a.tmps) = true ∧ Oper.fqMay P C S o a v) ∨ (Region.wanted o (yielded ops a.tmps) = false ∧ v = undef)

theorem fOp_iff {i : Nat} {o : Oper} {a : Act} {K : Act → Prop} (hi : ops[i]? = some o) : fOp P ops C S i K a ↔ FOk P ops C S o a ∧ ∀ v, FMay P ops C S o a v → K (a.put o.dst v) := by
  unfold fOp FOk FMay
  simp only [hi]
  cases hw : Region.wanted o (yielded ops a.tmps)
  · simp
  · simp [Oper.fq]

theorem FOk.some {o : Oper} {a : Act} (hC : ∃ w, C w) (h : FOk P ops C S o a) : ∃ v, FMay P ops C S o a v := by
  unfold FMay
  cases hw : Region.wanted o (yielded ops a.tmps)
  · exact ⟨undef, .inr ⟨rfl, rfl⟩⟩
  · obtain ⟨w, hw'⟩ := hC
    have h3 := h hw w hw'
    have : ∃ v, fqGive S v ((execOp a.eval o).run P w) := by
      generalize (execOp a.eval o).run P w = r at *
      cases r with
      | ok n w' =>
        cases n <;> simp only [fqUpon] at h3 <;> simp only [fqGive]
        case value u => exact ⟨u, rfl⟩
        case skip => exact ⟨undef, rfl⟩
        case enter f args =>
          obtain ⟨_, hc⟩ := h3
          obtain ⟨e, w2, _, ⟨v, _, hs, _⟩, _⟩ := hc []
          exact ⟨v, hs⟩
      | halt x w' => simp only [fqUpon] at h3
    obtain ⟨v, hv⟩ := this
    exact ⟨v, .inl ⟨rfl, w, hw', hv⟩⟩

theorem FOk.same {o : Oper} {a a' : Act} (he : execOp a'.eval o = execOp a.eval o) (hw : Region.wanted o (yielded ops a'.tmps) = Region.wanted o (yielded ops a.tmps)) : FOk P ops C S o a' ↔ FOk P ops C S o a := by
  unfold FOk Oper.fqOk
  rw [he, hw]
theorem FMay.same {o : Oper} {a a' : Act} {v : Value} (he : execOp a'.eval o = execOp a.eval o) (hw : Region.wanted o (yielded ops a'.tmps) = Region.wanted o (yielded ops a.tmps)) : FMay P ops C S o a' v ↔ FMay P ops C S o a v := by
  unfold FMay Oper.fqMay
  rw [he, hw]

/-- One operation 'oj', apart from 'oi': whether 'oi''s value is already in its temporary makes no difference to it, and it makes none to 'oi'. -/
theorem fOp_put {j : Nat} {oi oj : Oper} (hj : ops[j]? = some oj) (hap : oi.apart ops oj = true)
    (hsi : ∀ cs b, oi.op ≠ .select cs b) (hsj : ∀ cs b, oj.op ≠ .select cs b) {K : Act → Prop} {a : Act} (hC : ∃ w, C w)
    (hy : FOk P ops C S oi a) (h : ∀ v, FMay P ops C S oi a v → fOp P ops C S j K (a.put oi.dst v)) :
    fOp P ops C S j (fun a' => FOk P ops C S oi a' ∧ ∀ v, FMay P ops C S oi a' v → K (a'.put oi.dst v)) a := by
  obtain ⟨h1, h2, h3⟩ := Oper.apart_spec hap
  obtain ⟨v0, hv0⟩ := hy.some hC
  have hp := (fOp_iff hj).1 (h v0 hv0)
  rw [fOp_iff hj]
  refine ⟨(FOk.same (execOp_put oj hsj a oi.dst v0 h1) (wanted_put oj a oi.dst v0 h1)).1 hp.1, fun u hu => ⟨(FOk.same (execOp_put oi hsi a oj.dst u h3) (wanted_put oi a oj.dst u h3)).2 hy, fun v hv => ?_⟩⟩
  have hv' := (FMay.same (execOp_put oi hsi a oj.dst u h3) (wanted_put oi a oj.dst u h3)).1 hv
  have hq := ((fOp_iff hj).1 (h v hv')).2 u ((FMay.same (execOp_put oj hsj a oi.dst v h1) (wanted_put oj a oi.dst v h1)).2 hu)
  rw [← Act.put_comm a v u h2]
  exact hq

/-- The head in whatever order ('n': how many operations it has); 'L' is asked where it is done. -/
def wpAnyF (P : Program) (md : Region.Mode) (ops : Array Oper) (C : World → Prop) (S : FuncId → Array Value → Value → Prop) (n : Nat) (L : Array Bool → Act → Prop) : Nat → Array Bool → Act → Prop
  | 0, listed, a => L listed a
  | f + 1, listed, a => Region.ready md ops listed ≠ [] ∧ ∀ i ∈ Region.ready md ops listed, i < n ∧ fOp P ops C S i (wpAnyF P md ops C S n L f (listed.setIfInBounds i true)) a

theorem wpAny_of_fq {n g : Nat} {L : Array Bool → Act → Prop} {Q' : Exit → Act → World → Prop} (hL : ∀ listed a w, C w → L listed a → wpAny P md ops Q' g listed a w) :
    ∀ (f : Nat) (listed : Array Bool) (a : Act) (w : World), C w → wpAnyF P md ops C S n L f listed a → wpAny P md ops Q' (f + g) listed a w
  | 0, listed, a, w, hw, h => by rw [Nat.zero_add]; exact hL _ _ _ hw h
  | f + 1, listed, a, w, hw, h => by
    rw [show f + 1 + g = (f + g) + 1 by omega]
    exact ⟨fun h0 => absurd h0 h.1, fun i hi => wpOp_of_fOp hw (fun a' w' hw' h' => wpAny_of_fq hL f _ a' w' hw' h') (h.2 i hi).2⟩

theorem wpAnyF_first {n i : Nat} {oi : Oper} {L : Array Bool → Act → Prop} (hi : ops[i]? = some oi) (hsel : ∀ (j : Nat) (o : Oper) cs b, ops[j]? = some o → o.op ≠ .select cs b)
    (hin : i < n) (hlt : ∀ listed, HeadInv md ops n listed → (∃ i, i < n ∧ listed.getD i true = false) → ∀ j ∈ Region.ready md ops listed, j < n)
    (hdone : ∀ listed a, L listed a → ∀ j ∈ Region.ready md ops listed, n ≤ j) (hC : ∃ w, C w) :
    ∀ (f : Nat) (listed : Array Bool) (a : Act), HeadInv md ops n listed →
      (∀ j oj, ops[j]? = some oj → j ≠ i → listed.getD j true = false → (∀ e ∈ oj.after, Region.binds md e = true → e.on ≠ i) → oi.apart ops oj = true) →
      i ∈ Region.ready md ops listed → FOk P ops C S oi a →
      (∀ v, FMay P ops C S oi a v → wpAnyF P md ops C S n L f (listed.setIfInBounds i true) (a.put oi.dst v)) → wpAnyF P md ops C S n L (f + 1) listed a := by
  intro f
  induction f with
  | zero =>
    intro listed a inv _ hr hy H
    have hun := (mem_ready.1 hr).1
    refine ⟨fun h => (by rw [h] at hr; cases hr), fun j hj => ?_⟩
    refine ⟨hlt listed inv ⟨i, hin, hun⟩ j hj, ?_⟩
    by_cases hji : j = i
    · subst hji; exact (fOp_iff hi).2 ⟨hy, H⟩
    · obtain ⟨v, hv⟩ := hy.some hC
      have := hdone _ _ (H v hv) j (ready_mono hj hji)
      have := hlt listed inv ⟨i, hin, hun⟩ j hj
      omega
  | succ f ih =>
    intro listed a inv hfree hr hy H
    have hun := (mem_ready.1 hr).1
    refine ⟨fun h => (by rw [h] at hr; cases hr), fun j hj => ?_⟩
    have hjn := hlt listed inv ⟨i, hin, hun⟩ j hj
    refine ⟨hjn, ?_⟩
    by_cases hji : j = i
    · subst hji; exact (fOp_iff hi).2 ⟨hy, H⟩
    · have h1 : ∀ v, FMay P ops C S oi a v → fOp P ops C S j (wpAnyF P md ops C S n L f ((listed.setIfInBounds i true).setIfInBounds j true)) (a.put oi.dst v) := fun v hv => ((H v hv).2 j (ready_mono hj hji)).2
      obtain ⟨hjun, oj, hoj, hall⟩ := mem_ready.1 hj
      have hnot : ∀ e ∈ oj.after, Region.binds md e = true → e.on ≠ i := fun e he hb heq => by
        have h1 := hall e he hb
        rw [heq, getD_both hun] at h1
        cases h1
      have h2 := fOp_put hoj (hfree j oj hoj hji hjun hnot) (fun cs b => hsel i oi cs b hi) (fun cs b => hsel j oj cs b hoj) hC hy h1
      have hfree' : ∀ k ok, ops[k]? = some ok → k ≠ i → (listed.setIfInBounds j true).getD k true = false →
          (∀ e ∈ ok.after, Region.binds md e = true → e.on ≠ i) → oi.apart ops ok = true := fun k ok hk hki hun hno => by
        refine hfree k ok hk hki ?_ hno
        by_cases hjk : j = k
        · subst hjk; exact hjun
        · rw [getD_set_ne true hjk] at hun; exact hun
      refine fOp_mono (fun a' h3 => ih (listed.setIfInBounds j true) a' (inv.set hj hjn) hfree' (ready_mono hr (Ne.symm hji)) h3.1 (fun v hv => ?_)) h2
      rw [Array.setIfInBounds_comm _ _ hji]
      exact h3.2 v hv

theorem wpAnyF_lex {n g : Nat} {Lq : Act → Prop} (hsel : Region.noSelect ops = true)
    (hlt : ∀ listed, HeadInv md ops n listed → (∃ i, i < n ∧ listed.getD i true = false) → ∀ j ∈ Region.ready md ops listed, j < n) (hC : ∃ w, C w) :
    ∀ (l : List Oper) (k : Nat) (listed : Array Bool) (a : Act), (∀ j, j < l.length → l[j]? = ops[k + j]?) → k + l.length = n → HeadInv md ops n listed →
    Region.lexHead md ops g l.length k listed = true → wpFq P ops C S Lq l a →
    wpAnyF P md ops C S n (fun listed' a' => Region.seqB md ops g n listed' = true ∧ Lq a') l.length listed a
  | [], k, listed, a, _, hk, _, hB, h => by
    have : k = n := by simpa using hk
    subst this
    exact ⟨by simpa [Region.lexHead] using hB, h⟩
  | o :: l, k, listed, a, hl, hk, inv, hB, h => by
    have h0 : ops[k]? = some o := by simpa using (hl 0 (by simp)).symm
    simp only [List.length_cons, Region.lexHead, Bool.and_eq_true] at hB
    obtain ⟨⟨hr, hf⟩, hB'⟩ := hB
    have hkn : k < n := by simp only [List.length_cons] at hk; omega
    have hr' : k ∈ Region.ready md ops listed := by simpa using hr
    have hst : fOp P ops C S k (wpFq P ops C S Lq l) a := by unfold fOp; simp only [h0]; exact h
    obtain ⟨hy, hK⟩ := (fOp_iff h0).1 hst
    exact wpAnyF_first h0 (Region.noSelect_spec hsel) hkn hlt (fun listed' a' hL => seqB_ready hL.1) hC l.length listed a inv (Region.free_spec h0 hf) hr' hy
      (fun v hv => wpAnyF_lex hsel hlt hC l (k + 1) _ _ (fun j hj => by have := hl (j + 1) (by simp; omega); simpa [Nat.add_assoc, Nat.add_comm 1 j] using this) (by simp only [List.length_cons] at hk; omega) (inv.set hr' hkn) hB' (hK v hv))

/-- The Bool over a region: its first n operations in whatever order, the others behind them one by one. -/
def fqB (md : Region.Mode) (ops : Array Oper) (n : Nat) : Bool :=
  Region.noSelect ops && (decide (n = ops.size) || (decide (n < ops.size) && Region.sinkB md ops n && Region.chainB md ops n)) && Region.lexHead md ops (ops.size - n) n 0 (Array.replicate ops.size false)

theorem wp_region_fq {id : Nat} {Q : Exit → Act → World → Prop} {a : Act} {w : World} {l : List Oper} (n : Nat) (S : FuncId → Array Value → Value → Prop) (hm : P.follows .mixedOrders = true) (hB : fqB .any l.toArray n = true)
    (h : wpFq P l.toArray (fun w' => ∃ n, w' = w.drewN n) S (fun a' => ∀ m, wpList P l.toArray Q (l.drop n) a' (w.drewN m)) (l.take n) a) : (Code.region id l.toArray true).wp P Q a w := by
  simp only [fqB, Bool.and_eq_true, Bool.or_eq_true, decide_eq_true_eq] at hB
  obtain ⟨⟨hsel, hcase⟩, hlex⟩ := hB
  have hn : n ≤ l.toArray.size := by rcases hcase with h | h <;> omega
  have hn' : n ≤ l.length := by simpa using hn
  have htl : (l.take n).length = n := by simp; omega
  have hdl : (l.drop n).length = l.toArray.size - n := by simp
  have inv0 : HeadInv .any l.toArray n (Array.replicate l.toArray.size false) :=
    ⟨by simp, fun j oj _ hl => (by rw [getD_replicate_false] at hl; cases hl), fun t _ ht => getD_in (by simpa using ht) (getD_replicate_false _ _)⟩
  have hlt : ∀ listed, HeadInv .any l.toArray n listed → (∃ i, i < n ∧ listed.getD i true = false) → ∀ j ∈ Region.ready .any l.toArray listed, j < n := by
    rintro listed inv ⟨i, hi, hun⟩ j hj
    rcases hcase with hc | ⟨⟨hc, hs⟩, hch⟩
    · obtain ⟨_, oj, hoj, _⟩ := mem_ready.1 hj
      have := (Array.getElem?_eq_some_iff.1 hoj).1
      omega
    · rcases Nat.lt_or_ge j n with h | h
      · exact h
      · exact absurd hj (tail_waits hs hch hc inv _ i rfl hi hun j h)
  have H := wpAnyF_lex (md := .any) (g := l.toArray.size - n) hsel hlt ⟨w, 0, rfl⟩ (l.take n) 0 _ a (fun j hj => by
    have hj' : j < n := by rw [htl] at hj; exact hj
    simp [hj']) (by simpa using htl) inv0 (by rw [htl]; exact hlex) h
  refine wp_region_any hm ?_
  have := wpAny_of_fq (Q' := Q) (g := l.toArray.size - n) (fun listed a' w' hw' hL => by
    obtain ⟨m, rfl⟩ := hw'
    have := wpAny_of_seq (md := .any) (Q' := Q) (l.drop n) n listed a' (w.drewN m) (fun j => by simp [List.getElem?_drop]) (by rw [hdl]; exact hL.1) (hL.2 m)
    rwa [hdl] at this) _ _ _ { w with drawn := w.drawn + 1 } ⟨1, rfl⟩ H
  rw [htl, show n + (l.toArray.size - n) = l.toArray.size by omega] at this
  exact this

/-! ### The steps -/
variable {Q : Act → Prop} {a : Act} {o : Oper} {rest : List Oper}
theorem wpFq_nil (h : Q a) : wpFq P ops C S Q [] a := h
theorem wpFq_skip (hw : Region.wanted o (yielded ops a.tmps) = false) (h : wpFq P ops C S Q rest (a.put o.dst undef)) : wpFq P ops C S Q (o :: rest) a := by
  show if _ then _ else _
  rw [if_neg (by rw [hw]; exact Bool.false_ne_true)]
  exact h

/-- Operations that never call a Go function. -/
def plainOp : Op → Bool
  | .move _ | .assign _ | .pick .. | .load .. | .binOp .. | .unOp .. | .convert .. | .fieldAddr .. | .field .. | .indexAddr .. | .index .. | .extract .. => true
  | .call { callee := .builtin .len, .. } => true
  | _ => false

theorem noEnter_v {s : Sem Value} {w w' : World} {f : FuncId} {args : Array Value} : (do pure (Next.value (← s)) : Sem Next).run P w ≠ .ok (.enter f args) w' := by
  simp only [Sem.run_bind]
  cases s.run P w <;> simp [Result.andThen]

theorem noEnter_len (w : World) (ats : Array TypeId) (ty : TypeId) (cs : Array Bool) (xs : Array Value) {w' : World} {f : FuncId} {args : Array Value} : (builtin .len ats ty cs xs).run P w ≠ .ok (.enter f args) w' := by
  unfold builtin
  exact noEnter_v
theorem noEnter (h : plainOp o.op = true) (ρ : Operand → Value) {w w' : World} {f : FuncId} {args : Array Value} : (execOp ρ o).run P w ≠ .ok (.enter f args) w' := by
  unfold execOp
  unfold plainOp at h
  split at h <;> rename_i ho <;> simp only [ho]
  all_goals first
    | exact noEnter_v
    | (simp; done)
    | skip
  · simp only [Sem.run_bind]
    cases Sem.run P (asBool (ρ _)) w <;> simp [Result.andThen]
  · cases h

theorem fq_of_quiet (hp : plainOp o.op = true) {K : Act → Prop} (h : o.quiet P a C K) : Oper.fq P C S o a K := by
  obtain ⟨v, h1, h2⟩ := h
  refine ⟨fun w hw => ?_, fun u ⟨w, hw, hu⟩ => ?_⟩
  all_goals
    have h3 := h1 w hw
    unfold Oper.quietAt at h3
    generalize hr : (execOp a.eval o).run P w = r at *
    cases r with
    | ok n w' =>
      cases n <;> simp only [Oper.quietUpon] at h3
      case value x => first | (obtain ⟨rfl, rfl⟩ := h3; exact hw) | (obtain ⟨rfl, rfl⟩ := h3; simp only [fqGive] at hu; subst hu; exact h2)
      case skip => first | (obtain ⟨rfl, rfl⟩ := h3; exact hw) | (obtain ⟨rfl, rfl⟩ := h3; simp only [fqGive] at hu; subst hu; exact h2)
      case enter f args => exact absurd hr (noEnter hp _)
    | halt x w' => simp only [Oper.quietUpon] at h3

/-- One operation whose value is one, by the kit's own step. -/
theorem wpFq_one (hp : plainOp o.op = true) (h : wpQuiet P ops C (fun a => wpFq P ops C S Q rest a) [o] a) : wpFq P ops C S Q (o :: rest) a := by
  unfold wpQuiet at h
  show if _ then _ else _
  split
  · rename_i hw
    rw [if_pos hw] at h
    exact fq_of_quiet hp (Oper.quiet_mono (fun a h => h) h)
  · rename_i hw
    rw [if_neg hw] at h
    exact h

/-- An operation that yields one of some values, whatever the world. -/
theorem wpFq_some (hw : Region.wanted o (yielded ops a.tmps) = true) (φ : Value → Prop) (h1 : ∀ w, C w → ∃ v w1, (execOp a.eval o).run P w = .ok (.value v) w1 ∧ φ v ∧ C w1) (h : ∀ v, φ v → wpFq P ops C S Q rest (a.put o.dst v)) : wpFq P ops C S Q (o :: rest) a := by
  show if _ then _ else _
  rw [if_pos hw]
  refine ⟨fun w hc => ?_, fun v ⟨w, hc, hv⟩ => ?_⟩
  · obtain ⟨v, w1, e, _, hc1⟩ := h1 w hc
    rw [e]
    exact hc1
  · obtain ⟨u, w1, e, hu, _⟩ := h1 w hc
    rw [e] at hv
    simp only [fqGive] at hv
    subst hv
    exact h _ hu

theorem wpFq_nilc (hw : Region.wanted o (yielded ops a.tmps) = true) (x : Operand) (hop : o.op = .nilCheck x) (p : Addr) (hx : a.eval x = .pointer (some p)) (h : wpFq P ops C S Q rest (a.put o.dst (.pointer (some p)))) : wpFq P ops C S Q (o :: rest) a := by
  refine wpFq_some hw (fun v => v = .pointer (some p)) (fun w hc => ⟨_, w, ?_, rfl, hc⟩) (fun v hv => by rw [hv]; exact h)
  unfold execOp
  simp only [hop, hx]
  rfl
/-- A call of a Go function that only reads. -/
theorem wpFq_call (hw : Region.wanted o (yielded ops a.tmps) = true) (f : FuncId) (xs : Array Operand) (ats : Array TypeId) (args : List Value) (hop : o.op = .call { callee := .value (.func f), args := xs, argTypes := ats }) (hargs : xs.toList.map a.eval = args)
    (he : ∀ args w, (callFunc f args).run P w = .ok (.enter f args) w) (hc : ∀ w, C w → Calls P f args.toArray w fun e w2 => ∃ v, e = .returned v ∧ S f args.toArray v ∧ C w2) (h : ∀ v, S f args.toArray v → wpFq P ops C S Q rest (a.put o.dst v)) : wpFq P ops C S Q (o :: rest) a := by
  have hx : execOp a.eval o = callFunc f args.toArray := by
    have hy : args.toArray = #[] ++ xs.map a.eval ++ #[] := by rw [← hargs]; apply Array.ext'; simp
    rw [hy]
    cases o
    simp only at hop
    subst hop
    rfl
  show if _ then _ else _
  rw [if_pos hw]
  refine ⟨fun w hcw => ?_, fun v ⟨w, hcw, hv⟩ => ?_⟩
  · rw [hx, he]
    exact ⟨rfl, hc w hcw⟩
  · rw [hx, he] at hv
    exact h v hv
end

section
variable {P : Program} {ops : Array Oper} {w : World} {S : FuncId → Array Value → Value → Prop} {Q : Act → Prop} {a : Act} {o : Oper} {rest : List Oper}
/-- A float operation: whatever its bits, what they stand for is known. -/
theorem wpFq_fl (hw : Region.wanted o (yielded ops a.tmps) = true) (op : BinOp) (t t' : TypeId) (x y : Operand) (hop : o.op = .binOp op t x y t') (hf : fourOp op = true) (k : FloatKind) (bx by_ : Nat) (hx : a.eval x = .float k bx) (hy : a.eval y = .float k by_)
    (h : ∀ b, absF k b = opF op k (absF k bx) (absF k by_) → wpFq P ops (fun w' => ∃ n, w' = w.drewN n) S Q rest (a.put o.dst (.float k b))) : wpFq P ops (fun w' => ∃ n, w' = w.drewN n) S Q (o :: rest) a := by
  refine wpFq_some hw (fun v => ∃ b, v = .float k b ∧ absF k b = opF op k (absF k bx) (absF k by_)) (fun w' hc => ?_) (fun v ⟨b, e, hb⟩ => by rw [e]; exact h b hb)
  obtain ⟨n, rfl⟩ := hc
  refine ⟨_, (w.drewN n).drewN (flN op k bx by_), ?_, ⟨_, rfl, abs_flR op hf k bx by_ (w.drewN n)⟩, ⟨n + flN op k bx by_, by rw [World.drewN_drewN]⟩⟩
  have hg : eqGuard op t x y (.float k bx) (.float k by_) = pure () := by
    cases op <;> simp [fourOp] at hf <;> rfl
  unfold execOp
  simp only [hop, hx, hy, hg, Sem.run_bind, Sem.run_pure, Result.andThen_ok, run_fl op hf]
/-- 'float64(x)'. -/
theorem wpFq_up (hw : Region.wanted o (yielded ops a.tmps) = true) (src dst : TypeId) (x : Operand) (hop : o.op = .convert src dst x) (hs : (P.underlying src).isSome = true) (hd : P.underlying dst = some (.float .f64)) (bx : Nat) (hx : a.eval x = .float .f32 bx)
    (h : ∀ b, absF .f64 b = upF (absF .f32 bx) → wpFq P ops (fun w' => ∃ n, w' = w.drewN n) S Q rest (a.put o.dst (.float .f64 b))) : wpFq P ops (fun w' => ∃ n, w' = w.drewN n) S Q (o :: rest) a := by
  refine wpFq_some hw (fun v => ∃ b, v = .float .f64 b ∧ absF .f64 b = upF (absF .f32 bx)) (fun w' hc => ?_) (fun v ⟨b, e, hb⟩ => by rw [e]; exact h b hb)
  obtain ⟨n, rfl⟩ := hc
  refine ⟨_, (w.drewN n).drewN (upN bx), ?_, ⟨_, rfl, abs_upR bx (w.drewN n)⟩, ⟨n + upN bx, by rw [World.drewN_drewN]⟩⟩
  unfold execOp
  simp only [hop, hx, Sem.run_bind, Sem.run_pure, Result.andThen_ok, run_up src dst hs hd]
/-- 'float32(x)' of a float64 that is in range. -/
theorem wpFq_dn (hw : Region.wanted o (yielded ops a.tmps) = true) (src dst : TypeId) (x : Operand) (hop : o.op = .convert src dst x) (hs : (P.underlying src).isSome = true) (hd : P.underlying dst = some (.float .f32)) (bx : Nat) (hx : a.eval x = .float .f64 bx) (ho : dnOver bx = false)
    (h : ∀ b, absF .f32 b = dnF (absF .f64 bx) → wpFq P ops (fun w' => ∃ n, w' = w.drewN n) S Q rest (a.put o.dst (.float .f32 b))) : wpFq P ops (fun w' => ∃ n, w' = w.drewN n) S Q (o :: rest) a := by
  refine wpFq_some hw (fun v => ∃ b, v = .float .f32 b ∧ absF .f32 b = dnF (absF .f64 bx)) (fun w' hc => ?_) (fun v ⟨b, e, hb⟩ => by rw [e]; exact h b hb)
  obtain ⟨n, rfl⟩ := hc
  refine ⟨_, (w.drewN n).drewN (dnN bx), ?_, ⟨_, rfl, abs_dnR bx (w.drewN n) ho⟩, ⟨n + dnN bx, by rw [World.drewN_drewN]⟩⟩
  unfold execOp
  simp only [hop, hx, Sem.run_bind, Sem.run_pure, Result.andThen_ok, run_dn src dst hs hd]
end
end Go.Proofs.Ytimpabceellihaa
