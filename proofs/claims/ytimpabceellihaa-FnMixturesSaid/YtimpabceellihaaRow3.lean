/-
  A region that draws its order: what holds of every state on the way (those of its operations that have come up) holds at its end, whatever the order.
  Three rows appended to nothing and a variable, in every order: what holds on the way.
-/
import Derived.Test.YtimpabceellihaaOrdT
import Derived.Test.YtimpabceellihaaFitK
namespace Go.Proofs.Ytimpabceellihaa
section
open Go.RowKit

section
variable {P : Program} {ops : Array Oper} {Q : Exit → Act → World → Prop} {md : Region.Mode}

/-- How many have not come up. -/
def unup (ops : Array Oper) (listed : Array Bool) : Nat := ((List.range ops.size).filter fun i => !listed.getD i true).length
theorem filt_le {p q : Nat → Bool} (h : ∀ i, p i = true → q i = true) : ∀ l : List Nat, (l.filter p).length ≤ (l.filter q).length
  | [] => Nat.le_refl _
  | x :: l => by
    have := filt_le h l
    rw [List.filter_cons, List.filter_cons]
    by_cases hp : p x = true
    · rw [if_pos hp, if_pos (h x hp)]; simp; exact this
    · rw [if_neg hp]
      by_cases hq : q x = true
      · rw [if_pos hq]; simp; omega
      · rw [if_neg hq]; exact this
theorem filt_lt {p q : Nat → Bool} (h : ∀ i, p i = true → q i = true) {j : Nat} (hj : p j = false) (hq : q j = true) : ∀ l : List Nat, j ∈ l → (l.filter p).length < (l.filter q).length
  | [], hm => by cases hm
  | x :: l, hm => by
    rw [List.filter_cons, List.filter_cons]
    by_cases hx : j = x
    · subst hx
      rw [if_neg (by simp [hj]), if_pos hq]
      have := filt_le h l
      simp; omega
    · have hl := filt_lt h hj hq l ((List.mem_cons.1 hm).resolve_left hx)
      by_cases hp : p x = true
      · rw [if_pos hp, if_pos (h x hp)]; simp; exact hl
      · rw [if_neg hp]
        by_cases hq' : q x = true
        · rw [if_pos hq']; simp; omega
        · rw [if_neg hq']; exact hl
theorem unup_set {listed : Array Bool} {i : Nat} (hi : i ∈ Region.ready md ops listed) : unup ops (listed.setIfInBounds i true) < unup ops listed := by
  obtain ⟨h0, o, ho, _⟩ := mem_ready.1 hi
  have hlt : i < ops.size := (Array.getElem?_eq_some_iff.1 ho).1
  refine filt_lt (j := i) (fun k hk => ?_) ?_ (by simp only [h0, Bool.not_false]) _ (List.mem_range.2 hlt)
  · by_cases hki : i = k
    · subst hki; simp only [h0, Bool.not_false]
    · rw [getD_set_ne true hki] at hk; exact hk
  · have : (listed.setIfInBounds i true).getD i true = true := by
      rcases Nat.lt_or_ge i listed.size with h' | h'
      · simp [h']
      · simp
    simp only [this, Bool.not_true]
theorem wpAny_inv (I : Array Bool → Act → World → Prop) (hs : ∀ listed a w i, I listed a w → i ∈ Region.ready md ops listed → wpOp P ops Q i (I (listed.setIfInBounds i true)) a w)
    (he : ∀ listed a w, I listed a w → Region.ready md ops listed = [] → Q .normal a w) :
    ∀ (fuel : Nat) (listed : Array Bool) (a : Act) (w : World), unup ops listed ≤ fuel → I listed a w → wpAny P md ops Q fuel listed a w
  | 0, listed, a, w, hc, hI => by
    have hr : Region.ready md ops listed = [] := by
      apply List.eq_nil_iff_forall_not_mem.2
      intro i hi
      have := unup_set hi
      omega
    exact ⟨hr, he _ _ _ hI hr⟩
  | fuel + 1, listed, a, w, hc, hI => ⟨fun hr => he _ _ _ hI hr, fun i hi => wpOp_mono (fun a' w' h => wpAny_inv I hs he fuel _ a' w' (by have := unup_set hi; omega) h) (hs _ _ _ _ hI hi)⟩
theorem unup_le (listed : Array Bool) : unup ops listed ≤ ops.size := by
  unfold unup
  have := List.length_filter_le (fun i => !listed.getD i true) (List.range ops.size)
  rw [List.length_range] at this
  exact this
theorem up_waits {listed : Array Bool} {i : Nat} (hd : Down md ops listed) (hi : i ∈ Region.ready md ops listed) (n : Nat) (h : (List.range n).all (waits md ops ops.size i) = true) : ∀ j, j < n → listed.getD j false = true := by
  intro j hj
  refine waits_listed hd ops.size i j (List.all_eq_true.1 h j (List.mem_range.2 hj)) (fun o ho e he hb => ?_)
  obtain ⟨_, o', ho', hall⟩ := mem_ready.1 hi
  rw [ho] at ho'
  cases ho'
  exact hall e he hb
theorem wp_region_inv {id : Nat} {a : Act} {w : World} (I : Array Bool → Act → World → Prop) (hm : P.follows .mixedOrders = true) (h0 : I (Array.replicate ops.size false) a w.drew)
    (hs : ∀ listed a w i, Down .any ops listed → I listed a w → i ∈ Region.ready .any ops listed → wpOp P ops Q i (I (listed.setIfInBounds i true)) a w)
    (he : ∀ listed a w, I listed a w → Region.ready .any ops listed = [] → Q .normal a w) : (Code.region id ops true).wp P Q a w :=
  wp_region_any hm (wpAny_inv (fun listed a w => Down .any ops listed ∧ I listed a w) (fun listed a w i h hi => wpOp_mono (fun _ _ h' => ⟨h.1.set hi, h'⟩) (hs listed a w i h.1 h.2 hi)) (fun listed a w h hr => he listed a w h.2 hr) _ _ a w.drew (unup_le _) ⟨down_start _, h0⟩)

/-! ### what has come up, as a function of numbers -/
/-- Those that have come up. -/
def up (listed : Array Bool) (i : Nat) : Bool := listed.getD i false
theorem up_start (n i : Nat) : up (Array.replicate n false) i = false := by
  unfold up
  simp only [Array.getD_eq_getD_getElem?, Array.getElem?_replicate]
  split <;> rfl
theorem up_ne {listed : Array Bool} {i j : Nat} (h : i ≠ j) : up (listed.setIfInBounds i true) j = up listed j := getD_set_ne false h
theorem up_eq {listed : Array Bool} {i : Nat} (h : i < listed.size) : up (listed.setIfInBounds i true) i = true := by
  unfold up; simp [h]
theorem up_no {listed : Array Bool} {i : Nat} (hi : i ∈ Region.ready md ops listed) (h : listed.size = ops.size) : up listed i = false := by
  obtain ⟨h0, o, ho, _⟩ := mem_ready.1 hi
  have hlt : i < listed.size := by rw [h]; exact (Array.getElem?_eq_some_iff.1 ho).1
  unfold up
  simp [hlt] at h0 ⊢
  exact h0
def needB (md : Region.Mode) (ops : Array Oper) (i j : Nat) : Bool := ((ops[i]?).map fun o => o.after.any fun e => Region.binds md e && e.on == j).getD false
theorem up_need {listed : Array Bool} {i j : Nat} (hi : i ∈ Region.ready md ops listed) (h : needB md ops i j = true) : up listed j = true := by
  obtain ⟨h0, o, ho, hall⟩ := mem_ready.1 hi
  unfold needB at h
  rw [ho] at h
  simp only [Option.map_some, Option.getD_some] at h
  obtain ⟨e, he, hb⟩ := Array.any_eq_true'.1 h
  rw [Bool.and_eq_true, beq_iff_eq] at hb
  exact hb.2 ▸ hall e he hb.1
theorem ready_lt {listed : Array Bool} {i : Nat} (hi : i ∈ Region.ready md ops listed) : i < ops.size := by
  obtain ⟨h0, o, ho, _⟩ := mem_ready.1 hi
  exact (Array.getElem?_eq_some_iff.1 ho).1
/-- With a rank in which none waits for a later one, all have come up at the end. -/
theorem up_all {listed : Array Bool} (h : listed.size = ops.size) (hr : Region.ready md ops listed = []) (hord : (List.range ops.size).all (fun i => ((ops[i]?).map fun o => o.after.all fun e => !Region.binds md e || decide (e.on < i)).getD true) = true) :
    ∀ n i, i < n → i < ops.size → up listed i = true
  | 0, i, h, _ => by omega
  | n + 1, i, hin, hi => by
    cases hu : up listed i with
    | true => rfl
    | false =>
      exfalso
      have : i ∈ Region.ready md ops listed := by
        rw [mem_ready]
        obtain ⟨o, ho⟩ : ∃ o, ops[i]? = some o := ⟨ops[i], Array.getElem?_eq_getElem hi⟩
        refine ⟨?_, o, ho, fun e he hb => ?_⟩
        · have hlt : i < listed.size := by rw [h]; exact hi
          unfold up at hu
          simp [hlt] at hu ⊢
          exact hu
        · have h1 := List.all_eq_true.1 hord i (List.mem_range.2 hi)
          rw [ho] at h1
          simp only [Option.map_some, Option.getD_some] at h1
          have h2 := Array.all_eq_true'.1 h1 e he
          simp [hb] at h2
          exact up_all h hr hord n e.on (by omega) (by omega)
      rw [hr] at this
      cases this
end
end

section
open Go.RowKit

/-- Slots with values. -/
def putAll (a : Act) : List Nat → List Value → Act
  | s :: ss, v :: vs => putAll (a.put (some s) v) ss vs
  | _, _ => a
section
variable {P : Program} {ops : Array Oper} {Q : Exit → Act → World → Prop}
theorem putAll_nil (a : Act) (vs : List Value) : putAll a [] vs = a := by cases vs <;> rfl
theorem wp_region_slots {id : Nat} {a : Act} {w : World} (slots : List Nat) (I : Array Bool → List Value → World → Prop) (hm : P.follows .mixedOrders = true)
    (vs0 : List Value) (hv0 : a = putAll a slots vs0) (h0 : I (Array.replicate ops.size false) vs0 w.drew)
    (hs : ∀ listed vs w i, Down .any ops listed → I listed vs w → i ∈ Region.ready .any ops listed → wpOp P ops Q i (fun a' w' => ∃ vs', a' = putAll a slots vs' ∧ I (listed.setIfInBounds i true) vs' w') (putAll a slots vs) w)
    (he : ∀ listed vs w, I listed vs w → Region.ready .any ops listed = [] → Q .normal (putAll a slots vs) w) : (Code.region id ops true).wp P Q a w :=
  wp_region_inv (fun listed a' w' => ∃ vs, a' = putAll a slots vs ∧ I listed vs w') hm ⟨vs0, hv0, h0⟩
    (fun listed a' w' i hd h hi => by
      obtain ⟨vs, rfl, h⟩ := h
      exact hs listed vs w' i hd h hi)
    (fun listed a' w' h hr => by
      obtain ⟨vs, rfl, h⟩ := h
      exact he listed vs w' h hr)
end

/-- Three cells. -/
structure C3 (a0 a1 a2 : Addr) (v0 v1 v2 : Value) (w : World) : Prop where
  c0 : w.cell? a0 = some v0
  c1 : w.cell? a1 = some v1
  c2 : w.cell? a2 = some v2
theorem C3.below' {a0 a1 a2 : Addr} {v0 v1 v2 : Value} {B : Nat} {w w' : World} (h : C3 a0 a1 a2 v0 v1 v2 w) (hb : Below B w w') (h0 : a0.block < B) (h1 : a1.block < B) (h2 : a2.block < B) : C3 a0 a1 a2 v0 v1 v2 w' :=
  ⟨(hb.cell h0).trans h.c0, (hb.cell h1).trans h.c1, (hb.cell h2).trans h.c2⟩
/-- Three rows in the making, and perhaps the variable for them. -/
structure Q4 (base : Nat) (w : World) (vs : List Value) (cs : List (List Nat)) (S : Option Nat) : Prop where
  len : vs.length = cs.length
  own : ∀ (j : Nat) (v : Value) (c : List Nat), vs[j]? = some v → cs[j]? = some c → Own fV 39 w base v c
  ap : ∀ (i j : Nat) (u v : Value), i ≠ j → vs[i]? = some u → vs[j]? = some v → u.ownBlock = none ∨ u.ownBlock ≠ v.ownBlock
  box : ∀ s, S = some s → BoxAt w s [.slice none 0 0, .slice none 0 0, .slice none 0 0] ∧ (∀ (j : Nat) (v : Value), vs[j]? = some v → v.ownBlock ≠ some s) ∧ base ≤ s
section
variable {base : Nat} {w w' : World} {v' v : Value} {vs : List Value} {cs : List (List Nat)} {c' : List Nat} {S : Option Nat} {j : Nat}
theorem Q4.nil (base : Nat) (w : World) : Q4 base w [.slice none 0 0, .slice none 0 0, .slice none 0 0] [[], [], []] none :=
  ⟨rfl, fun j v c h1 h2 => (by rcases j with _ | _ | _ | j <;> simp at h1 h2 <;> subst h1 <;> subst h2 <;> exact Own.nil), fun i j u v _ h1 _ => (by rcases i with _ | _ | _ | i <;> simp at h1 <;> subst h1 <;> exact .inl rfl), fun s h => by cases h⟩
theorem Q4.put (h : Q4 base w vs cs S) (hv : vs[j]? = some v) (ho : Own fV 39 w' base v' c') (hg : w.grownBy w' v.ownBlock) (hp : v'.ownBlock = v.ownBlock ∨ v'.ownBlock = some w.heap.size) : Q4 base w' (vs.set j v') (cs.set j c') S := by
  have hjl := lt_of_get hv
  have hav : ∀ (i : Nat) (u : Value), i ≠ j → vs[i]? = some u → u.ownBlock = none ∨ u.ownBlock ≠ v'.ownBlock := by
    intro i u hi hu
    rcases hp with e | e <;> rw [e]
    · exact h.ap i j u v hi hu hv
    · cases hub : u.ownBlock with
      | none => exact .inl rfl
      | some b =>
        refine .inr fun e2 => ?_
        obtain ⟨c2, hc2⟩ := get_of_lt (xs := cs) (k := i) (by have := lt_of_get hu; rw [← h.len]; exact this)
        have := ((h.own i u c2 hu hc2).lt b hub).2
        injection e2
        omega
  refine ⟨by rw [List.length_set, List.length_set]; exact h.len, fun i u d hu hd => ?_, fun i k u x hik hu hx => ?_, fun s hs => ?_⟩
  · rw [List.getElem?_set] at hu hd
    by_cases e : j = i
    · subst e
      rw [if_pos rfl, if_pos hjl] at hu
      rw [if_pos rfl, if_pos (by rw [← h.len]; exact hjl)] at hd
      cases hu; cases hd
      exact ho
    · rw [if_neg e] at hu hd
      exact (h.own i u d hu hd).kept hg (h.ap i j u v (fun e' => e e'.symm) hu hv)
  · rw [List.getElem?_set] at hu hx
    by_cases e : j = i
    · subst e
      rw [if_pos rfl, if_pos hjl] at hu
      rw [if_neg hik] at hx
      cases hu
      exact apart_symm (hav k x (fun e' => hik e'.symm) hx)
    · rw [if_neg e] at hu
      by_cases e2 : j = k
      · subst e2
        rw [if_pos rfl, if_pos hjl] at hx
        cases hx
        exact hav i u hik hu
      · rw [if_neg e2] at hx
        exact h.ap i k u x hik hu hx
  · obtain ⟨k1, k2, k3⟩ := h.box s hs
    refine ⟨k1.kept hg (k2 j v hv), fun i u hu => ?_, k3⟩
    rw [List.getElem?_set] at hu
    by_cases e : j = i
    · subst e
      rw [if_pos rfl, if_pos hjl] at hu
      cases hu
      rcases hp with e' | e' <;> rw [e']
      · exact k2 j v hv
      · have hl := k1.lt
        intro e2; injection e2; omega
    · rw [if_neg e] at hu
      exact k2 i u hu
theorem Q4.make (h : Q4 base w vs cs S) (hb : base ≤ w.heap.size) (hv : vs[j]? = some v) : Q4 base (w.alloc (.cells #[] 39)) (vs.set j (.slice (some ⟨w.heap.size, 0, none⟩) 0 0)) (cs.set j []) S :=
  h.put hv ((own_nil_new fV w _).base_ hb) ⟨rfl, rfl, rfl, by simp, fun k hk _ => (below_alloc w _).block k hk⟩ (.inr rfl)
theorem Q4.room (h : Q4 base w vs cs none) (hb : base ≤ w.heap.size) (T : TypeId) : Q4 base (w.alloc (.cells #[.slice none 0 0, .slice none 0 0, .slice none 0 0] T)) vs cs (some w.heap.size) := by
  refine ⟨h.len, fun j v c h1 h2 => (h.own j v c h1 h2).alloc _, h.ap, fun s hs => ?_⟩
  injection hs with hs
  subst hs
  refine ⟨BoxAt.new w [.slice none 0 0, .slice none 0 0, .slice none 0 0] T, fun j v h1 e => ?_, hb⟩
  obtain ⟨c, hc⟩ := get_of_lt (xs := cs) (k := j) (by rw [← h.len]; exact lt_of_get h1)
  have := ((h.own j v c h1 hc).lt _ e).2
  omega
theorem Q4.held {w1 : World} {s : Nat} {a b c : Value} {xs ys zs : List Nat} (h : Q4 w1.heap.size w [a, b, c] [xs, ys, zs] (some s)) (hb : Below w1.heap.size w1 w) : Made xs ys zs w1 (((w.setCell ⟨s, 0, none⟩ a).setCell ⟨s, 1, none⟩ b).setCell ⟨s, 2, none⟩ c) (.pointer (some ⟨s, 0, none⟩)) := by
  obtain ⟨k1, k2, k3⟩ := h.box s rfl
  exact ⟨s, a, b, c, rfl, cols3_set k1 (h.own 0 _ _ rfl rfl) (h.own 1 _ _ rfl rfl) (h.own 2 _ _ rfl rfl) (k2 0 _ rfl) (k2 1 _ rfl) (k2 2 _ rfl) (h.ap 0 1 _ _ (by decide) rfl rfl) (h.ap 0 2 _ _ (by decide) rfl rfl) (h.ap 1 2 _ _ (by decide) rfl rfl), ((hb.setCell (p := ⟨s, 0, none⟩) k3 _).setCell (p := ⟨s, 1, none⟩) k3 _).setCell (p := ⟨s, 2, none⟩) k3 _, k3⟩
end
def upd (u : Nat → Bool) (i : Nat) : Nat → Bool := fun j => if j = i then true else u j
def updz (z : Nat → Value) (i : Nat) (v : Value) : Nat → Value := fun j => if j = i then v else z j
theorem up_set {listed : Array Bool} {i : Nat} (h : i < listed.size) : up (listed.setIfInBounds i true) = upd (up listed) i := by
  funext j
  unfold upd
  by_cases e : j = i
  · subst e; rw [if_pos rfl]; exact up_eq h
  · rw [if_neg e]; exact up_ne (fun e' => e e'.symm)
def row3 (u : Nat → Bool) (z : Nat → Value) (j : Nat) : Value := if u (4 * j + 3) = true then z (4 * j + 3) else if u (4 * j) = true then z (4 * j) else .slice none 0 0
def cnt3 (u : Nat → Bool) (xs : Nat → List Nat) (j : Nat) : List Nat := if u (4 * j + 3) = true then xs j else []
structure J3 (b : Nat) (V : Nat → Value) (xs : Nat → List Nat) (W : World) (u : Nat → Bool) (z : Nat → Value) (S : Nat) (w : World) : Prop where
  low : Below W.heap.size W w
  q : Q4 W.heap.size w [row3 u z 0, row3 u z 1, row3 u z 2] [cnt3 u xs 0, cnt3 u xs 1, cnt3 u xs 2] (if u 13 = true then some S else none)
  link : ∀ j, j < 3 → u (4 * j + 3) = true → u (4 * j) = true
  a1 : ∀ j, j < 3 → u (4 * j + 1) = true → z (4 * j + 1) = .pointer (some ⟨b, j, none⟩)
  a2 : ∀ j, j < 3 → u (4 * j + 2) = true → z (4 * j + 2) = V j
  a12 : u 12 = true → z 12 = mxV (z 3) (z 7) (z 11) ∧ u 3 = true ∧ u 7 = true ∧ u 11 = true
  a13 : u 13 = true → z 13 = .pointer (some ⟨S, 0, none⟩)
section
variable {b S : Nat} {V : Nat → Value} {xs : Nat → List Nat} {W w w' : World} {u : Nat → Bool} {z : Nat → Value} {j : Nat} {v : Value}
theorem set3 {α : Type _} {a0 a1 a2 b0 b1 b2 x : α} (hj : j < 3) (h0 : b0 = if j = 0 then x else a0) (h1 : b1 = if j = 1 then x else a1) (h2 : b2 = if j = 2 then x else a2) : [b0, b1, b2] = [a0, a1, a2].set j x := by
  subst h0 h1 h2
  rcases j with _ | _ | _ | j
  · rfl
  · rfl
  · rfl
  · omega
theorem row3_mk (hj : j < 3) (h0 : u (4 * j) = false) (hl : ∀ j, j < 3 → u (4 * j + 3) = true → u (4 * j) = true) (k : Nat) : row3 (upd u (4 * j)) (updz z (4 * j) v) k = if j = k then v else row3 u z k := by
  unfold row3 upd updz
  by_cases e : j = k
  · subst e
    have h3 : u (4 * j + 3) = false := by
      cases h : u (4 * j + 3) with
      | false => rfl
      | true => rw [hl j hj h] at h0; cases h0
    simp [h3]
  · have e1 : ¬ 4 * k + 3 = 4 * j := by omega
    have e2 : ¬ 4 * k = 4 * j := by omega
    simp only [if_neg e1, if_neg e2, if_neg e]
theorem cnt3_mk (k : Nat) : cnt3 (upd u (4 * j)) xs k = cnt3 u xs k := by
  unfold cnt3 upd
  have e1 : ¬ 4 * k + 3 = 4 * j := by omega
  simp only [if_neg e1]
theorem row3_app (k : Nat) : row3 (upd u (4 * j + 3)) (updz z (4 * j + 3) v) k = if j = k then v else row3 u z k := by
  unfold row3 upd updz
  by_cases e : j = k
  · subst e
    simp
  · have e1 : ¬ 4 * k + 3 = 4 * j + 3 := by omega
    have e2 : ¬ 4 * k = 4 * j + 3 := by omega
    simp only [if_neg e1, if_neg e2, if_neg e]
theorem cnt3_app (k : Nat) : cnt3 (upd u (4 * j + 3)) xs k = if j = k then xs j else cnt3 u xs k := by
  unfold cnt3 upd
  by_cases e : j = k
  · subst e; simp
  · have e1 : ¬ 4 * k + 3 = 4 * j + 3 := by omega
    simp only [if_neg e1, if_neg e]
theorem row3_other {i : Nat} (h1 : ∀ k, k < 3 → i ≠ 4 * k ∧ i ≠ 4 * k + 3) (k : Nat) (hk : k < 3) : row3 (upd u i) (updz z i v) k = row3 u z k := by
  unfold row3 upd updz
  have := h1 k hk
  have e1 : ¬ 4 * k + 3 = i := by omega
  have e2 : ¬ 4 * k = i := by omega
  simp only [if_neg e1, if_neg e2]
theorem cnt3_other {i : Nat} (h1 : ∀ k, k < 3 → i ≠ 4 * k ∧ i ≠ 4 * k + 3) (k : Nat) (hk : k < 3) : cnt3 (upd u i) xs k = cnt3 u xs k := by
  unfold cnt3 upd
  have := h1 k hk
  have e1 : ¬ 4 * k + 3 = i := by omega
  simp only [if_neg e1]
theorem upd_true {i k : Nat} (h : u k = true) : upd u i k = true := by
  unfold upd; split <;> first | rfl | exact h
theorem upd_ne {i k : Nat} (h : k ≠ i) : upd u i k = u k := by unfold upd; rw [if_neg h]
theorem updz_ne {i k : Nat} (h : k ≠ i) : updz z i v k = z k := by unfold updz; rw [if_neg h]
theorem upd_self {i : Nat} : upd u i i = true := by unfold upd; rw [if_pos rfl]
theorem updz_self {i : Nat} : updz z i v i = v := by unfold updz; rw [if_pos rfl]
theorem J3.start (W : World) : J3 b V xs W (up (Array.replicate 15 false)) z S W.drew := by
  have hu : ∀ j, up (Array.replicate 15 false) j = false := up_start 15
  refine ⟨(Below.refl _ _).drew, ?_, fun j _ h => ?_, fun j _ h => ?_, fun j _ h => ?_, fun h => ?_, fun h => ?_⟩
  · unfold row3 cnt3
    simp only [hu]
    exact Q4.nil _ _
  all_goals (rw [hu] at h; cases h)
theorem J3.make (h : J3 b V xs W u z S w) (hj : j < 3) (h0 : u (4 * j) = false) :
    J3 b V xs W (upd u (4 * j)) (updz z (4 * j) (.slice (some ⟨w.heap.size, 0, none⟩) 0 0)) S (w.alloc (.cells #[] 39)) := by
  have h3 : u (4 * j + 3) = false := by
    cases hh : u (4 * j + 3) with
    | false => rfl
    | true => rw [h.link j hj hh] at h0; cases h0
  refine ⟨h.low.alloc h.low.size _, ?_, fun k hk hu => ?_, fun k hk hu => ?_, fun k hk hu => ?_, fun hu => ?_, fun hu => ?_⟩
  · have hr : [row3 u z 0, row3 u z 1, row3 u z 2][j]? = some (row3 u z j) := by rcases j with _ | _ | _ | j <;> first | rfl | omega
    have := h.q.make (j := j) h.low.size hr
    rw [set3 hj (row3_mk hj h0 h.link 0) (row3_mk hj h0 h.link 1) (row3_mk hj h0 h.link 2), cnt3_mk, cnt3_mk, cnt3_mk, upd_ne (by omega)]
    have hc : [cnt3 u xs 0, cnt3 u xs 1, cnt3 u xs 2].set j [] = [cnt3 u xs 0, cnt3 u xs 1, cnt3 u xs 2] := by
      have hcj : cnt3 u xs j = [] := by unfold cnt3; rw [h3]; rfl
      rcases j with _ | _ | _ | j
      · simp [hcj]
      · simp [hcj]
      · simp [hcj]
      · omega
    rw [hc] at this
    exact this
  · rw [upd_ne (by omega)] at hu
    exact upd_true (h.link k hk hu)
  · rw [upd_ne (by omega)] at hu
    rw [updz_ne (by omega)]; exact h.a1 k hk hu
  · rw [upd_ne (by omega)] at hu
    rw [updz_ne (by omega)]; exact h.a2 k hk hu
  · rw [upd_ne (by omega)] at hu
    obtain ⟨e, e3, e7, e11⟩ := h.a12 hu
    rw [updz_ne (by omega), updz_ne (by omega), updz_ne (by omega), updz_ne (by omega)]
    exact ⟨e, upd_true e3, upd_true e7, upd_true e11⟩
  · rw [upd_ne (by omega)] at hu
    rw [updz_ne (by omega)]; exact h.a13 hu
theorem J3.app (h : J3 b V xs W u z S w) (hj : j < 3) (h3 : u (4 * j + 3) = false) (h0 : u (4 * j) = true) (ho : Own fV 39 w' W.heap.size v (xs j)) (hg : w.grownBy w' (z (4 * j)).ownBlock)
    (hb : Below W.heap.size w w') (hp : v.ownBlock = (z (4 * j)).ownBlock ∨ v.ownBlock = some w.heap.size) :
    J3 b V xs W (upd u (4 * j + 3)) (updz z (4 * j + 3) v) S w' := by
  refine ⟨h.low.trans hb, ?_, fun k hk hu => ?_, fun k hk hu => ?_, fun k hk hu => ?_, fun hu => ?_, fun hu => ?_⟩
  · have hz : row3 u z j = z (4 * j) := by unfold row3; rw [h3, h0]; rfl
    have hr : [row3 u z 0, row3 u z 1, row3 u z 2][j]? = some (row3 u z j) := by rcases j with _ | _ | _ | j <;> first | rfl | omega
    rw [hz] at hr
    have := h.q.put (j := j) hr ho hg hp
    rw [set3 hj (row3_app 0) (row3_app 1) (row3_app 2), set3 hj (cnt3_app 0) (cnt3_app 1) (cnt3_app 2), upd_ne (by omega)]
    exact this
  · by_cases e : k = j
    · subst e; exact upd_true h0
    · rw [upd_ne (by omega)] at hu
      exact upd_true (h.link k hk hu)
  · rw [upd_ne (by omega)] at hu
    rw [updz_ne (by omega)]; exact h.a1 k hk hu
  · rw [upd_ne (by omega)] at hu
    rw [updz_ne (by omega)]; exact h.a2 k hk hu
  · rw [upd_ne (by omega)] at hu
    obtain ⟨e, e3, e7, e11⟩ := h.a12 hu
    have hne : ∀ k, k < 3 → u (4 * k + 3) = true → 4 * k + 3 ≠ 4 * j + 3 := fun k _ hk e => by rw [e, h3] at hk; cases hk
    rw [updz_ne (by omega), updz_ne (hne 0 (by omega) e3), updz_ne (hne 1 (by omega) e7), updz_ne (hne 2 (by omega) e11)]
    exact ⟨e, upd_true e3, upd_true e7, upd_true e11⟩
  · rw [upd_ne (by omega)] at hu
    rw [updz_ne (by omega)]; exact h.a13 hu
theorem J3.addr (h : J3 b V xs W u z S w) (hj : j < 3) : J3 b V xs W (upd u (4 * j + 1)) (updz z (4 * j + 1) (.pointer (some ⟨b, j, none⟩))) S w := by
  have hq : ∀ k, k < 3 → 4 * j + 1 ≠ 4 * k ∧ 4 * j + 1 ≠ 4 * k + 3 := fun k hk => ⟨by omega, by omega⟩
  refine ⟨h.low, ?_, fun k hk hu => ?_, fun k hk hu => ?_, fun k hk hu => ?_, fun hu => ?_, fun hu => ?_⟩
  · rw [row3_other hq 0 (by omega), row3_other hq 1 (by omega), row3_other hq 2 (by omega), cnt3_other hq 0 (by omega), cnt3_other hq 1 (by omega), cnt3_other hq 2 (by omega), upd_ne (by omega)]
    exact h.q
  · rw [upd_ne (by omega)] at hu
    exact upd_true (h.link k hk hu)
  · by_cases e : k = j
    · subst e; exact updz_self
    · rw [upd_ne (by omega)] at hu
      rw [updz_ne (by omega)]; exact h.a1 k hk hu
  · rw [upd_ne (by omega)] at hu
    rw [updz_ne (by omega)]; exact h.a2 k hk hu
  · rw [upd_ne (by omega)] at hu
    obtain ⟨e, e3, e7, e11⟩ := h.a12 hu
    rw [updz_ne (by omega), updz_ne (by omega), updz_ne (by omega), updz_ne (by omega)]
    exact ⟨e, upd_true e3, upd_true e7, upd_true e11⟩
  · rw [upd_ne (by omega)] at hu
    rw [updz_ne (by omega)]; exact h.a13 hu
theorem J3.load (h : J3 b V xs W u z S w) (hj : j < 3) : J3 b V xs W (upd u (4 * j + 2)) (updz z (4 * j + 2) (V j)) S w := by
  have hq : ∀ k, k < 3 → 4 * j + 2 ≠ 4 * k ∧ 4 * j + 2 ≠ 4 * k + 3 := fun k hk => ⟨by omega, by omega⟩
  refine ⟨h.low, ?_, fun k hk hu => ?_, fun k hk hu => ?_, fun k hk hu => ?_, fun hu => ?_, fun hu => ?_⟩
  · rw [row3_other hq 0 (by omega), row3_other hq 1 (by omega), row3_other hq 2 (by omega), cnt3_other hq 0 (by omega), cnt3_other hq 1 (by omega), cnt3_other hq 2 (by omega), upd_ne (by omega)]
    exact h.q
  · rw [upd_ne (by omega)] at hu
    exact upd_true (h.link k hk hu)
  · rw [upd_ne (by omega)] at hu
    rw [updz_ne (by omega)]; exact h.a1 k hk hu
  · by_cases e : k = j
    · subst e; exact updz_self
    · rw [upd_ne (by omega)] at hu
      rw [updz_ne (by omega)]; exact h.a2 k hk hu
  · rw [upd_ne (by omega)] at hu
    obtain ⟨e, e3, e7, e11⟩ := h.a12 hu
    rw [updz_ne (by omega), updz_ne (by omega), updz_ne (by omega), updz_ne (by omega)]
    exact ⟨e, upd_true e3, upd_true e7, upd_true e11⟩
  · rw [upd_ne (by omega)] at hu
    rw [updz_ne (by omega)]; exact h.a13 hu
theorem J3.build (h : J3 b V xs W u z S w) (e3 : u 3 = true) (e7 : u 7 = true) (e11 : u 11 = true) : J3 b V xs W (upd u 12) (updz z 12 (mxV (z 3) (z 7) (z 11))) S w := by
  have hq : ∀ k, k < 3 → 12 ≠ 4 * k ∧ 12 ≠ 4 * k + 3 := fun k hk => ⟨by omega, by omega⟩
  refine ⟨h.low, ?_, fun k hk hu => ?_, fun k hk hu => ?_, fun k hk hu => ?_, fun hu => ?_, fun hu => ?_⟩
  · rw [row3_other hq 0 (by omega), row3_other hq 1 (by omega), row3_other hq 2 (by omega), cnt3_other hq 0 (by omega), cnt3_other hq 1 (by omega), cnt3_other hq 2 (by omega), upd_ne (by omega)]
    exact h.q
  · rw [upd_ne (by omega)] at hu
    exact upd_true (h.link k hk hu)
  · rw [upd_ne (by omega)] at hu
    rw [updz_ne (by omega)]; exact h.a1 k hk hu
  · rw [upd_ne (by omega)] at hu
    rw [updz_ne (by omega)]; exact h.a2 k hk hu
  · rw [updz_self, updz_ne (by omega), updz_ne (by omega), updz_ne (by omega)]
    exact ⟨rfl, upd_true e3, upd_true e7, upd_true e11⟩
  · rw [upd_ne (by omega)] at hu
    rw [updz_ne (by omega)]; exact h.a13 hu
theorem J3.room (h : J3 b V xs W u z S w) (h13 : u 13 = false) (T : TypeId) : J3 b V xs W (upd u 13) (updz z 13 (.pointer (some ⟨w.heap.size, 0, none⟩))) w.heap.size (w.alloc (.cells #[.slice none 0 0, .slice none 0 0, .slice none 0 0] T)) := by
  have hq : ∀ k, k < 3 → 13 ≠ 4 * k ∧ 13 ≠ 4 * k + 3 := fun k hk => ⟨by omega, by omega⟩
  refine ⟨h.low.alloc h.low.size _, ?_, fun k hk hu => ?_, fun k hk hu => ?_, fun k hk hu => ?_, fun hu => ?_, fun hu => ?_⟩
  · rw [row3_other hq 0 (by omega), row3_other hq 1 (by omega), row3_other hq 2 (by omega), cnt3_other hq 0 (by omega), cnt3_other hq 1 (by omega), cnt3_other hq 2 (by omega), upd_self]
    have := h.q
    rw [h13] at this
    exact this.room h.low.size T
  · rw [upd_ne (by omega)] at hu
    exact upd_true (h.link k hk hu)
  · rw [upd_ne (by omega)] at hu
    rw [updz_ne (by omega)]; exact h.a1 k hk hu
  · rw [upd_ne (by omega)] at hu
    rw [updz_ne (by omega)]; exact h.a2 k hk hu
  · rw [upd_ne (by omega)] at hu
    obtain ⟨e, e3, e7, e11⟩ := h.a12 hu
    rw [updz_ne (by omega), updz_ne (by omega), updz_ne (by omega), updz_ne (by omega)]
    exact ⟨e, upd_true e3, upd_true e7, upd_true e11⟩
  · exact updz_self
/-- The row that is to be appended to. -/
theorem J3.made (h : J3 b V xs W u z S w) (hj : j < 3) (h3 : u (4 * j + 3) = false) (h0 : u (4 * j) = true) : Own fV 39 w W.heap.size (z (4 * j)) [] := by
  have hz : row3 u z j = z (4 * j) := by unfold row3; rw [h3, h0]; rfl
  have hc : cnt3 u xs j = [] := by unfold cnt3; rw [h3]; rfl
  have := h.q.own j (row3 u z j) (cnt3 u xs j) (by rcases j with _ | _ | _ | j <;> first | rfl | omega) (by rcases j with _ | _ | _ | j <;> first | rfl | omega)
  rw [hz, hc] at this
  exact this
theorem J3.done (h : J3 b V xs W u z S w) (hj : j < 3) (h3 : u (4 * j + 3) = true) : Own fV 39 w W.heap.size (z (4 * j + 3)) (xs j) := by
  have hz : row3 u z j = z (4 * j + 3) := by unfold row3; rw [h3]; rfl
  have hc : cnt3 u xs j = xs j := by unfold cnt3; rw [h3]; rfl
  have := h.q.own j (row3 u z j) (cnt3 u xs j) (by rcases j with _ | _ | _ | j <;> first | rfl | omega) (by rcases j with _ | _ | _ | j <;> first | rfl | omega)
  rw [hz, hc] at this
  exact this
theorem updz_same {i : Nat} (h : z i = v) : updz z i v = z := by
  funext j
  unfold updz
  by_cases e : j = i
  · rw [if_pos e, e, h]
  · rw [if_neg e]
theorem J3.whole (h : J3 b V xs W u z S w) (e3 : u 3 = true) (e7 : u 7 = true) (e11 : u 11 = true) (e13 : u 13 = true) : Q4 W.heap.size w [z 3, z 7, z 11] [xs 0, xs 1, xs 2] (some S) := by
  have := h.q
  unfold row3 cnt3 at this
  simp only [Nat.mul_zero, Nat.zero_add, Nat.mul_one, Nat.reduceMul, Nat.reduceAdd, e3, e7, e11, e13, if_true] at this
  exact this
/-- The whole of it: the store is last. -/
def I3 (b : Nat) (V : Nat → Value) (xs : Nat → List Nat) (W : World) (listed : Array Bool) (vs : List Value) (w : World) : Prop :=
  listed.size = 15 ∧ ∃ (z : Nat → Value) (S : Nat), vs = [z 0, z 1, z 2, z 3, z 4, z 5, z 6, z 7, z 8, z 9, z 10, z 11, z 12, z 13] ∧
    if up listed 14 = true then (∀ j, j < 14 → up listed j = true) ∧ Made (xs 0) (xs 1) (xs 2) W w (z 13) else J3 b V xs W (up listed) z S w
end
end
end Go.Proofs.Ytimpabceellihaa
