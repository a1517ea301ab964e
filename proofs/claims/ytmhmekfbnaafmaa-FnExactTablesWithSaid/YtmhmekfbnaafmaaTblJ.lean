/-
  Tables with sums told: the walk of impl.eachRow and of what it calls again and again.
-/
import Derived.Test.YtmhmekfbnaafmaaTblI
import Derived.Test.YtmhmekfbnaafmaaApp
namespace Go.Proofs.Ytmhmekfbnaafmaa
open Go.RowKit Go.Maps

theorem enter_put (args : Array Value) (w : World) : (callFunc 68 args).run Try.prog w = .ok (.enter 68 args) w := enter_of Try.func68 (by kernel_rfl) (by kernel_rfl) args w
theorem enter_visit (args : Array Value) (w : World) : (callFunc 56 args).run Try.prog w = .ok (.enter 56 args) w := enter_of Try.func56 (by kernel_rfl) (by kernel_rfl) args w
theorem one_iV' : ∀ x : Int, (iV x).oneCell' = true := fun _ => rfl

theorem BoxAt.grown {w w' : World} {b : Nat} {vs : List Value} (h : BoxAt w b vs) {row : Option Nat} (hg : w.grownBy w' row) (hne : some b ≠ row) : BoxAt w' b vs :=
  ⟨Nat.lt_of_lt_of_le h.lt hg.size, fun i v hv => (World.cell?_of_block (w := w) (hg.block b h.lt hne)).trans (h.cell i v hv), fun i => (World.frozen?_of_block (w := w) (hg.block b h.lt hne)).trans (h.free i)⟩
/-- A row of the call's own, cut short. -/
theorem Own.cut {α : Type} {f : α → Value} {E : TypeId} {w : World} {base g n cap : Nat} {xs : List α} (h : Own f E w base (.slice (some ⟨g, 0, none⟩) n cap) xs) {k : Nat} (hk : k ≤ xs.length) : Own f E w base (.slice (some ⟨g, 0, none⟩) k cap) (xs.take k) := by
  have hl : (xs.take k).length = k := by rw [List.length_take]; omega
  unfold Own
  rw [hl]
  refine ⟨by rw [List.length_map, hl, Nat.mul_one], ?_⟩
  rcases h.2 with ⟨e, _⟩ | ⟨g', cap', cur, e, h1, h2, h3, h4, h5, h6⟩
  · cases e
  · cases e
    refine .inr ⟨g, cap, cur, rfl, h1, h2, by omega, h4, h5, ?_⟩
    simp only [Nat.mul_one] at h6 ⊢
    rw [List.map_take, ← h6, List.take_take, Nat.min_eq_left hk]
/-- Outside of a map's block nothing has turned that lies below S. -/
structure Fr (S bn : Nat) (w w' : World) : Prop where
  os : w'.os = w.os
  tape : w'.tape = w.tape
  output : w'.output = w.output
  size : w.heap.size ≤ w'.heap.size
  block : ∀ k, k < S → k ≠ bn → w'.heap[k]? = w.heap[k]?
theorem Fr.refl (S bn : Nat) (w : World) : Fr S bn w w := ⟨rfl, rfl, rfl, Nat.le_refl _, fun _ _ _ => rfl⟩
theorem Fr.trans {S bn : Nat} {a b c : World} (h : Fr S bn a b) (k : Fr S bn b c) : Fr S bn a c :=
  ⟨k.os.trans h.os, k.tape.trans h.tape, k.output.trans h.output, Nat.le_trans h.size k.size, fun i h1 h2 => (k.block i h1 h2).trans (h.block i h1 h2)⟩
theorem Fr.of_grown {S bn : Nat} {a b : World} {row : Option Nat} (h : a.grownBy b row) (hS : S ≤ a.heap.size) (hr : ∀ k, row = some k → S ≤ k ∨ k = bn) : Fr S bn a b :=
  ⟨h.os, h.tape, h.output, h.size, fun i h1 h2 => h.block i (by omega) (fun e => by rcases hr i e.symm with h3 | h3 <;> omega)⟩
theorem Fr.set {S bn : Nat} {a b : World} (h : Fr S bn a b) {p : Addr} (hp : S ≤ p.block) (u : Value) : Fr S bn a (b.setCell p u) :=
  h.trans ⟨rfl, rfl, rfl, by simp, fun k h1 _ => Below.heap_setCell _ _ _ _ (by omega)⟩
abbrev ptr (b : Nat) : Value := .pointer (some ⟨b, 0, none⟩)

/-- Where things lie. -/
structure PS (C S br bL bV bP bl bx bm bn : Nat) (v : List Nat) : Prop where
  c : C ≤ 4
  len : v.length = C
  lt : ∀ x ∈ v, x < 25
  r : S ≤ br ∧ S ≤ bL ∧ S ≤ bV ∧ S ≤ bP
  d : br ≠ bL ∧ br ≠ bV ∧ br ≠ bP
  low : bl < S ∧ bx < S ∧ bm < S ∧ bn < S
  nm : bl ≠ bn ∧ bx ≠ bn ∧ bm ≠ bn
/-- .. and what lies there. -/
structure PI (C S br bL bV bP bl bx bm bn m : Nat) (v : List Nat) (w : World) (vr : Value) (xs : List Nat) : Prop where
  xr : BoxAt w br [vr]
  row : Own iV 2 w S vr (iL xs)
  ne : vr.ownBlock ≠ some br ∧ vr.ownBlock ≠ some bL ∧ vr.ownBlock ≠ some bV ∧ vr.ownBlock ≠ some bP
  xL : BoxAt w bL [.slice (some ⟨bl, 0, none⟩) C 4]
  xV : BoxAt w bV [.func (.func 56) #[] #[ptr bl, ptr bx, ptr bm]]
  xP : BoxAt w bP [.func (.func 68) #[] #[ptr br, ptr bL, ptr bV, ptr bP]]
  xl : BoxAt w bl (nVs (padZ C v))
  xx : BoxAt w bx [.map (some bn)]
  xm : BoxAt w bm [iV (wrap64 (m : Int))]
section
variable {C S br bL bV bP bl bx bm bn m : Nat} {v : List Nat} {w w' : World} {vr : Value} {xs : List Nat}
theorem PI.map (hs : PS C S br bL bV bP bl bx bm bn v) (h : PI C S br bL bV bP bl bx bm bn m v w vr xs) (hg : w.grownBy w' (some bn)) : PI C S br bL bV bP bl bx bm bn m v w' vr xs := by
  have e : ∀ b, b ≠ bn → some b ≠ some bn := fun b hb e => hb (Option.some.inj e)
  have h1 := hs.r
  have h2 := hs.low
  refine ⟨h.xr.grown hg (e _ (by omega)), h.row.kept hg (.inr (fun e => ?_)), h.ne, h.xL.grown hg (e _ (by omega)), h.xV.grown hg (e _ (by omega)), h.xP.grown hg (e _ (by omega)), h.xl.grown hg (e _ hs.nm.1), h.xx.grown hg (e _ hs.nm.2.1), h.xm.grown hg (e _ hs.nm.2.2)⟩
  have := (h.row.lt bn e).1
  omega
/-- What is left of a PI where the row is written anew. -/
theorem PI.rest (hs : PS C S br bL bV bP bl bx bm bn v) (h : PI C S br bL bV bP bl bx bm bn m v w vr xs) (hg : w.grownBy w' vr.ownBlock) {vr' : Value} {ys : List Nat} (hr : Own iV 2 w' S vr' (iL ys))
    (hb : vr'.ownBlock = vr.ownBlock ∨ ∃ k, vr'.ownBlock = some k ∧ w.heap.size ≤ k) : PI C S br bL bV bP bl bx bm bn m v (w'.setCell ⟨br, 0, none⟩ vr') vr' ys := by
  have h1 := hs.r
  have h2 := hs.low
  have h3 := hs.d
  have hlow : ∀ b, b < S → some b ≠ vr.ownBlock := fun b hb e => by have := (h.row.lt b e.symm).1; omega
  have hne : vr'.ownBlock ≠ some br ∧ vr'.ownBlock ≠ some bL ∧ vr'.ownBlock ≠ some bV ∧ vr'.ownBlock ≠ some bP := by
    rcases hb with e | ⟨k, e, hk⟩
    · rw [e]; exact h.ne
    · have i1 := h.xr.lt
      have i2 := h.xL.lt
      have i3 := h.xV.lt
      have i4 := h.xP.lt
      rw [e]
      refine ⟨fun e => ?_, fun e => ?_, fun e => ?_, fun e => ?_⟩ <;> (have := Option.some.inj e; omega)
  have hbr := h.xr.grown hg (fun e => h.ne.1 e.symm)
  refine ⟨hbr.set (i := 0) rfl vr', ?_, hne, (h.xL.grown hg (fun e => h.ne.2.1 e.symm)).other (p := ⟨br, 0, none⟩) h3.1 _, (h.xV.grown hg (fun e => h.ne.2.2.1 e.symm)).other (p := ⟨br, 0, none⟩) h3.2.1 _, (h.xP.grown hg (fun e => h.ne.2.2.2 e.symm)).other (p := ⟨br, 0, none⟩) h3.2.2 _,
    (h.xl.grown hg (hlow _ h2.1)).other (p := ⟨br, 0, none⟩) (by show br ≠ bl; omega) _, (h.xx.grown hg (hlow _ h2.2.1)).other (p := ⟨br, 0, none⟩) (by show br ≠ bx; omega) _, (h.xm.grown hg (hlow _ h2.2.2.1)).other (p := ⟨br, 0, none⟩) (by show br ≠ bm; omega) _⟩
  exact hr.kept (row := some br) ⟨rfl, rfl, rfl, by simp, fun k _ hk => Below.heap_setCell _ _ _ _ (fun e => hk (by rw [e]))⟩ (.inr hne.1)
end

/-- What eachRow's own call is to do with what is left of the limits. -/
def PutOk (C S br bL bV bP bl bx bm bn m : Nat) (v ls : List Nat) : Prop := ∀ (xs : List Nat) (s n : Nat) (D : DataW Unit) (F : Nat → Nat) (w : World) (vr : Value), v = v.take xs.length ++ ls → xs.length + ls.length = C → (∀ (i a b : Nat), v[i]? = some a → xs[i]? = some b → b ≤ a) → s ≤ 1000 → S ≤ w.heap.size →
  n + wS ls s (fun _ => 1) + 1 < maxLen → PI C S br bL bV bP bl bx bm bn m v w vr xs → ownsA w bn n D → MapT C D F → KeysT C D →
  Calls Try.prog 68 #[.int .i64 s, ptr br, ptr bL, ptr bV, ptr bP] w fun e w' => e = .returned (.tuple #[]) ∧ ∃ vr' D', PI C S br bL bV bP bl bx bm bn m v w' vr' xs ∧ ownsA w' bn (n + wS ls s (fun _ => 1)) D' ∧
    MapT C D' (fun k => F k + m * wA (subL (v.take xs.length) xs) ls s k) ∧ KeysT C D' ∧ Fr S bn w w' ∧ S ≤ w'.heap.size

set_option maxRecDepth 100000 in
set_option maxHeartbeats 1600000 in
theorem put_nil {C S br bL bV bP bl bx bm bn m : Nat} {v : List Nat} (hs : PS C S br bL bV bP bl bx bm bn v) : PutOk C S br bL bV bP bl bx bm bn m v [] := by
  intro xs s n D F w vr hv hlen hle hs1 hS hn hI hO hD hK
  have hxC : xs.length = C := by simpa using hlen
  have hvx : v.take xs.length = v := by rw [hxC]; exact List.take_of_length_le (by have := hs.len; omega)
  rw [hvx]
  have c1 := hI.xr.cell 0 _ rfl
  have c2 := hI.xL.cell 0 _ rfl
  have c3 := hI.xV.cell 0 _ rfl
  obtain ⟨A, cap, rfl, hcap, -⟩ := hI.row.rd
  rw [iL_len] at c1 hcap
  have HS := Lib.hid hs
  have HI := Lib.hid hI
  have HO := Lib.hid hO
  have HD := Lib.hid hD
  have HK := Lib.hid hK
  have HLE := Lib.hid hle
  have hC4 := hs.c
  clear hs hI hO hD hK hle hv hvx hlen
  by_cases h0 : s = 0
  · subst h0
    have hw1 : wS [] 0 (fun _ => 1) = 1 := rfl
    rw [hw1] at hn ⊢
    have hev := enter_visit
    go_enter Try.func68, Try.ntmps68
    go_wp2_with fail
    refine (visit_any C hC4 _ xs v hxC HS.out.len HS.out.lt HLE.out bl bx bm bn n m D F (by omega) w (by have := HI.out.row.rd; rw [iL_len, hxC] at this; exact this) HI.out.xl HI.out.xx HI.out.xm HO.out HD.out HK.out).mono ?_
    rintro e w2 ⟨rfl, D2, hO2, hD2, hK2, hg2⟩
    have hI2 := HI.out.map HS.out hg2
    have hD3 : MapT C D2 (fun k => F k + m * wA (subL v xs) [] 0 k) := by
      have e : (fun k => F k + m * wA (subL v xs) [] 0 k) = fun k => F k + if code (subL v xs) = k then m else 0 := by
        funext k
        rw [wA_nil, if_pos rfl]
        split <;> simp
      rw [e]; exact hD2
    have HFIN := Lib.hid (And.intro hI2 (And.intro hO2 (And.intro hD3 (And.intro hK2 (And.intro (Fr.of_grown hg2 hS (fun k hk => .inr (Option.some.inj hk).symm)) (Nat.le_trans hS hg2.size))))))
    clear hI2 hD3 hO2 hD2 hK2 hg2 HI HO HD HK HLE
    go_wp2_with fail
    first | go_end0 | refine bodyPost_ret (results_none rfl _ _ _) rfl ?_
    exact ⟨rfl, _, D2, HFIN.out⟩
  · have hw1 : wS [] s (fun _ => 1) = 0 := if_neg h0
    rw [hw1] at hn ⊢
    have hD3 : MapT C D (fun k => F k + m * wA (subL v xs) [] s k) := by
      have e : (fun k => F k + m * wA (subL v xs) [] s k) = F := by
        funext k
        rw [wA_nil, if_neg h0]
        simp
      rw [e]; exact HD.out
    have HFIN := Lib.hid (And.intro HI.out (And.intro HO.out (And.intro hD3 (And.intro HK.out (And.intro (Fr.refl S bn w) hS)))))
    clear hD3 HI HO HD HK HLE hS
    go_enter Try.func68, Try.ntmps68
    go_wp2_with fail
    first | go_end0 | refine bodyPost_ret (results_none rfl _ _ _) rfl ?_
    exact ⟨rfl, _, D, HFIN.out⟩

theorem sN_mono {g : Nat → Nat} {a b : Nat} (h : a ≤ b) : sN g a ≤ sN g b := by
  induction b with
  | zero => rw [Nat.le_zero.1 h]; exact Nat.le_refl _
  | succ b ih =>
    by_cases e : a = b + 1
    · rw [e]; exact Nat.le_refl _
    · exact Nat.le_trans (ih (by omega)) (Nat.le_add_right _ _)
/-- The limits one further on. -/
theorem next_facts {v xs ls : List Nat} {l x : Nat} (hv : v = v.take xs.length ++ l :: ls) (hx : x ≤ l) (hle : ∀ (i a b : Nat), v[i]? = some a → xs[i]? = some b → b ≤ a) :
    v[xs.length]? = some l ∧ v = v.take (xs ++ [x]).length ++ ls ∧ subL (v.take (xs ++ [x]).length) (xs ++ [x]) = subL (v.take xs.length) xs ++ [l - x] ∧ ∀ (i a b : Nat), v[i]? = some a → (xs ++ [x])[i]? = some b → b ≤ a := by
  have hl : v.length = (v.take xs.length).length + (ls.length + 1) := by
    have := congrArg List.length hv
    rw [List.length_append, List.length_cons] at this
    exact this
  have hk : (v.take xs.length).length = xs.length := by rw [List.length_take]; rw [List.length_take] at hl; omega
  have hat : v[xs.length]? = some l := by
    rw [hv, List.getElem?_append_right (by omega), hk, Nat.sub_self]
    rfl
  have ht : v.take (xs ++ [x]).length = v.take xs.length ++ [l] := by
    rw [List.length_append, List.length_singleton, take_snoc hat]
  refine ⟨hat, ?_, ?_, fun i a b ha hb => ?_⟩
  · rw [ht, List.append_assoc]
    exact hv
  · rw [ht]
    unfold subL
    rw [List.zipWith_append hk]
    rfl
  · rcases Nat.lt_or_ge i xs.length with h | h
    · rw [List.getElem?_append_left h] at hb
      exact hle i a b ha hb
    · rw [List.getElem?_append_right h] at hb
      cases hi : i - xs.length with
      | zero =>
        rw [hi] at hb
        have e : i = xs.length := by omega
        rw [e, hat] at ha
        cases ha
        simp at hb
        omega
      | succ j => rw [hi] at hb; simp at hb

set_option maxRecDepth 100000 in
set_option maxHeartbeats 1600000 in
theorem put_cons {C S br bL bV bP bl bx bm bn m : Nat} {v ls : List Nat} {l : Nat} (hs : PS C S br bL bV bP bl bx bm bn v) (ih : PutOk C S br bL bV bP bl bx bm bn m v ls) : PutOk C S br bL bV bP bl bx bm bn m v (l :: ls) := by
  intro xs s n D F w vr hv hlen hle hs1 hS hn hI hO hD hK
  have IH := Lib.hid ih
  have hk : xs.length < C := by simp at hlen; omega
  have hC4 := hs.c
  have hat := (next_facts hv (Nat.zero_le l) hle).1
  have hl25 := hs.lt l (List.mem_of_getElem? hat)
  obtain ⟨T, hT⟩ : ∃ T, T = fun y => wS ls (s - y) (fun _ => 1) := ⟨_, rfl⟩
  have hw : wS (l :: ls) s (fun _ => 1) = sN T (min s l + 1) := by rw [hT]; rfl
  rw [hw] at hn ⊢
  obtain ⟨pre, hpre⟩ : ∃ pre, pre = subL (v.take xs.length) xs := ⟨_, rfl⟩
  rw [← hpre]
  obtain ⟨G, hG⟩ : ∃ G, G = fun y j => wA (pre ++ [l - y]) ls (s - y) j := ⟨_, rfl⟩
  have hA : ∀ j, wA pre (l :: ls) s j = sN (fun y => G y j) (min s l + 1) := fun j => by rw [wA_cons, hG]
  obtain ⟨A, cap, rfl, hcap, -⟩ := hI.row.rd
  have c1 := hI.xr.cell 0 _ rfl
  have c2 := hI.xL.cell 0 _ rfl
  rw [iL_len] at c1 hcap
  obtain ⟨k, hkk⟩ : ∃ k, k = xs.length := ⟨_, rfl⟩
  rw [← hkk] at c1 hcap hk hat
  have hcl : (nVs (padZ C v))[k]? = some (iV (l : Int)) := by
    unfold nVs padZ
    rw [List.getElem?_map, List.getElem?_append_left (by rw [hs.len]; exact hk), hat]
    rfl
  have cl := hI.xl.cell k _ hcl
  have hne : ((k : Int) == (C : Int)) = false := by rw [beq_eq_false_iff_ne]; omega
  obtain ⟨M, hM⟩ : ∃ M, M = min s l + 1 := ⟨_, rfl⟩
  rw [← hM] at hn hA hw ⊢
  have hMs : M ≤ s + 1 := by omega
  have hMl : M ≤ l + 1 := by omega
  have HST : Hid (PI C S br bL bV bP bl bx bm bn m v w (.slice A (iL xs).length cap) xs ∧ ownsA w bn (n + sN T 0) D ∧ MapT C D (fun j => F j + m * sN (fun y => G y j) 0) ∧ KeysT C D) := Lib.hid ⟨hI, hO, hD, hK⟩
  have HS := Lib.hid hs
  have HT := Lib.hid hT
  have HG := Lib.hid hG
  have HA := Lib.hid hA
  have HV := Lib.hid hv
  have HLE := Lib.hid hle
  have HPRE := Lib.hid hpre
  have HKK := Lib.hid hkk
  have HLEN := Lib.hid hlen
  clear hI hO hD hK hs hT hG hA hv hle hpre hkk hw hcl hat hlen ih
  have hev := enter_put
  by_cases hls : l < s
  all_goals
    first
    | have hM1 : ((l : Int) + 1) = (M : Int) := by omega
    | have hM1 : ((s : Int) + 1) = (M : Int) := by omega
  all_goals clear hM
  all_goals go_enter Try.func68, Try.ntmps68
  all_goals go_wp2
  all_goals clear hM1
  all_goals (
    go_loopw [7, 26] (fun _ sx wr => ∃ x : Nat, x ≤ M ∧ sx = .int .i64 x ∧ ∃ (vr : Value) (D' : DataW Unit), PI C S br bL bV bP bl bx bm bn m v wr vr xs ∧ ownsA wr bn (n + sN T x) D' ∧ MapT C D' (fun j => F j + m * sN (fun y => G y j) x) ∧ KeysT C D' ∧ Fr S bn w wr ∧ S ≤ wr.heap.size)
      (fun _ sx _ => M - (intOf sx).toNat)
    case atStart => exact ⟨0, Nat.zero_le _, rfl, _, D, HST.out.1, HST.out.2.1, HST.out.2.2.1, HST.out.2.2.2, Fr.refl S bn w, hS⟩
    case round =>
      clear HST c1 c2 cl hcap
      obtain ⟨x, hx, rfl, vr, D2, hI, hO, hD, hK, hF, hS2⟩ := hrel
      by_cases hlt : x < M
      · have hmono : n + sN T (x + 1) + 1 < maxLen := by have := sN_mono (g := T) (show x + 1 ≤ M by omega); omega
        obtain ⟨A2, cap2, rfl, hcap2, -⟩ := hI.row.rd
        rw [iL_len] at hI hcap2
        have c1 := hI.xr.cell 0 _ rfl
        have HI := Lib.hid hI
        have HO := Lib.hid hO
        have HD := Lib.hid hD
        have HK := Lib.hid hK
        rw [← HKK.out] at c1 hcap2
        clear hI hO hD hK
        go_wp2_with (at_builtin; go_loud (refine elI_.app one_iV' _ rfl (.tmp 29) (.tmp 31) rfl S _ (iL xs) rfl (by have := HI.out.row.alloc (.cells #[iV (x : Int)] 2); rw [← HKK.out] at this; exact this) _ [(x : Int)] rfl (rd_one iV _ _ _) (by omega) (by rw [iL_len, ← HKK.out]; simp; omega) (by simp; omega) ?_))
        intro v2 w2 ho2 hg2 hb2 hbb2
        have hgr : wr.grownBy w2 (Value.slice A2 xs.length cap2).ownBlock := by rw [← HKK.out]; exact grown_trans1 (World.grownBy_alloc wr _ _) hg2
        have hbk : v2.ownBlock = (Value.slice A2 xs.length cap2).ownBlock ∨ ∃ j, v2.ownBlock = some j ∧ wr.heap.size ≤ j := by
          rw [← HKK.out]
          rcases hbb2 with e | e
          · exact .inl e
          · exact .inr ⟨_, e, by omega⟩
        rw [← iL_snoc] at ho2
        obtain ⟨g2, cp2, hv2, -, -, -⟩ := ho2.form (by rw [iL_len]; simp)
        have hl2 : (iL (xs ++ [x])).length = k + 1 := by rw [iL_len, List.length_append, List.length_singleton, ← HKK.out]
        rw [hl2] at hv2
        subst hv2
        have hI3 := HI.out.rest HS.out hgr ho2 hbk
        have cb := (HI.out.xr.grown hgr (fun e => HI.out.ne.1 e.symm)).cell 0 _ rfl
        have fb := (HI.out.xr.grown hgr (fun e => HI.out.ne.1 e.symm)).free 0
        have hO3 : ownsA (w2.setCell ⟨br, 0, none⟩ (.slice (some ⟨g2, 0, none⟩) (k + 1) cp2)) bn (n + sN T x) D2 :=
          (HO.out.kept hgr (fun e => by have := (HI.out.row.lt bn e.symm).1; have := HS.out.low.2.2.2; omega)).setCell (by show bn ≠ br; have := HS.out.low.2.2.2; have := HS.out.r.1; omega) _
        have hF3 : Fr S bn w (w2.setCell ⟨br, 0, none⟩ (.slice (some ⟨g2, 0, none⟩) (k + 1) cp2)) := (hF.trans (Fr.of_grown hgr hS2 (fun j hj => .inl (HI.out.row.lt j hj).1))).set (p := ⟨br, 0, none⟩) HS.out.r.1 _
        have hS3 : S ≤ (w2.setCell ⟨br, 0, none⟩ (.slice (some ⟨g2, 0, none⟩) (k + 1) cp2)).heap.size := by have := hgr.size; simp; omega
        have cP := hI3.xP.cell 0 _ rfl
        have hxl : x ≤ l := by omega
        have hsx : IntKind.i64.wrap ((s : Int) - (x : Int)) = ((s - x : Nat) : Int) := by rw [IntWalk.i64_in _ (by omega)]; omega
        obtain ⟨t, ht⟩ : ∃ t, t = s - x := ⟨_, rfl⟩
        rw [← ht] at hsx
        have ht1 : t ≤ 1000 := by omega
        have HTT := Lib.hid ht
        have HI3 := Lib.hid hI3
        have HO3 := Lib.hid hO3
        have HF3 := Lib.hid hF3
        obtain ⟨-, nf2, nf3, nf4⟩ := next_facts HV.out hxl HLE.out
        have NF2 := Lib.hid nf2
        have NF3 := Lib.hid nf3
        have NF4 := Lib.hid nf4
        have hTx : wS ls t (fun _ => 1) = T x := by rw [HT.out, ht]
        have HTX := Lib.hid hTx
        clear hgr hbk ho2 hI3 hO3 hF3 hF hg2 hb2 hbb2 HI HO c1 nf2 nf3 nf4 ht hTx
        go_wp2_with fail
        generalize w2.setCell ⟨br, 0, none⟩ (.slice (some ⟨g2, 0, none⟩) (k + 1) cp2) = w3 at *
        clear cb fb cP
        refine (IH.out (xs ++ [x]) t (n + sN T x) D2 _ w3 _ NF2.out (by have := HLEN.out; simp at this ⊢; omega) NF4.out ht1 hS3 (by rw [HTX.out]; have : sN T (x + 1) = sN T x + T x := rfl; omega) HI3.out HO3.out HD.out HK.out).mono ?_
        rintro e w4 ⟨rfl, v4, D4, hI4, hO4, hD4, hK4, hF4, hS4⟩
        have hO5 : ownsA w4 bn (n + sN T (x + 1)) D4 := by
          have e : n + sN T (x + 1) = n + sN T x + T x := by show n + (sN T x + T x) = _; omega
          rw [e, ← HTX.out]; exact hO4
        have hD5 : MapT C D4 (fun j => F j + m * sN (fun y => G y j) (x + 1)) := by
          have e : (fun j => F j + m * sN (fun y => G y j) x + m * wA (subL (v.take (xs ++ [x]).length) (xs ++ [x])) ls t j) = fun j => F j + m * sN (fun y => G y j) (x + 1) := by
            funext j
            rw [NF3.out, ← HPRE.out, Nat.add_assoc, ← Nat.mul_add, HTT.out]
            show F j + m * (sN (fun y => G y j) x + _) = F j + m * (sN (fun y => G y j) x + G x j)
            rw [HG.out]
          rw [e] at hD4; exact hD4
        obtain ⟨g4, c4, rfl, hc4, hg41, hg42⟩ := hI4.row.form (by rw [iL_len]; simp)
        have hl4 : (iL (xs ++ [x])).length = k + 1 := by rw [iL_len, List.length_append, List.length_singleton, ← HKK.out]
        have cb4 := hI4.xr.cell 0 _ rfl
        have fb4 := hI4.xr.free 0
        have hcut := hI4.row.cut (k := k) (by rw [hl4]; omega)
        have htk : (iL (xs ++ [x])).take k = iL xs := by rw [iL_snoc, List.take_append_of_le_length (by rw [iL_len, HKK.out]; exact Nat.le_refl _), List.take_of_length_le (by rw [iL_len, HKK.out]; exact Nat.le_refl _)]
        rw [htk] at hcut
        have hI5 := hI4.rest HS.out (World.grownBy.refl _ _) (ys := xs) hcut (.inl rfl)
        rw [hl4] at cb4 hc4
        have hO6 : ownsA (w4.setCell ⟨br, 0, none⟩ (.slice (some ⟨g4, 0, none⟩) k c4)) bn (n + sN T (x + 1)) D4 := hO5.setCell (by show bn ≠ br; have := HS.out.low.2.2.2; have := HS.out.r.1; omega) _
        have hF6 : Fr S bn w (w4.setCell ⟨br, 0, none⟩ (.slice (some ⟨g4, 0, none⟩) k c4)) := (HF3.out.trans hF4).set (p := ⟨br, 0, none⟩) HS.out.r.1 _
        have hS6 : S ≤ (w4.setCell ⟨br, 0, none⟩ (.slice (some ⟨g4, 0, none⟩) k c4)).heap.size := by simp; exact hS4
        have HFIN := Lib.hid (And.intro hI5 (And.intro hO6 (And.intro hD5 (And.intro hK4 (And.intro hF6 hS6)))))
        clear hI4 hO4 hD4 hK4 hF4 hO5 hD5 hcut htk hI5 hO6 hF6 hS6 hl4 HI3 HO3 HF3 HD HK
        go_wp2
        go_roundw
        case rel => exact ⟨x + 1, by omega, by go_num, _, D4, HFIN.out⟩
        case measure => simp [intOf]; omega
      · have hxM : x = M := by omega
        have hD3 : MapT C D2 (fun j => F j + m * wA pre (l :: ls) s j) := by
          have e : (fun j => F j + m * wA pre (l :: ls) s j) = fun j => F j + m * sN (fun y => G y j) x := by funext j; rw [HA.out, hxM]
          rw [e]; exact hD
        have HFIN := Lib.hid (And.intro hI (And.intro (show ownsA wr bn (n + sN T M) D2 by rw [← hxM]; exact hO) (And.intro hD3 (And.intro hK (And.intro hF hS2)))))
        clear hI hO hD hK hF hD3 hxM
        go_wp2
        first | go_end0 | refine bodyPost_ret (results_none rfl _ _ _) rfl ?_
        exact ⟨rfl, _, D2, HFIN.out⟩)
end Go.Proofs.Ytmhmekfbnaafmaa
