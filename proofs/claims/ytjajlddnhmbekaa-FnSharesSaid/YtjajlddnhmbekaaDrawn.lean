/-
  What is drawn is a valid share whose chances make one, nearly.
-/
import Derived.Test.YtjajlddnhmbekaaF64
import Derived.Test.YtjajlddnhmbekaaDraw
namespace Go.Proofs.Ytjajlddnhmbekaa
open Go.RowKit

theorem gsh_of {xs : List Nat} {C : List (Option Nat)} {y0 y1 : List Nat} (hl : C.length = xs.length) (h1 : 1 ≤ xs.length) (h64 : xs.length ≤ 64) (hf : xs.all finB = true) (hC : ∀ c ∈ C, OkC c) (t1 : 1 - p2 (-12) ≤ Ph one (xs.zip C)) (t2 : Ph one (xs.zip C) ≤ 1 + p2 (-12))
    (h0 : absL y0 = absL ((gatS xs C).map Prod.fst)) (h1' : absL y1 = (gatS xs C).map Prod.snd) : GSh (gatS xs C) y0 y1 := by
  obtain ⟨hok, hch, key⟩ := gat_good hl h1 h64 hf hC t1 t2
  rw [gatOk_t hf] at hok
  have hff : ((gatS xs C).map Prod.fst).all finB = true := by
    unfold shareAB at hok
    simp only [Bool.and_eq_true] at hok
    exact hok.1.1.2
  have e0 : y0 = (gatS xs C).map Prod.fst := (absL_fin h0.symm hff).symm
  have e1 : y1.map some = (gatS xs C).map Prod.snd := by
    rw [← h1']
    unfold absL
    apply List.map_congr_left
    intro y hy
    have : absF .f32 y ∈ (gatS xs C).map Prod.snd := by rw [← h1']; unfold absL; exact List.mem_map_of_mem hy
    obtain ⟨p, hp, e⟩ := List.mem_map.1 this
    obtain ⟨b, eb, -⟩ := (hch p hp).1
    rw [e] at eb
    rw [eb]
    obtain ⟨rfl, -⟩ := absF_some eb
    rfl
  obtain ⟨a, b⟩ := key one 1 (fun x _ => ⟨by show (-1 : Rat) ≤ 1; decide, by show (1 : Rat) ≤ 1; decide⟩)
  have q12 : p2 (-12) * 4096 = 1 := p2m 12
  have q11 : p2 (-11) * 2048 = 1 := p2m 11
  have q17 : p2 (-17) * 131072 = 1 := p2m 17
  refine ⟨e0, e1, by rw [shareB_abs, e0, h1']; exact hok, hch, ?_, by grind, by grind⟩
  have := gAt_len (xs := xs) (C := C) (List.range xs.length)
  rw [List.length_range] at this
  exact Nat.le_trans this h64
theorem insG_snd {β γ : Type} {key : β → Rat} {add : γ → γ → γ} {z : γ} {P : γ → Prop} (ha : ∀ a b, P (add a b)) (x : β) (c : γ) : ∀ s : List (β × γ), (∀ p ∈ s, P p.2) → ∀ p ∈ insG key add z x c s, P p.2
  | [], _, p, hp => by
    rw [insG_nil, List.mem_singleton] at hp
    subst hp; exact ha _ _
  | (v, d) :: t, h, p, hp => by
    unfold insG at hp
    split at hp
    · rcases List.mem_cons.1 hp with rfl | hp
      · exact h _ (by simp)
      · exact insG_snd ha x c t (fun q hq => h q (by simp [hq])) p hp
    · split at hp
      · rcases List.mem_cons.1 hp with rfl | hp
        · exact ha _ _
        · exact h p (by simp [hp])
      · rcases List.mem_cons.1 hp with rfl | hp
        · exact ha _ _
        · exact h p hp
theorem insL_snd {β γ : Type} {key : β → Rat} {add : γ → γ → γ} {z : γ} {P : γ → Prop} (ha : ∀ a b, P (add a b)) : ∀ (l s : List (β × γ)), (∀ p ∈ s, P p.2) → ∀ p ∈ insL key add z s l, P p.2
  | [], _, h, p, hp => h p hp
  | q :: l, s, h, p, hp => insL_snd ha l (insG key add z q.1 q.2 s) (insG_snd ha q.1 q.2 s h) p hp
theorem chance_lt {xs : List Nat} {C : List (Option Nat)} {z1 : List Nat} (hch : ∀ p ∈ gatS xs C, OkC p.2) (h : absL z1 = (gatS xs C).map Prod.snd) : ∀ c ∈ z1, c < 4294967296 := by
  intro c hc
  have : absF .f32 c ∈ (gatS xs C).map Prod.snd := by rw [← h]; unfold absL; exact List.mem_map_of_mem hc
  obtain ⟨p, hp, e⟩ := List.mem_map.1 this
  have hP : ∀ b, p.2 = some b → b < 4294967296 := insL_snd (P := fun o => ∀ b, o = some b → b < 4294967296) (fun a b r hr => opF_lt (op := .add) (x := a) (y := b) hr) _ [] (fun p hp => by cases hp) p hp
  obtain ⟨b, eb, -⟩ := (hch p hp).1
  rw [e] at eb
  obtain ⟨rfl, -⟩ := absF_some eb
  exact hP _ (by rw [e, eb])
theorem value_lt {xs : List Nat} {C : List (Option Nat)} {z0 : List Nat} (hf : xs.all finB = true) (hx : ∀ x ∈ xs, x < 4294967296) (h : absL z0 = absL ((gatS xs C).map Prod.fst)) : ∀ c ∈ z0, c < 4294967296 := by
  have hmem : ∀ x ∈ (gatS xs C).map Prod.fst, x ∈ xs := fun x hx => by
    obtain ⟨p, hp, rfl⟩ := List.mem_map.1 hx
    obtain ⟨i, hi, e⟩ := gAt_mem (l := List.range xs.length) hp
    rw [List.mem_range] at hi
    obtain ⟨y, hy⟩ := get_of_lt hi
    rw [hy] at e
    rw [← e]
    exact List.mem_of_getElem? hy
  have hff : ((gatS xs C).map Prod.fst).all finB = true := by
    rw [List.all_eq_true]
    exact fun x hx => List.all_eq_true.1 hf _ (hmem x hx)
  have e0 : z0 = (gatS xs C).map Prod.fst := (absL_fin h.symm hff).symm
  subst e0
  exact fun c hc => hx c (hmem c hc)
theorem hwd_lt : ∀ m : Nat, m < 17 → hwd ((m : Int) - 8) < 4294967296 := by decide +kernel
theorem hwd_val : ∀ m : Nat, m < 17 → finB (hwd ((m : Int) - 8)) = true ∧ val (hwd ((m : Int) - 8)) = (((m : Int) - 8 : Int) : Rat) / 2 := by decide +kernel
theorem hwd_vl {z : Int} (h1 : -8 ≤ z) (h2 : z ≤ 8) : finB (hwd z) = true ∧ val (hwd z) = (z : Rat) / 2 := by
  have := hwd_val (z + 8).toNat (by omega)
  rwa [show (((z + 8).toNat : Nat) : Int) - 8 = z by omega] at this
/-- A count's part. -/
theorem cntQ_ok {S c : Int} (h0 : 0 ≤ c) (h1 : c ≤ S) (hS : 0 < S) (hS2 : S ≤ 1000) : OkC (cntQ S c) ∧ (c : Rat) / (S : Rat) - p2 (-24) ≤ wo (cntQ S c) ∧ wo (cntQ S c) ≤ (c : Rat) / (S : Rat) + p2 (-24) := by
  obtain ⟨n, rfl⟩ : ∃ n : Nat, c = (n : Int) := ⟨c.toNat, by omega⟩
  obtain ⟨m, rfl⟩ : ∃ m : Nat, S = (m : Int) := ⟨S.toNat, by omega⟩
  have vn := vl_nat (k := .f32) (n := n) (by show n ≤ 16777216; omega) (in32 (by omega) (by omega))
  have vm := vl_nat (k := .f32) (n := m) (by show m ≤ 16777216; omega) (in32 (by omega) (by omega))
  have hm : (0 : Rat) < (m : Rat) := by
    have := Rat.natCast_lt_natCast.2 (show 0 < m by omega)
    exact this
  have hnm : (n : Rat) ≤ (m : Rat) := Rat.natCast_le_natCast.2 (by omega)
  have hn : (0 : Rat) ≤ (n : Rat) := Rat.natCast_nonneg
  have hne : (m : Rat) ≠ 0 := fun h => by rw [h] at hm; exact absurd hm Rat.lt_irrefl
  have hmul : (n : Rat) / (m : Rat) * (m : Rat) = (n : Rat) := Rat.div_mul_cancel hne
  have q0 : 0 ≤ (n : Rat) / (m : Rat) := by
    by_cases h : 0 ≤ (n : Rat) / (m : Rat)
    · exact h
    · exfalso
      have := Rat.mul_pos (a := -((n : Rat) / (m : Rat))) (by grind) hm
      grind
  have q1 : (n : Rat) / (m : Rat) ≤ 1 := by
    by_cases h : (n : Rat) / (m : Rat) ≤ 1
    · exact h
    · exfalso
      have := Rat.mul_pos (a := (n : Rat) / (m : Rat) - 1) (by grind) hm
      grind
  unfold cntQ
  rw [(vl_fin vn).2, (vl_fin vm).2]
  obtain ⟨r, hr, hR⟩ := vl_quo vn vm hm (lo := 0) (hi := 1) rep0 rep1 q0 q1
  have e0 := hR.1 0 rep0 q0
  have he := hR.err (e := -24) (in32 (by omega) (by omega)) (by rw [gB32, show (-24 : Int) + 24 = 0 by omega, p2_zero]; grind) (by rw [gB32, show (-24 : Int) + 24 = 0 by omega, p2_zero]; exact q1)
  rw [vl_wo hr]
  have c1 : (((n : Nat) : Int) : Rat) = (n : Rat) := Rat.intCast_natCast n
  have c2 : (((m : Nat) : Int) : Rat) = (m : Rat) := Rat.intCast_natCast m
  rw [c1, c2]
  exact ⟨okC_of hr e0, he.1, he.2⟩
theorem sum_parts (S : Rat) : ∀ cs : List Int, (cs.map fun c : Int => (c : Rat) / S).sum = (cs.sum : Rat) / S
  | [] => by
    show (0 : Rat) = ((0 : Int) : Rat) / S
    rw [Rat.div_def]; show (0 : Rat) = 0 * _; grind
  | c :: cs => by
    have e : ((c :: cs).map fun c : Int => (c : Rat) / S).sum = (c : Rat) / S + (cs.map fun c : Int => (c : Rat) / S).sum := by simp
    rw [e, sum_parts S cs, List.sum_cons, Rat.intCast_add, Rat.div_def, Rat.div_def, Rat.div_def]
    grind
theorem sum_cnt {S : Int} (hS : 0 < S) (hS2 : S ≤ 1000) : ∀ cs : List Int, (∀ c ∈ cs, 0 ≤ c ∧ c ≤ S) → (∀ c ∈ cs.map (cntQ S), OkC c) ∧ (cs.map fun c : Int => (c : Rat) / (S : Rat)).sum - (cs.length : Rat) * p2 (-24) ≤ ((cs.map (cntQ S)).map wo).sum ∧ ((cs.map (cntQ S)).map wo).sum ≤ (cs.map fun c : Int => (c : Rat) / (S : Rat)).sum + (cs.length : Rat) * p2 (-24)
  | [], _ => by
    refine ⟨(fun c h => by cases h), ?_, ?_⟩
    · show (0 : Rat) - ((0 : Nat) : Rat) * _ ≤ 0
      have : ((0 : Nat) : Rat) = 0 := rfl
      rw [this]; grind
    · show (0 : Rat) ≤ 0 + ((0 : Nat) : Rat) * _
      have : ((0 : Nat) : Rat) = 0 := rfl
      rw [this]; grind
  | c :: cs, h => by
    obtain ⟨c0, c1⟩ := h c (by simp)
    obtain ⟨a1, a2, a3⟩ := cntQ_ok c0 c1 hS hS2
    obtain ⟨b1, b2, b3⟩ := sum_cnt hS hS2 cs (fun x hx => h x (by simp [hx]))
    have e1 : ((c :: cs).map fun c : Int => (c : Rat) / (S : Rat)).sum = (c : Rat) / (S : Rat) + (cs.map fun c : Int => (c : Rat) / (S : Rat)).sum := by simp
    have e2 : (((c :: cs).map (cntQ S)).map wo).sum = wo (cntQ S c) + ((cs.map (cntQ S)).map wo).sum := by simp
    have hlen : (((c :: cs).length : Nat) : Rat) = (cs.length : Rat) + 1 := by rw [List.length_cons]; exact Rat.natCast_add _ _
    rw [e1, e2, hlen]
    refine ⟨fun x hx => ?_, by grind, by grind⟩
    rcases List.mem_cons.1 hx with rfl | hx
    · exact a1
    · exact b1 x hx
theorem ph_one_zip : ∀ (xs : List Nat) (C : List (Option Nat)), C.length = xs.length → Ph one (xs.zip C) = (C.map wo).sum
  | [], [], _ => rfl
  | x :: xs, c :: C, h => by
    have := ph_one_zip xs C (by simpa using h)
    have e : Ph one ((x :: xs).zip (c :: C)) = 1 * wo c + Ph one (xs.zip C) := by rw [List.zip_cons_cons]; exact ph_cons _ _ _
    have e2 : ((c :: C).map wo).sum = wo c + (C.map wo).sum := by simp
    rw [e, e2, this]; grind
theorem sum_bounds : ∀ (cs : List Int), (∀ c ∈ cs, 1 ≤ c ∧ c ≤ 8) → (cs.length : Int) ≤ cs.sum ∧ cs.sum ≤ 8 * (cs.length : Int) ∧ ∀ c ∈ cs, c ≤ cs.sum
  | [], _ => ⟨by simp, by simp, fun c h => by cases h⟩
  | c :: cs, h => by
    obtain ⟨a, b⟩ := h c (by simp)
    obtain ⟨s1, s2, s3⟩ := sum_bounds cs (fun x hx => h x (by simp [hx]))
    rw [List.sum_cons, List.length_cons]
    refine ⟨by omega, by omega, fun x hx => ?_⟩
    rcases List.mem_cons.1 hx with rfl | hx
    · omega
    · have := s3 x hx; omega
theorem drawn_good {zs cs : List Int} {y0 y1 : List Nat} (hD : Drawn zs cs) (h0 : absL y0 = drV zs cs) (h1 : absL y1 = drC zs cs) :
    ∃ G, GSh G y0 y1 ∧ G.length ≤ 6 ∧ 1 ≤ G.length ∧ (∀ p ∈ G, ∃ z : Int, -8 ≤ z ∧ z ≤ 8 ∧ p.1 = hwd z ∧ val p.1 = (z : Rat) / 2) ∧ 1 - p2 (-16) ≤ Ph one G ∧ Ph one G ≤ 1 + p2 (-16) ∧ ∀ c ∈ y1, c < 4294967296 := by
  have hle := hD.le
  have hne := hD.ne
  have hlen := hD.len
  obtain ⟨s1, s2, s3⟩ := sum_bounds cs hD.c
  have hC : cntTo cs cs.sum cs.length = cs.map (cntQ cs.sum) := by unfold cntTo; rw [List.take_length]
  obtain ⟨g1, g2, g3⟩ := sum_cnt (S := cs.sum) (by omega) (by omega) cs (fun c hc => ⟨by have := hD.c c hc; omega, s3 c hc⟩)
  rw [sum_parts] at g2 g3
  have hSp : ((cs.sum : Int) : Rat) ≠ 0 := by
    intro h
    have : cs.sum = 0 := Rat.intCast_inj.1 h
    omega
  have hdd : ((cs.sum : Int) : Rat) / ((cs.sum : Int) : Rat) = 1 := by rw [Rat.div_def, Rat.mul_inv_cancel _ hSp]
  rw [hdd] at g2 g3
  have hf : (zs.map hwd).all finB = true := by
    rw [List.all_eq_true]
    intro x hx
    obtain ⟨z, hz, rfl⟩ := List.mem_map.1 hx
    exact (hwd_vl (hD.z z hz).1 (hD.z z hz).2).1
  have hl : (cs.map (cntQ cs.sum)).length = (zs.map hwd).length := by rw [List.length_map, List.length_map]; exact hlen
  have hc6 : cs.length ≤ 6 := by omega
  have hcl : (cs.length : Rat) ≤ 6 := Rat.natCast_le_natCast.2 hc6
  have hcl0 : (0 : Rat) ≤ (cs.length : Rat) := Rat.natCast_nonneg
  have hb := Rat.mul_le_mul_of_nonneg_right hcl (p2_nn (-24))
  have q24 := p2_24
  have q12 : p2 (-12) * 4096 = 1 := p2m 12
  have q16 : p2 (-16) * 65536 = 1 := p2m 16
  have q17 : p2 (-17) * 131072 = 1 := p2m 17
  have hlx : (zs.map hwd).length = zs.length := List.length_map ..
  have T1 : 1 - p2 (-12) ≤ Ph one ((zs.map hwd).zip (cs.map (cntQ cs.sum))) := by rw [ph_one_zip _ _ hl]; grind
  have T2 : Ph one ((zs.map hwd).zip (cs.map (cntQ cs.sum))) ≤ 1 + p2 (-12) := by rw [ph_one_zip _ _ hl]; grind
  obtain ⟨hok, hch, key⟩ := gat_good hl (by omega) (by omega) hf g1 T1 T2
  have hcnt : cntOk (zs.map hwd) cs = true := by
    rw [cntOk_t ⟨by omega, by omega⟩ (by omega) ?_ (by omega), hC]
    · exact hok
    · unfold countB
      rw [List.all_eq_true]
      intro c hc
      have := hD.c c hc
      unfold inB
      simp; omega
  unfold drV at h0
  unfold drC at h1
  rw [hcnt, if_pos rfl, hC] at h0 h1
  have hG := gsh_of hl (by omega) (by omega) hf g1 T1 T2 h0 h1
  obtain ⟨a, b⟩ := key one 1 (fun x _ => ⟨by show (-1 : Rat) ≤ 1; decide, by show (1 : Rat) ≤ 1; decide⟩)
  rw [ph_one_zip _ _ hl] at a b
  have hmem : ∀ p ∈ gatS (zs.map hwd) (cs.map (cntQ cs.sum)), p.1 ∈ zs.map hwd := fun p hp => by
    obtain ⟨i, hi, e⟩ := gAt_mem (l := List.range (zs.map hwd).length) hp
    rw [List.mem_range] at hi
    obtain ⟨x, hx⟩ := get_of_lt hi
    rw [hx] at e
    rw [← e]
    exact List.mem_of_getElem? hx
  have hlG := gAt_len (xs := zs.map hwd) (C := cs.map (cntQ cs.sum)) (List.range (zs.map hwd).length)
  rw [List.length_range, hlx] at hlG
  have hlG' : (gatS (zs.map hwd) (cs.map (cntQ cs.sum))).length ≤ zs.length := by unfold gatS; rw [hlx]; exact hlG
  refine ⟨_, hG, Nat.le_trans hlG' hle, ?_, fun p hp => ?_, by grind, by grind, chance_lt hch h1⟩
  · have := hG.ok
    unfold shareB at this
    simp only [Bool.and_eq_true, decide_eq_true_eq] at this
    rw [← hG.l0]; exact this.1.1.1.1.1
  · obtain ⟨z, hz, e⟩ := List.mem_map.1 (hmem p hp)
    have hz' := hD.z z hz
    exact ⟨z, hz'.1, hz'.2, e.symm, by rw [← e]; exact (hwd_vl hz'.1 hz'.2).2⟩
end Go.Proofs.Ytjajlddnhmbekaa
