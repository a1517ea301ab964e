/-
  Two shares combined pair by pair, nearly.
-/
import Derived.Test.YtjajlddnhmbekaaGreatDrawn2
import Derived.Test.YtjajlddnhmbekaaGreatComb
namespace Go.Proofs.YtjajlddnhmbekaaGreat
open Go.RowKit

def mulO (c d : Option Nat) : Option Nat := opF .mul .f32 c d
theorem flat_zip {α β γ δ : Type} (F : α → List γ) (K : β → List δ) (h : ∀ a b, (F a).length = (K b).length) : ∀ G : List (α × β), ((G.map Prod.fst).flatMap F).zip ((G.map Prod.snd).flatMap K) = G.flatMap fun p => (F p.1).zip (K p.2)
  | [] => rfl
  | p :: G => by
    simp only [List.map_cons, List.flatMap_cons]
    rw [List.zip_append (h p.1 p.2), flat_zip F K h G]
theorem map_zip {α β γ δ : Type} (F : α → γ) (K : β → δ) : ∀ H : List (α × β), ((H.map Prod.fst).map F).zip ((H.map Prod.snd).map K) = H.map fun q => (F q.1, K q.2)
  | [] => rfl
  | q :: H => by simp only [List.map_cons, List.zip_cons_cons, map_zip F K H]
/-- The pairs of two shares. -/
def prs (g : Nat → Nat → Option Nat) (G H : List (Nat × Option Nat)) : List (Nat × Option Nat) := G.flatMap fun p => H.map fun q => (wordOf (g p.1 q.1), mulO p.2 q.2)
/-- The sum of f over all pairs. -/
def PP (φ : Rat → Rat → Rat) (f : Rat → Rat) (G H : List (Nat × Option Nat)) : Rat := (G.map fun p => (H.map fun q => f (φ (val p.1) (val q.1)) * (wo p.2 * wo q.2)).sum).sum
section
variable {G H : List (Nat × Option Nat)} {x0 x1 y0 y1 : List Nat} {g : Nat → Nat → Option Nat}
theorem GSh.absl (h : GSh G x0 x1) : absL x1 = G.map Prod.snd := by
  rw [← h.e1]
  unfold absL
  exact List.map_congr_left h.abs1
theorem comb_zip (ha : GSh G x0 x1) (hb : GSh H y0 y1) (g : Nat → Nat → Option Nat) : (combV g x0 y0).zip (combC x1 y1) = prs g G H := by
  have e1 : combV g x0 y0 = (G.map Prod.fst).flatMap fun x => (H.map Prod.fst).map fun y => wordOf (g x y) := by
    unfold combV gatW fullP
    rw [List.take_length, ha.e0, hb.e0, List.map_flatMap]
    simp only [List.map_map]
    rfl
  have e2 : combC x1 y1 = (G.map Prod.snd).flatMap fun c => (H.map Prod.snd).map (mulO c) := by
    unfold combC fullP
    rw [List.take_length, ← ha.absl, ← hb.absl]
    unfold absL
    rw [List.flatMap_map]
    simp only [List.map_map]
    rfl
  rw [e1, e2, flat_zip _ _ (fun a b => by simp)]
  unfold prs
  congr 1
  funext p
  exact map_zip _ _ H
theorem comb_len (ha : GSh G x0 x1) (hb : GSh H y0 y1) (g : Nat → Nat → Option Nat) : (combV g x0 y0).length = G.length * H.length ∧ (combC x1 y1).length = G.length * H.length := by
  unfold combV gatW combC
  rw [List.length_map, fullP_len _ _ _ _ (Nat.le_refl _), fullP_len _ _ _ _ (Nat.le_refl _), ha.l0, ha.l1, hb.l0, hb.l1]
  exact ⟨rfl, rfl⟩
theorem mul_ok {c d : Option Nat} (hc : OkC c) (hd : OkC d) (h : wo c * wo d ≤ 2) : OkC (mulO c d) ∧ wo c * wo d - p2 (-23) ≤ wo (mulO c d) ∧ wo (mulO c d) ≤ wo c * wo d + p2 (-23) := by
  have h0 := Rat.mul_nonneg hc.2 hd.2
  obtain ⟨r, hr, hn⟩ := vl_mul hc.1 hd.1 (lo := 0) (hi := p2 1) rep0 (rep32 (by omega) (by omega)) h0 (by rw [p2_1]; exact h)
  have e0 := hn.1 0 rep0 h0
  have he := hn.err (e := -23) (in32 (by omega) (by omega)) (by rw [gB32, show (-23 : Int) + 24 = 1 by omega, p2_1]; grind) (by rw [gB32, show (-23 : Int) + 24 = 1 by omega, p2_1]; exact h)
  have e : mulO c d = opF .mul .f32 c d := rfl
  rw [e, vl_wo hr]
  exact ⟨okC_of hr e0, he.1, he.2⟩
/-- What a pair's value must be. -/
def GoodG (g : Nat → Nat → Option Nat) (φ : Rat → Rat → Rat) (G H : List (Nat × Option Nat)) : Prop := ∀ p ∈ G, ∀ q ∈ H, ∃ b, g p.1 q.1 = some b ∧ finB b = true ∧ val b = φ (val p.1) (val q.1)
theorem row_near {φ : Rat → Rat → Rat} {p : Nat × Option Nat} (hp : OkC p.2) (hp2 : wo p.2 ≤ 5 / 4) (f : Rat → Rat) (F : Rat) (hF : 0 ≤ F) : ∀ H : List (Nat × Option Nat), (∀ q ∈ H, OkC q.2) → (∀ q ∈ H, wo q.2 ≤ 5 / 4) → (∀ q ∈ H, ∃ b, g p.1 q.1 = some b ∧ finB b = true ∧ val b = φ (val p.1) (val q.1)) → (∀ q ∈ H, -F ≤ f (φ (val p.1) (val q.1)) ∧ f (φ (val p.1) (val q.1)) ≤ F) →
    (H.map fun q => f (φ (val p.1) (val q.1)) * (wo p.2 * wo q.2)).sum - (H.length : Rat) * (F * p2 (-23)) ≤ Ph f (H.map fun q => (wordOf (g p.1 q.1), mulO p.2 q.2)) ∧ Ph f (H.map fun q => (wordOf (g p.1 q.1), mulO p.2 q.2)) ≤ (H.map fun q => f (φ (val p.1) (val q.1)) * (wo p.2 * wo q.2)).sum + (H.length : Rat) * (F * p2 (-23))
  | [], _, _, _, _ => by
    have : ((([] : List (Nat × Option Nat)).length : Nat) : Rat) = 0 := rfl
    rw [this]
    show (0 : Rat) - 0 * _ ≤ 0 ∧ (0 : Rat) ≤ 0 + 0 * _
    constructor <;> grind
  | q :: H, h1, h2, h3, h4 => by
    obtain ⟨a, b⟩ := row_near hp hp2 f F hF H (fun x hx => h1 x (by simp [hx])) (fun x hx => h2 x (by simp [hx])) (fun x hx => h3 x (by simp [hx])) (fun x hx => h4 x (by simp [hx]))
    obtain ⟨w, e, -, hw⟩ := h3 q (by simp)
    obtain ⟨f1, f2⟩ := h4 q (by simp)
    have hq := h1 q (by simp)
    have hq2 := h2 q (by simp)
    have hle := mul_bd (a := wo p.2) (A := 5 / 4) (by have := hp.2; grind) hp2 (b := wo q.2) (B := 5 / 4) (by have := hq.2; grind) hq2
    obtain ⟨-, m1, m2⟩ := mul_ok hp hq (by grind)
    have hlen : (((q :: H).length : Nat) : Rat) = (H.length : Rat) + 1 := by rw [List.length_cons]; exact Rat.natCast_add _ _
    have es : ((q :: H).map fun q => f (φ (val p.1) (val q.1)) * (wo p.2 * wo q.2)).sum = f (φ (val p.1) (val q.1)) * (wo p.2 * wo q.2) + (H.map fun q => f (φ (val p.1) (val q.1)) * (wo p.2 * wo q.2)).sum := by simp
    have ew : val (wordOf (g p.1 q.1)) = φ (val p.1) (val q.1) := by rw [e]; exact hw
    rw [hlen, es, List.map_cons, ph_cons]
    dsimp only
    rw [ew]
    have := mul_bd f1 f2 (b := wo (mulO p.2 q.2) - wo p.2 * wo q.2) (B := p2 (-23)) (by grind) (by grind)
    constructor <;> grind
theorem prs_near {φ : Rat → Rat → Rat} {H : List (Nat × Option Nat)} (h1 : ∀ q ∈ H, OkC q.2) (h2 : ∀ q ∈ H, wo q.2 ≤ 5 / 4) (f : Rat → Rat) (F : Rat) (hF : 0 ≤ F) : ∀ G : List (Nat × Option Nat), (∀ p ∈ G, OkC p.2) → (∀ p ∈ G, wo p.2 ≤ 5 / 4) → GoodG g φ G H → (∀ p ∈ G, ∀ q ∈ H, -F ≤ f (φ (val p.1) (val q.1)) ∧ f (φ (val p.1) (val q.1)) ≤ F) →
    PP φ f G H - (G.length : Rat) * ((H.length : Rat) * (F * p2 (-23))) ≤ Ph f (prs g G H) ∧ Ph f (prs g G H) ≤ PP φ f G H + (G.length : Rat) * ((H.length : Rat) * (F * p2 (-23)))
  | [], _, _, _, _ => by
    have : ((([] : List (Nat × Option Nat)).length : Nat) : Rat) = 0 := rfl
    rw [this]
    show (0 : Rat) - 0 * _ ≤ 0 ∧ (0 : Rat) ≤ 0 + 0 * _
    constructor <;> grind
  | p :: G, k1, k2, k3, k4 => by
    obtain ⟨a, b⟩ := prs_near h1 h2 f F hF G (fun x hx => k1 x (by simp [hx])) (fun x hx => k2 x (by simp [hx])) (fun x hx => k3 x (by simp [hx])) (fun x hx => k4 x (by simp [hx]))
    obtain ⟨c, d⟩ := row_near (g := g) (φ := φ) (k1 p (by simp)) (k2 p (by simp)) f F hF H h1 h2 (k3 p (by simp)) (k4 p (by simp))
    have hlen : (((p :: G).length : Nat) : Rat) = (G.length : Rat) + 1 := by rw [List.length_cons]; exact Rat.natCast_add _ _
    have es : PP φ f (p :: G) H = (H.map fun q => f (φ (val p.1) (val q.1)) * (wo p.2 * wo q.2)).sum + PP φ f G H := by simp [PP]
    have ep : prs g (p :: G) H = (H.map fun q => (wordOf (g p.1 q.1), mulO p.2 q.2)) ++ prs g G H := by simp [prs]
    rw [hlen, es, ep, ph_app]
    constructor <;> grind
theorem prs_ok {φ : Rat → Rat → Rat} (h1 : ∀ q ∈ H, OkC q.2) (h2 : ∀ q ∈ H, wo q.2 ≤ 5 / 4) (k1 : ∀ p ∈ G, OkC p.2) (k2 : ∀ p ∈ G, wo p.2 ≤ 5 / 4) (k3 : GoodG g φ G H) : ∀ r ∈ prs g G H, OkC r.2 ∧ finB r.1 = true := by
  intro r hr
  unfold prs at hr
  obtain ⟨p, hp, hr⟩ := List.mem_flatMap.1 hr
  obtain ⟨q, hq, rfl⟩ := List.mem_map.1 hr
  obtain ⟨b, e, hb, -⟩ := k3 p hp q hq
  have hle := mul_bd (a := wo p.2) (A := 5 / 4) (by have := (k1 p hp).2; grind) (k2 p hp) (b := wo q.2) (B := 5 / 4) (by have := (h1 q hq).2; grind) (h2 q hq)
  refine ⟨(mul_ok (k1 p hp) (h1 q hq) (by grind)).1, ?_⟩
  dsimp only
  rw [e]; exact hb
theorem GSh.small (h : GSh G x0 x1) : ∀ p ∈ G, wo p.2 ≤ 5 / 4 := fun p hp => by
  have := wo_le h.ch hp
  have := h.t2
  have q11 : p2 (-11) * 2048 = 1 := p2m 11
  grind
end
end Go.Proofs.YtjajlddnhmbekaaGreat
