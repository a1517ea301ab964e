/-
  Gaps of numbers in 64 bits, nearly; words of results.
  A source of choices: bytes, and behind their end a simple sequence.
  A share that is drawn by bytes: the walks of l05DrawOk and B10Share.
  What is drawn is a valid share whose chances make one, nearly.
-/
import Derived.Test.YtjajlddnhmbekaaGreatMom
import Derived.Test.YtjajlddnhmbekaaGreatB10A
import Derived.Test.YtjajlddnhmbekaaGreatShareIs2
import Derived.Test.YtjajlddnhmbekaaGreatCount
namespace Go.Proofs.YtjajlddnhmbekaaGreat
section
open Go.RowKit

theorem vl_ord {k : FloatKind} {a b : Nat} {u v : Rat} (ha : Vl k (some a) u) (hb : Vl k (some b) v) : (k.format.order a b = some .lt ↔ u < v) ∧ (k.format.order a b = some .gt ↔ v < u) ∧ (k.format.order a b = some .eq ↔ u = v) := by
  obtain ⟨a', e, ha⟩ := ha
  cases e
  obtain ⟨b', e, hb⟩ := hb
  cases e
  obtain ⟨s, m, p, ea, a1, a2⟩ := ha.read
  obtain ⟨t, n, q, eb, b1, b2⟩ := hb.read
  have e1 : vD (.number s m p) = u := Rat.le_antisymm a2 a1
  have e2 : vD (.number t n q) = v := Rat.le_antisymm b2 b1
  unfold Ieee.Format.order
  rw [ea, eb, ← e1, ← e2]
  exact order_cmp _ _ _ _ _ _
theorem vl_nan {k : FloatKind} {a : Nat} {u : Rat} (ha : Vl k (some a) u) : (k.decode a).isNaN = false := by
  obtain ⟨a', e, ha⟩ := ha
  cases e
  obtain ⟨s, m, p, ea, -, -⟩ := ha.read
  have ea' : k.decode a = .number s m p := ea
  rw [ea']; rfl
/-- In 64 bits. -/
theorem add64 {a b : Nat} {u v : Rat} (ha : Vl .f64 (some a) u) (hb : Vl .f64 (some b) v) (h1 : -1024 ≤ u + v) (h2 : u + v ≤ 1024) : ∃ s r, floatBits .add .f64 a b = some s ∧ Vl .f64 (some s) r ∧ u + v - p2 (-43) ≤ r ∧ r ≤ u + v + p2 (-43) := by
  have q : p2 10 = 1024 := p2_nat 10
  obtain ⟨r, hr, hn⟩ := vl_add ha hb (lo := -p2 10) (hi := p2 10) (rep_neg (rep64 (by omega) (by omega))) (rep64 (by omega) (by omega)) (by rw [q]; grind) (by rw [q]; grind)
  have he := hn.err (e := -43) (in64 (by omega) (by omega)) (by rw [gB64, show (-43 : Int) + 53 = 10 by omega, q]; grind) (by rw [gB64, show (-43 : Int) + 53 = 10 by omega, q]; grind)
  have hr' := hr
  obtain ⟨s, es, -⟩ := hr
  have e2 : floatBits .add .f64 a b = some s := es
  exact ⟨s, r, e2, by rw [← es]; exact hr', he.1, he.2⟩
theorem mul64 {a b : Nat} {u v : Rat} (ha : Vl .f64 (some a) u) (hb : Vl .f64 (some b) v) (h1 : -1024 ≤ u * v) (h2 : u * v ≤ 1024) : ∃ s r, floatBits .mul .f64 a b = some s ∧ Vl .f64 (some s) r ∧ u * v - p2 (-43) ≤ r ∧ r ≤ u * v + p2 (-43) := by
  have q : p2 10 = 1024 := p2_nat 10
  obtain ⟨r, hr, hn⟩ := vl_mul ha hb (lo := -p2 10) (hi := p2 10) (rep_neg (rep64 (by omega) (by omega))) (rep64 (by omega) (by omega)) (by rw [q]; grind) (by rw [q]; grind)
  have he := hn.err (e := -43) (in64 (by omega) (by omega)) (by rw [gB64, show (-43 : Int) + 53 = 10 by omega, q]; grind) (by rw [gB64, show (-43 : Int) + 53 = 10 by omega, q]; grind)
  have hr' := hr
  obtain ⟨s, es, -⟩ := hr
  have e2 : floatBits .mul .f64 a b = some s := es
  exact ⟨s, r, e2, by rw [← es]; exact hr', he.1, he.2⟩
theorem gap64 {a b : Nat} {u v : Rat} (ha : Vl .f64 (some a) u) (hb : Vl .f64 (some b) v) {D : Rat} (h1 : -D ≤ u - v) (h2 : u - v ≤ D) (hD : D ≤ 1024) : ∃ g r, gapW a b = some g ∧ Vl .f64 (some g) r ∧ 0 ≤ r ∧ r ≤ D + p2 (-43) := by
  have q : p2 10 = 1024 := p2_nat 10
  have key : ∀ {a b : Nat} {u v : Rat}, Vl .f64 (some a) u → Vl .f64 (some b) v → 0 ≤ u - v → u - v ≤ D → ∃ g r, floatBits .sub .f64 a b = some g ∧ Vl .f64 (some g) r ∧ 0 ≤ r ∧ r ≤ D + p2 (-43) := by
    intro a b u v ha hb h1 h2
    obtain ⟨r, hr, hn⟩ := vl_sub ha hb (lo := -p2 10) (hi := p2 10) (rep_neg (rep64 (by omega) (by omega))) (rep64 (by omega) (by omega)) (by rw [q]; grind) (by rw [q]; grind)
    have he := hn.err (e := -43) (in64 (by omega) (by omega)) (by rw [gB64, show (-43 : Int) + 53 = 10 by omega, q]; grind) (by rw [gB64, show (-43 : Int) + 53 = 10 by omega, q]; grind)
    have h0 := hn.1 0 rep0 h1
    have hr' := hr
    obtain ⟨s, es, -⟩ := hr
    have e2 : floatBits .sub .f64 a b = some s := es
    exact ⟨s, r, e2, by rw [← es]; exact hr', h0, by grind⟩
  unfold gapW
  by_cases h : u < v
  · rw [(vl_ord ha hb).1.2 h, if_pos (beq_self_eq_true _)]
    exact key hb ha (by grind) (by grind)
  · have : (FloatKind.f64.format.order a b == some .lt) = false := by
      cases e : (FloatKind.f64.format.order a b == some .lt) with
      | false => rfl
      | true => exact absurd ((vl_ord ha hb).1.1 (beq_iff_eq.1 e)) h
    rw [this, if_neg (by simp)]
    exact key ha hb (by grind) (by grind)
theorem ngt64 {g c : Nat} {r q : Rat} (hg : Vl .f64 (some g) r) (hc : Vl .f64 (some c) q) (h : r ≤ q) : (FloatKind.f64.format.order g c == some .gt) = false := by
  cases e : (FloatKind.f64.format.order g c == some .gt) with
  | false => rfl
  | true =>
    have := (vl_ord hg hc).2.1.1 (beq_iff_eq.1 e)
    grind
theorem lt64 {g c : Nat} {r q : Rat} (hg : Vl .f64 (some g) r) (hc : Vl .f64 (some c) q) (h : r < q) : (FloatKind.f64.format.order g c == some .lt) = true := by
  rw [(vl_ord hg hc).1.2 h]; rfl
/-- 0.01 and 0.05. -/
theorem cent_vl : ∃ q, Vl .f64 (some 4576918229304087675) q ∧ p2 (-7) < q := by
  refine ⟨_, vl_of (k := .f64) (b := 4576918229304087675) (s := false) (m := 5764607523034235) (p := -59) (by decide), ?_⟩
  show p2 (-7) < mg 5764607523034235 (-59)
  rw [← mg_one, show mg 1 (-7) = mg (1 * 2 ^ 52) (-59) by rw [← mg_up]; congr 1, mg_lt]
  decide
theorem five_vl : ∃ q, Vl .f64 (some 4587366580439587226) q ∧ p2 (-5) + p2 (-6) < q := by
  refine ⟨_, vl_of (k := .f64) (b := 4587366580439587226) (s := false) (m := 7205759403792794) (p := -57) (by decide), ?_⟩
  show p2 (-5) + p2 (-6) < mg 7205759403792794 (-57)
  have e1 : p2 (-5) = mg (1 * 2 ^ 52) (-57) := by rw [← mg_one, ← mg_up]; congr 1
  have e2 : p2 (-6) = mg (1 * 2 ^ 51) (-57) := by rw [← mg_one, ← mg_up]; congr 1
  rw [e1, e2]
  unfold mg
  rw [← Rat.add_mul]
  exact (Rat.mul_lt_mul_right (p2_pos (-57))).2 (by decide +kernel)
theorem write_lt (d : Ieee.Datum) : FloatKind.f32.format.write d < 4294967296 := by
  have hw : ∀ (s : Bool) (r : Nat), r < 2147483648 → FloatKind.f32.format.word s r < 4294967296 := by
    intro s r hr
    unfold Ieee.Format.word
    cases s
    · rw [if_neg (by simp)]; omega
    · rw [if_pos rfl]
      have : FloatKind.f32.format.signWeight = 2147483648 := by decide
      omega
  have hi : FloatKind.f32.format.infRung = 2139095040 := by decide
  have hb : FloatKind.f32.format.binade = 8388608 := by decide
  cases d with
  | number s m p =>
    obtain ⟨r, e, hr, -⟩ := near_sign .f32 s m p
    show FloatKind.f32.format.nearest s m p < 4294967296
    rw [e]
    exact hw s r (by omega)
  | infinity s => exact hw s _ (by omega)
  | nan s t =>
    refine hw s _ ?_
    have := Nat.mod_lt t (show 0 < FloatKind.f32.format.binade by rw [hb]; decide)
    omega
theorem opF_lt {op : BinOp} {x y : Option Nat} {r : Nat} (h : opF op .f32 x y = some r) : r < 4294967296 := by
  cases x with
  | none => cases h
  | some a =>
    cases y with
    | none => cases h
    | some b =>
      have h' : floatBits op .f32 a b = some r := h
      unfold floatBits at h'
      split at h'
      · obtain ⟨d, -, rfl⟩ := Option.map_eq_some_iff.1 h'; exact write_lt d
      · obtain ⟨d, -, rfl⟩ := Option.map_eq_some_iff.1 h'; exact write_lt d
      · obtain ⟨d, -, rfl⟩ := Option.map_eq_some_iff.1 h'; exact write_lt d
      · obtain ⟨d, -, rfl⟩ := Option.map_eq_some_iff.1 h'; exact write_lt d
      · cases h'
end

section
section
open Go.RowKit

abbrev srcV (cv : Value) (at' : Nat) (sd : Int) : List Value := [cv, .int .i64 at', .int .u64 sd]
set_option maxHeartbeats 1600000 in
theorem l00From_any (cv : Value) (code : List (Fin 256)) (w : World) (hr : Rd yV w cv code) :
    Calls Tryz.prog 21 #[cv] w fun e w' => e = .returned (.pointer (some ⟨w.heap.size, 0, none⟩)) ∧ BoxAt w' w.heap.size (srcV cv 0 0) ∧ Below w.heap.size w w' ∧ w.heap.size < w'.heap.size := by
  obtain ⟨A, cap, rfl, hcap, hA⟩ := hr
  clear hA
  go_enter Tryz.func21, Tryz.ntmps21
  go_wp2
  go_ret
  exact ⟨rfl, BoxAt.new w _ _, (below_alloc _ _), by simp⟩
theorem and_byte (x : Int) : ∃ v : Nat, wrap64 (bits .and .u64 x 255) = (v : Int) ∧ v < 256 := by
  obtain ⟨n, hn⟩ : ∃ n : Nat, n = (BitVec.ofInt 64 x &&& BitVec.ofInt 64 255).toNat := ⟨_, rfl⟩
  have hle : n ≤ 255 := by
    rw [hn, BitVec.toNat_and]
    exact Nat.le_trans Nat.and_le_right (by decide)
  have e : bits .and .u64 x 255 = IntKind.u64.wrap (n : Int) := by rw [hn]; rfl
  have hw : IntKind.u64.wrap (n : Int) = (n : Int) := by
    have h1 : (n : Int) < 256 := by omega
    have h0 : (0 : Int) ≤ (n : Int) := by omega
    generalize (n : Int) = m at *
    unfold IntKind.wrap
    simp [IntKind.bits]
    omega
  refine ⟨n, ?_, by omega⟩
  rw [e, hw]
  unfold wrap64
  omega
set_option maxHeartbeats 1600000 in
theorem l00Next_any (s : Nat) (cv : Value) (code : List (Fin 256)) (k : Nat) (sd : Int) (_hn : code.length ≤ 1099511627776) (hk : k ≤ 1000000) (w : World) (hb : BoxAt w s (srcV cv k sd)) (hr : Rd yV w cv code) :
    Calls Tryz.prog 72 #[.pointer (some ⟨s, 0, none⟩)] w fun e w' => ∃ (x : Nat) (sd' : Int), e = .returned (.int .i64 x) ∧ x < 256 ∧ BoxAt w' s (srcV cv (k + 1) sd') ∧ Touch s (s + 1) w w' := by
  obtain ⟨A, cap, rfl, hcap, hA⟩ := hr
  have HA := Lib.hid hA
  clear hA
  have d0 := hb.cell 0 _ rfl
  have d1 := hb.cell 1 _ rfl
  have d2 := hb.cell 2 _ rfl
  have f0 := hb.free 0
  have f1 := hb.free 1
  have f2 := hb.free 2
  have hlt := hb.lt
  by_cases h1 : k < code.length
  · obtain ⟨x, hx⟩ := get_of_lt h1
    obtain ⟨ad, rfl, hbl, hc⟩ := HA.out k x hx
    have i1 : (k : Int) < (code.length : Int) := by omega
    have i0 : (0 : Int) ≤ (k : Int) := by omega
    have hx2 := x.isLt
    clear hx HA
    go_enter Tryz.func72, Tryz.ntmps72
    go_wp2_with fail
    go_quiet (fail)
    go_wp2_with fail
    go_quiet (fail)
    go_wp2_with fail
    generalize hW : World.setCell (World.setCell _ _ _) _ _ = W1
    obtain ⟨sd', hB, hT⟩ : ∃ sd', BoxAt W1 s [.slice (some ad) code.length cap, .int .i64 ((k : Int) + 1), .int .u64 sd'] ∧ Touch s (s + 1) w W1 := by
      rw [← hW]
      exact ⟨_, ((hb.below (below_drewN_ (Below.refl _ _))).set (i := 1) rfl _).set (i := 2) rfl _, ((Touch.of_below (below_drewN_ (Below.refl _ _))).trans (Touch.setCell _ ⟨s, 1, none⟩ _)).trans (Touch.setCell _ ⟨s, 2, none⟩ _)⟩
    clear hW hb d0 d1 d2 f0 f1 f2 hc
    have d0 := hB.cell 0 _ rfl
    have d1 := hB.cell 1 _ rfl
    have d2 := hB.cell 2 _ rfl
    go_quiet (fail)
    go_wp2
    go_ret
    exact ⟨x.val, sd', rfl, hx2, hB.below (below_drewN_ (Below.refl _ _)), hT.trans (Touch.of_below (below_drewN_ (Below.refl _ _)))⟩
  · have i1 : ¬ (k : Int) < (code.length : Int) := by omega
    go_enter Tryz.func72, Tryz.ntmps72
    go_wp2_with fail
    go_quiet (fail)
    go_wp2_with fail
    generalize hW : World.setCell (World.setCell _ _ _) _ _ = W1
    obtain ⟨sd', hB, hT⟩ : ∃ sd', BoxAt W1 s [.slice A code.length cap, .int .i64 ((k : Int) + 1), .int .u64 sd'] ∧ Touch s (s + 1) w W1 := by
      rw [← hW]
      exact ⟨_, ((hb.below (below_drewN_ (Below.refl _ _))).set (i := 1) rfl _).set (i := 2) rfl _, ((Touch.of_below (below_drewN_ (Below.refl _ _))).trans (Touch.setCell _ ⟨s, 1, none⟩ _)).trans (Touch.setCell _ ⟨s, 2, none⟩ _)⟩
    clear hW hb d0 d1 d2 f0 f1 f2
    have d0 := hB.cell 0 _ rfl
    have d1 := hB.cell 1 _ rfl
    have d2 := hB.cell 2 _ rfl
    go_quiet (fail)
    go_wp2
    go_ret
    obtain ⟨v, hv, hv2⟩ := and_byte (sd' / 1099511627776)
    refine ⟨v, sd', ?_, hv2, hB.below (below_drewN_ (Below.refl _ _)), hT.trans (Touch.of_below (below_drewN_ (Below.refl _ _)))⟩
    show Ending.returned (.int .i64 (wrap64 (bits .and .u64 (sd' / 1099511627776) 255))) = _
    rw [hv]
set_option maxHeartbeats 1600000 in
theorem l00Pick_any (s : Nat) (cv : Value) (code : List (Fin 256)) (k : Nat) (sd : Int) (n : Nat) (hn2 : 2 ≤ n) (hn3 : n ≤ 200) (hn : code.length ≤ 1099511627776) (hk : k ≤ 1000000) (w : World) (hb : BoxAt w s (srcV cv k sd)) (hr : Rd yV w cv code) :
    Calls Tryz.prog 50 #[.pointer (some ⟨s, 0, none⟩), .int .i64 n] w fun e w' => ∃ (x : Nat) (sd' : Int), e = .returned (.int .i64 x) ∧ x < n ∧ BoxAt w' s (srcV cv (k + 1) sd') ∧ Touch s (s + 1) w w' := by
  have n1 : ¬ (n : Int) ≤ 1 := by omega
  have n0 : ¬ (n : Int) = 0 := by omega
  have n2 : ((n : Int) == 0) = false := beq_eq_false_iff_ne.2 n0
  have n3 : ¬ (n : Int) > 200 := by omega
  have HN := Lib.hid (l00Next_any s cv code k sd hn hk w hb hr)
  clear hb hr
  go_enter Tryz.func50, Tryz.ntmps50
  go_wp2_with fail
  refine HN.out.mono ?_
  rintro e w1 ⟨x, sd', rfl, hx, hB, hT⟩
  have hx0 : (0 : Int) ≤ (x : Int) := by omega
  go_wp2
  go_ret
  refine ⟨x % n, sd', ret_int ?_, Nat.mod_lt _ (by omega), hB, hT⟩
  exact (Int.natCast_emod _ _).symm
end

section
open Go.RowKit

/-- The word of half a number. -/
def hwd (z : Int) : Nat := (floatBits .quo .f32 (floatOfInt .f32 z) 1073741824).getD 0
theorem hwd_tab : ∀ m : Nat, m < 17 → floatBits .quo .f32 (floatOfInt .f32 ((m : Int) - 8)) 1073741824 = some (hwd ((m : Int) - 8)) := by decide +kernel
theorem hwd_eq {x : Nat} (h : x < 17) : floatBits .quo .f32 (floatOfInt .f32 ((x : Int) - 8)) 1073741824 = some (hwd ((x : Int) - 8)) := hwd_tab x h
/-- What is drawn: up to six halves of numbers from -8 to 8, with counts from 1 to 8. -/
structure Drawn (zs cs : List Int) : Prop where
  ne : 1 ≤ zs.length
  le : zs.length ≤ 6
  len : cs.length = zs.length
  z : ∀ z ∈ zs, -8 ≤ z ∧ z ≤ 8
  c : ∀ c ∈ cs, 1 ≤ c ∧ c ≤ 8
def drV (zs cs : List Int) : List (Option Nat) := if cntOk (zs.map hwd) cs then absL ((gatS (zs.map hwd) (cntTo cs cs.sum cs.length)).map Prod.fst) else []
def drC (zs cs : List Int) : List (Option Nat) := if cntOk (zs.map hwd) cs then (gatS (zs.map hwd) (cntTo cs cs.sum cs.length)).map Prod.snd else []
def RetDraw (s : Nat) (w : World) (e : Ending) (w' : World) : Prop :=
  ∃ zs cs v0 y0 v1 y1, e = .returned (shV v0 v1) ∧ Drawn zs cs ∧ Own fV 28 w' w.heap.size v0 y0 ∧ Own fV 28 w' w.heap.size v1 y1 ∧ absL y0 = drV zs cs ∧ absL y1 = drC zs cs ∧ Touch s (s + 1) w w'
theorem own_touch {α : Type} {f : α → Value} {E : TypeId} {w w' : World} {base lo hi : Nat} {v : Value} {xs : List α} (h : Own f E w base v xs) (t : Touch lo hi w w') (hd : hi ≤ base) : Own f E w' base v xs := (h.ranged.touch t (.inr hd)).own
section
variable {α β : Type} {f : α → Value} {f' : β → Value} {E E' : TypeId} {w w' : World} {base : Nat} {v v' u : Value} {xs : List α} {ys : List β}
theorem two_app (o1 : Own f' E' w base u ys) (ap : v.ownBlock = none ∨ v.ownBlock ≠ u.ownBlock) (hg : w.grownBy w' v.ownBlock) (hp : v'.ownBlock = v.ownBlock ∨ v'.ownBlock = some w.heap.size) :
    Own f' E' w' base u ys ∧ (v'.ownBlock = none ∨ v'.ownBlock ≠ u.ownBlock) := by
  refine ⟨o1.kept hg (apart_symm ap), ?_⟩
  rcases hp with e | e <;> rw [e]
  · exact ap
  · cases hub : u.ownBlock with
    | none => exact .inr (fun e => by cases e)
    | some b =>
      refine .inr fun e2 => ?_
      have := (o1.lt b hub).2
      injection e2
      omega
end
theorem touch_below {lo hi B : Nat} {w w1 w2 : World} (h : Touch lo hi w w1) (k : Below B w1 w2) (hB : w.heap.size ≤ B) : Touch lo hi w w2 :=
  ⟨k.os.trans h.os, k.tape.trans h.tape, k.output.trans h.output, Nat.le_trans h.size k.size, fun i hi' hr => (k.block i (by omega)).trans (h.block i hi' hr)⟩
set_option maxRecDepth 10000 in
set_option maxHeartbeats 3200000 in
theorem l05DrawOk_any (s : Nat) (cv : Value) (code : List (Fin 256)) (hn : code.length ≤ 1099511627776) (w : World) (hb : BoxAt w s (srcV cv 0 0)) (hr : ∀ W, Below s w W → Rd yV W cv code) :
    Calls Tryz.prog 22 #[.pointer (some ⟨s, 0, none⟩)] w (RetDraw s w) := by
  have HR := Lib.hid hr
  have hlt := hb.lt
  clear hr
  go_enter Tryz.func22, Tryz.ntmps22
  go_wp2_with fail
  have O1 : Hid (Own fV 28 (((w.alloc (.cells #[.slice none 0 0, .slice none 0 0] 26)).alloc (.cells #[] 28)).alloc (.cells #[] 2)) (w.heap.size + 1) (.slice (some ⟨w.heap.size + 1, 0, none⟩) 0 0) []) := by
    have := Own.alloc (own_nil_new fV (w.alloc (.cells #[.slice none 0 0, .slice none 0 0] 26)) 28) (.cells #[] 2)
    rwa [size_alloc] at this
  have O2 : Hid (Own iV 2 (((w.alloc (.cells #[.slice none 0 0, .slice none 0 0] 26)).alloc (.cells #[] 28)).alloc (.cells #[] 2)) (w.heap.size + 1) (.slice (some ⟨w.heap.size + 1 + 1, 0, none⟩) 0 0) []) := by
    have := own_nil_new iV ((w.alloc (.cells #[.slice none 0 0, .slice none 0 0] 26)).alloc (.cells #[] 28)) 2
    rw [size_alloc, size_alloc] at this
    exact this.base_ (by omega)
  have BR : BoxAt (((w.alloc (.cells #[.slice none 0 0, .slice none 0 0] 26)).alloc (.cells #[] 28)).alloc (.cells #[] 2)) w.heap.size [.slice none 0 0, .slice none 0 0] := ((BoxAt.new w _ _).alloc _).alloc _
  have hb3 : Below w.heap.size w (((w.alloc (.cells #[.slice none 0 0, .slice none 0 0] 26)).alloc (.cells #[] 28)).alloc (.cells #[] 2)) := (((Below.refl _ _).alloc (Nat.le_refl _) _).alloc (by simp) _).alloc (by first | (simp; done) | (simp; omega)) _
  have hz3 : w.heap.size + 1 ≤ (((w.alloc (.cells #[.slice none 0 0, .slice none 0 0] 26)).alloc (.cells #[] 28)).alloc (.cells #[] 2)).heap.size := by first | (simp; done) | (simp; omega)
  generalize ((w.alloc (.cells #[.slice none 0 0, .slice none 0 0] 26)).alloc (.cells #[] 28)).alloc (.cells #[] 2) = w3 at *
  refine (l00Pick_any s cv code 0 0 6 (by omega) (by omega) hn (by omega) w3 (hb.below hb3) (HR.out _ (hb3.mono (by omega)))).mono ?_
  rintro e w4 ⟨x, sd, rfl, hx, HB4, hT4⟩
  have BR4 := BR.touch hT4 (.inr (by omega))
  have O14 := Lib.hid (own_touch O1.out hT4 (by omega))
  have O24 := Lib.hid (own_touch O2.out hT4 (by omega))
  have hz4 := hT4.size
  have HT4 : Touch s (s + 1) w w4 := (Touch.of_below hb3).trans hT4
  clear hb3 BR O1 O2 hb hT4
  go_wp2
  go_loopw [3, 4, 5] (fun sv sc sn wq => ∃ (n : Nat) (zs cs : List Int) (sd : Int), sn = .int .i64 n ∧ zs.length + n = x + 1 ∧ cs.length = zs.length ∧ Hid (∀ z ∈ zs, -8 ≤ z ∧ z ≤ 8) ∧ Hid (∀ c ∈ cs, 1 ≤ c ∧ c ≤ 8) ∧ Hid (Own fV 28 wq (w.heap.size + 1) sv (zs.map hwd)) ∧ Hid (Own iV 2 wq (w.heap.size + 1) sc cs) ∧ Hid (sv.ownBlock = none ∨ sv.ownBlock ≠ sc.ownBlock) ∧
    BoxAt wq s (srcV cv (1 + 2 * zs.length) sd) ∧ BoxAt wq w.heap.size [.slice none 0 0, .slice none 0 0] ∧ Touch s (s + 1) w wq ∧ w.heap.size + 1 ≤ wq.heap.size) (fun _ _ sn _ => (intOf sn).toNat)
  case atStart => exact ⟨x + 1, [], [], sd, by congr 1; omega, by simp, rfl, (fun z hz => by cases hz), (fun z hz => by cases hz), O14.out, O24.out, .inr (fun e => by injection e with e; dsimp only at e; omega), HB4, BR4, HT4, by omega⟩
  case round =>
    clear O14 O24 HB4 BR4 HT4 hz4 hz3
    obtain ⟨n, zs, cs, sd, rfl, hzn, hcl, hz, hc, O1, O2, hap, HB, BR, HT, hsz⟩ := hrel
    by_cases h0 : 0 < n
    · go_wp2_with fail
      refine (l00Pick_any s cv code (1 + 2 * zs.length) sd 17 (by omega) (by omega) hn (by omega) wr HB (HR.out _ (HT.below (Nat.le_refl _) (by omega)))).mono ?_
      rintro e w5 ⟨y, sd5, rfl, hy, HB5, hT5⟩
      have hf := fun W => run_float_arith (P := Tryz.prog) W .quo 28 .f32 _ _ _ (hwd_eq hy)
      have BR5 := BR.touch hT5 (.inr (by omega))
      have O15 := Lib.hid (own_touch O1.out hT5 (by omega))
      have O25 := Lib.hid (own_touch O2.out hT5 (by omega))
      have HT5 := HT.trans hT5
      have hsz5 := Nat.le_trans hsz hT5.size
      clear O1 O2 HB BR HT hT5
      go_wp2_with (at_builtin; go_loud (refine elF_.app (fun _ => rfl) _ rfl _ _ rfl (w.heap.size + 1) _ (zs.map hwd) rfl (Own.alloc O15.out _) _ _ rfl (rd_one fV _ _ _) (by omega) (by simp; omega) (by simp; omega) ?_))
      intro v' w6 ho hg hbb hp
      rw [← size_alloc w5 (.cells #[fV (hwd ((y : Int) - 8))] 28)] at hp
      have hwA := below_alloc w5 (.cells #[fV (hwd ((y : Int) - 8))] 28)
      obtain ⟨o2, ap2⟩ := two_app (Own.alloc O25.out (.cells #[fV (hwd ((y : Int) - 8))] 28)) hap.out hg hp
      have hnb : ∀ b : Nat, b ≤ w.heap.size → u3.ownBlock ≠ some b := fun b hb e => by have := (O15.out.lt b e).1; omega
      have HB6 := (HB5.below hwA).kept hg (hnb s (by omega))
      have BR6 := (BR5.below hwA).kept hg (hnb _ (Nat.le_refl _))
      have HT6 := touch_below (touch_below HT5 hwA (by omega)) hbb (by omega)
      have hsz6 : w.heap.size + 1 ≤ w6.heap.size := by have := hg.size; simp at this; omega
      have HV : Hid (Own fV 28 w6 (w.heap.size + 1) v' ((zs ++ [(y : Int) - 8]).map hwd)) := Lib.hid (by simpa using ho)
      have HC := Lib.hid o2
      have HAP := Lib.hid ap2
      clear ho hg hbb hp hwA o2 ap2 hnb HB5 BR5 HT5 O15 O25 hf hap
      go_wp2_with fail
      refine (l00Pick_any s cv code (1 + 2 * zs.length + 1) sd5 8 (by omega) (by omega) hn (by omega) w6 HB6 (HR.out _ (HT6.below (Nat.le_refl _) (by omega)))).mono ?_
      rintro e w7 ⟨c, sd7, rfl, hcb, HB7, hT7⟩
      have BR7 := BR6.touch hT7 (.inr (by omega))
      have OV7 := Lib.hid (own_touch HV.out hT7 (by omega))
      have OC7 := Lib.hid (own_touch HC.out hT7 (by omega))
      have HT7 := HT6.trans hT7
      have hsz7 := Nat.le_trans hsz6 hT7.size
      clear HV HC HB6 BR6 HT6 hT7
      go_wp2_with (at_builtin; go_loud (refine elI_.app (fun _ => rfl) _ rfl _ _ rfl (w.heap.size + 1) _ cs rfl (Own.alloc OC7.out _) _ _ rfl (rd_one iV _ _ _) (by omega) (by simp; omega) (by simp; omega) ?_))
      intro v'' w8 ho hg hbb hp
      rw [← size_alloc w7 (.cells #[iV (1 + (c : Int))] 2)] at hp
      have hwA := below_alloc w7 (.cells #[iV (1 + (c : Int))] 2)
      obtain ⟨o2, ap2⟩ := two_app (Own.alloc OV7.out (.cells #[iV (1 + (c : Int))] 2)) (apart_symm HAP.out) hg hp
      have hnb : ∀ b : Nat, b ≤ w.heap.size → u4.ownBlock ≠ some b := fun b hb e => by have := (OC7.out.lt b e).1; omega
      have HB8 := (HB7.below hwA).kept hg (hnb s (by omega))
      have BR8 := (BR7.below hwA).kept hg (hnb _ (Nat.le_refl _))
      have HT8 := touch_below (touch_below HT7 hwA (by omega)) hbb (by omega)
      have hsz8 : w.heap.size + 1 ≤ w8.heap.size := by have := hg.size; simp at this; omega
      have HV := Lib.hid o2
      have HC := Lib.hid ho
      have HAP2 := Lib.hid (apart_symm ap2)
      have hN : Hid (Value.int .i64 ((n : Int) - 1) = .int .i64 ((n - 1 : Nat) : Int)) := by unfold Hid; congr 1; omega
      clear ho hg hbb hp hwA o2 ap2 hnb HB7 BR7 HT7 OV7 OC7
      go_wp2
      go_roundw
      case rel =>
        refine ⟨n - 1, zs ++ [(y : Int) - 8], cs ++ [1 + (c : Int)], sd7, hN.out, by simp; omega, by simp [hcl], (fun z h => ?_), (fun z h => ?_), HV.out, HC.out, HAP2.out, ?_, BR8, HT8, hsz8⟩
        · rcases List.mem_append.1 h with h | h
          · exact hz.out z h
          · rw [List.mem_singleton] at h; omega
        · rcases List.mem_append.1 h with h | h
          · exact hc.out z h
          · rw [List.mem_singleton] at h; omega
        · rw [List.length_append, List.length_cons, List.length_nil, show 1 + 2 * (zs.length + (0 + 1)) = 1 + 2 * zs.length + 1 + 1 by omega]; exact HB8
      case measure => simp [intOf]; omega
    · have hn0 : n = 0 := by omega
      have HD : Hid (Drawn zs cs) := ⟨by omega, by omega, hcl, hz.out, hc.out⟩
      clear hz hc
      go_wp2_with fail
      refine (specCountShare_any _ (zs.map hwd) (by simp; omega) _ cs (by omega) wr O1.out.rd O2.out.rd).mono ?_
      rintro e w5 ⟨v0, y0, v1, y1, rfl, o0, o1, -, l0, l1, a0, a1, hb5⟩
      obtain ⟨E0, c0', rfl, q1, q2⟩ := o0.rd
      obtain ⟨E1, c1', rfl, q3, q4⟩ := o1.rd
      have BR5 := BR.below hb5
      have HT5 := touch_below HT hb5 (by omega)
      have hsz5 := Nat.le_trans hsz hb5.size
      have HO0 := Lib.hid (And.intro o0 (And.intro o1 (And.intro a0 a1)))
      have hbz := BR.lt
      clear q1 q2 q3 q4 o0 o1 a0 a1 O1 O2 HB BR HT hap hb5
      go_upto_region 9 with fail
      have BR9 := BR5.alloc (.cells #[.slice E0 y0.length c0', .slice E1 y1.length c1'] 26)
      have BN9 : BoxAt (w5.alloc (.cells #[.slice E0 y0.length c0', .slice E1 y1.length c1'] 26)) w5.heap.size [.slice E0 y0.length c0', .slice E1 y1.length c1'] := BoxAt.new w5 _ _
      have HO9 : Hid (Own fV 28 (w5.alloc (.cells #[.slice E0 y0.length c0', .slice E1 y1.length c1'] 26)) wr.heap.size (.slice E0 y0.length c0') y0 ∧ Own fV 28 (w5.alloc (.cells #[.slice E0 y0.length c0', .slice E1 y1.length c1'] 26)) wr.heap.size (.slice E1 y1.length c1') y1) := ⟨Own.alloc HO0.out.1 _, Own.alloc HO0.out.2.1 _⟩
      have HA9 := Lib.hid HO0.out.2.2
      have HT9 := touch_below HT5 (below_alloc w5 (.cells #[.slice E0 y0.length c0', .slice E1 y1.length c1'] 26)) (by omega)
      clear BR5 HO0 HT5
      generalize w5.alloc (.cells #[.slice E0 y0.length c0', .slice E1 y1.length c1'] 26) = w9 at *
      have d0 := BR9.cell 0 _ rfl
      have d1 := BR9.cell 1 _ rfl
      have c0 := BN9.cell 0 _ rfl
      have c1 := BN9.cell 1 _ rfl
      have f0 := BR9.free 0
      have f1 := BR9.free 1
      have hE0 : (Value.slice E0 y0.length c0').ownBlock ≠ some w.heap.size := fun e => by have := (HO9.out.1.lt _ e).1; omega
      have hE1 : (Value.slice E1 y1.length c1').ownBlock ≠ some w.heap.size := fun e => by have := (HO9.out.2.lt _ e).1; omega
      have HE := Lib.hid (And.intro hE0 hE1)
      clear hE0 hE1
      go_wp2
      refine bodyPost_ret (v := shV (.slice E0 y0.length c0') (.slice E1 y1.length c1')) (by simp [results, Tryz.results22, go_sem, *]) rfl ?_
      refine ⟨zs, cs, _, y0, _, y1, rfl, HD.out, (Own.other (Own.other HO9.out.1 (p := ⟨w.heap.size, 0, none⟩) HE.out.1 _) (p := ⟨w.heap.size, 1, none⟩) HE.out.1 _).base_ (by omega), (Own.other (Own.other HO9.out.2 (p := ⟨w.heap.size, 0, none⟩) HE.out.2 _) (p := ⟨w.heap.size, 1, none⟩) HE.out.2 _).base_ (by omega), HA9.out.1, HA9.out.2, ?_⟩
      exact touch_below HT9 (((Below.refl w.heap.size w9).setCell (p := ⟨w.heap.size, 0, none⟩) (Nat.le_refl _) _).setCell (p := ⟨w.heap.size, 1, none⟩) (Nat.le_refl _) _) (Nat.le_refl _)
set_option maxHeartbeats 1600000 in
theorem b10Share_any (v : Value) (code : List (Fin 256)) (hn : code.length ≤ 1099511627776) (w : World) (hr : Rd yV w v code) :
    Calls Tryz.prog 5 #[v] w fun e w' => ∃ zs cs v0 y0 v1 y1, e = .returned (shV v0 v1) ∧ Drawn zs cs ∧ Rd fV w' v0 y0 ∧ Rd fV w' v1 y1 ∧ absL y0 = drV zs cs ∧ absL y1 = drC zs cs ∧ Below w.heap.size w w' := by
  have HR := Lib.hid hr
  clear hr
  go_enter Tryz.func5, Tryz.ntmps5
  go_wp2_with fail
  have BR : BoxAt (w.alloc (.cells #[.slice none 0 0, .slice none 0 0] 26)) w.heap.size [.slice none 0 0, .slice none 0 0] := BoxAt.new w _ _
  have hb1 : Below w.heap.size w (w.alloc (.cells #[.slice none 0 0, .slice none 0 0] 26)) := below_alloc _ _
  generalize w.alloc (.cells #[.slice none 0 0, .slice none 0 0] 26) = w1 at *
  refine (l00From_any v code w1 (HR.out.below hb1)).mono ?_
  rintro e w2 ⟨rfl, HB, hb2, hz2⟩
  have hlt := BR.lt
  have BR2 := BR.below hb2
  have hbT := below_to hb1 hb2 hb1.size
  clear BR hb2
  go_wp2_with fail
  refine (l05DrawOk_any w1.heap.size v code hn w2 HB (fun W hW => HR.out.below (hbT.trans (hW.mono (by omega))))).mono ?_
  rintro e w3 ⟨zs, cs, v0, y0, v1, y1, rfl, hD, h0, h1, a0, a1, hT⟩
  obtain ⟨E0, c0', rfl, -, -⟩ := h0.rd
  obtain ⟨E1, c1', rfl, -, -⟩ := h1.rd
  have BR3 := BR2.touch hT (.inl hlt)
  have hz2' := hbT.size
  have hlt2 := BR2.lt
  have hb3 : Below w.heap.size w w3 := hbT.trans (hT.below (by omega) (by omega))
  have hE0 : (Value.slice E0 y0.length c0').ownBlock ≠ some w.heap.size := fun e => by have := (h0.lt _ e).1; omega
  have hE1 : (Value.slice E1 y1.length c1').ownBlock ≠ some w.heap.size := fun e => by have := (h1.lt _ e).1; omega
  have HE := Lib.hid (And.intro hE0 (And.intro hE1 (And.intro h0 (And.intro h1 (And.intro a0 a1)))))
  have d0 := BR3.cell 0 _ rfl
  have d1 := BR3.cell 1 _ rfl
  have f0 := BR3.free 0
  have f1 := BR3.free 1
  have HB3 := Lib.hid hb3
  clear hE0 hE1 h0 h1 a0 a1 hT hb3 BR2 hbT HB hb1
  go_wp2
  refine bodyPost_ret (v := shV (.slice E0 y0.length c0') (.slice E1 y1.length c1')) (by simp [results, Tryz.results5, go_sem, *]) rfl ?_
  obtain ⟨e0, e1, o0, o1, a0, a1⟩ := HE.out
  exact ⟨zs, cs, _, y0, _, y1, rfl, hD, (Own.other (Own.other o0 (p := ⟨w.heap.size, 0, none⟩) e0 _) (p := ⟨w.heap.size, 1, none⟩) e0 _).rd, (Own.other (Own.other o1 (p := ⟨w.heap.size, 0, none⟩) e1 _) (p := ⟨w.heap.size, 1, none⟩) e1 _).rd, a0, a1, (HB3.out.setCell (p := ⟨w.heap.size, 0, none⟩) (Nat.le_refl _) _).setCell (p := ⟨w.heap.size, 1, none⟩) (Nat.le_refl _) _⟩
end
end

section
open Go.RowKit

theorem gsh_of {xs : List Nat} {C : List (Option Nat)} {y0 y1 : List Nat} (hl : C.length = xs.length) (h1 : 1 ≤ xs.length) (h64 : xs.length ≤ 64) (hf : xs.all finB = true) (hC : ∀ c ∈ C, OkC c) (t1 : 1 - p2 (-12) ≤ Ph one (xs.zip C)) (t2 : Ph one (xs.zip C) ≤ 1 + p2 (-12))
    (h0 : absL y0 = absL ((gatS xs C).map Prod.fst)) (h1' : absL y1 = (gatS xs C).map Prod.snd) : GSh (gatS xs C) y0 y1 := by
  obtain ⟨hok, hch, key⟩ := gat_good hl h1 h64 hf hC t1 t2
  rw [gatOk_t hf] at hok
  have hff : ((gatS xs C).map Prod.fst).all finB = true := by
    unfold shareAB at hok
    simp only [Bool.and_eq_true] at hok
    exact hok.1.1.2
  have e0 : y0 = (gatS xs C).map Prod.fst := (absL_fin h0.symm hff).symm
  have e1 : y1.map some = (gatS xs C).map Prod.snd := by
    rw [← h1']
    unfold absL
    apply List.map_congr_left
    intro y hy
    have : absF .f32 y ∈ (gatS xs C).map Prod.snd := by rw [← h1']; unfold absL; exact List.mem_map_of_mem hy
    obtain ⟨p, hp, e⟩ := List.mem_map.1 this
    obtain ⟨b, eb, -⟩ := (hch p hp).1
    rw [e] at eb
    rw [eb]
    obtain ⟨rfl, -⟩ := absF_some eb
    rfl
  obtain ⟨a, b⟩ := key one 1 (fun x _ => ⟨by show (-1 : Rat) ≤ 1; decide, by show (1 : Rat) ≤ 1; decide⟩)
  have q12 : p2 (-12) * 4096 = 1 := p2m 12
  have q11 : p2 (-11) * 2048 = 1 := p2m 11
  have q17 : p2 (-17) * 131072 = 1 := p2m 17
  refine ⟨e0, e1, by rw [shareB_abs, e0, h1']; exact hok, hch, ?_, by grind, by grind⟩
  have := gAt_len (xs := xs) (C := C) (List.range xs.length)
  rw [List.length_range] at this
  exact Nat.le_trans this h64
theorem insG_snd {β γ : Type} {key : β → Rat} {add : γ → γ → γ} {z : γ} {P : γ → Prop} (ha : ∀ a b, P (add a b)) (x : β) (c : γ) : ∀ s : List (β × γ), (∀ p ∈ s, P p.2) → ∀ p ∈ insG key add z x c s, P p.2
  | [], _, p, hp => by
    rw [insG_nil, List.mem_singleton] at hp
    subst hp; exact ha _ _
  | (v, d) :: t, h, p, hp => by
    unfold insG at hp
    split at hp
    · rcases List.mem_cons.1 hp with rfl | hp
      · exact h _ (by simp)
      · exact insG_snd ha x c t (fun q hq => h q (by simp [hq])) p hp
    · split at hp
      · rcases List.mem_cons.1 hp with rfl | hp
        · exact ha _ _
        · exact h p (by simp [hp])
      · rcases List.mem_cons.1 hp with rfl | hp
        · exact ha _ _
        · exact h p hp
theorem insL_snd {β γ : Type} {key : β → Rat} {add : γ → γ → γ} {z : γ} {P : γ → Prop} (ha : ∀ a b, P (add a b)) : ∀ (l s : List (β × γ)), (∀ p ∈ s, P p.2) → ∀ p ∈ insL key add z s l, P p.2
  | [], _, h, p, hp => h p hp
  | q :: l, s, h, p, hp => insL_snd ha l (insG key add z q.1 q.2 s) (insG_snd ha q.1 q.2 s h) p hp
theorem chance_lt {xs : List Nat} {C : List (Option Nat)} {z1 : List Nat} (hch : ∀ p ∈ gatS xs C, OkC p.2) (h : absL z1 = (gatS xs C).map Prod.snd) : ∀ c ∈ z1, c < 4294967296 := by
  intro c hc
  have : absF .f32 c ∈ (gatS xs C).map Prod.snd := by rw [← h]; unfold absL; exact List.mem_map_of_mem hc
  obtain ⟨p, hp, e⟩ := List.mem_map.1 this
  have hP : ∀ b, p.2 = some b → b < 4294967296 := insL_snd (P := fun o => ∀ b, o = some b → b < 4294967296) (fun a b r hr => opF_lt (op := .add) (x := a) (y := b) hr) _ [] (fun p hp => by cases hp) p hp
  obtain ⟨b, eb, -⟩ := (hch p hp).1
  rw [e] at eb
  obtain ⟨rfl, -⟩ := absF_some eb
  exact hP _ (by rw [e, eb])
theorem value_lt {xs : List Nat} {C : List (Option Nat)} {z0 : List Nat} (hf : xs.all finB = true) (hx : ∀ x ∈ xs, x < 4294967296) (h : absL z0 = absL ((gatS xs C).map Prod.fst)) : ∀ c ∈ z0, c < 4294967296 := by
  have hmem : ∀ x ∈ (gatS xs C).map Prod.fst, x ∈ xs := fun x hx => by
    obtain ⟨p, hp, rfl⟩ := List.mem_map.1 hx
    obtain ⟨i, hi, e⟩ := gAt_mem (l := List.range xs.length) hp
    rw [List.mem_range] at hi
    obtain ⟨y, hy⟩ := get_of_lt hi
    rw [hy] at e
    rw [← e]
    exact List.mem_of_getElem? hy
  have hff : ((gatS xs C).map Prod.fst).all finB = true := by
    rw [List.all_eq_true]
    exact fun x hx => List.all_eq_true.1 hf _ (hmem x hx)
  have e0 : z0 = (gatS xs C).map Prod.fst := (absL_fin h.symm hff).symm
  subst e0
  exact fun c hc => hx c (hmem c hc)
theorem hwd_lt : ∀ m : Nat, m < 17 → hwd ((m : Int) - 8) < 4294967296 := by decide +kernel
theorem hwd_val : ∀ m : Nat, m < 17 → finB (hwd ((m : Int) - 8)) = true ∧ val (hwd ((m : Int) - 8)) = (((m : Int) - 8 : Int) : Rat) / 2 := by decide +kernel
theorem hwd_vl {z : Int} (h1 : -8 ≤ z) (h2 : z ≤ 8) : finB (hwd z) = true ∧ val (hwd z) = (z : Rat) / 2 := by
  have := hwd_val (z + 8).toNat (by omega)
  rwa [show (((z + 8).toNat : Nat) : Int) - 8 = z by omega] at this
/-- A count's part. -/
theorem cntQ_ok {S c : Int} (h0 : 0 ≤ c) (h1 : c ≤ S) (hS : 0 < S) (hS2 : S ≤ 1000) : OkC (cntQ S c) ∧ (c : Rat) / (S : Rat) - p2 (-24) ≤ wo (cntQ S c) ∧ wo (cntQ S c) ≤ (c : Rat) / (S : Rat) + p2 (-24) := by
  obtain ⟨n, rfl⟩ : ∃ n : Nat, c = (n : Int) := ⟨c.toNat, by omega⟩
  obtain ⟨m, rfl⟩ : ∃ m : Nat, S = (m : Int) := ⟨S.toNat, by omega⟩
  have vn := vl_nat (k := .f32) (n := n) (by show n ≤ 16777216; omega) (in32 (by omega) (by omega))
  have vm := vl_nat (k := .f32) (n := m) (by show m ≤ 16777216; omega) (in32 (by omega) (by omega))
  have hm : (0 : Rat) < (m : Rat) := by
    have := Rat.natCast_lt_natCast.2 (show 0 < m by omega)
    exact this
  have hnm : (n : Rat) ≤ (m : Rat) := Rat.natCast_le_natCast.2 (by omega)
  have hn : (0 : Rat) ≤ (n : Rat) := Rat.natCast_nonneg
  have hne : (m : Rat) ≠ 0 := fun h => by rw [h] at hm; exact absurd hm Rat.lt_irrefl
  have hmul : (n : Rat) / (m : Rat) * (m : Rat) = (n : Rat) := Rat.div_mul_cancel hne
  have q0 : 0 ≤ (n : Rat) / (m : Rat) := by
    by_cases h : 0 ≤ (n : Rat) / (m : Rat)
    · exact h
    · exfalso
      have := Rat.mul_pos (a := -((n : Rat) / (m : Rat))) (by grind) hm
      grind
  have q1 : (n : Rat) / (m : Rat) ≤ 1 := by
    by_cases h : (n : Rat) / (m : Rat) ≤ 1
    · exact h
    · exfalso
      have := Rat.mul_pos (a := (n : Rat) / (m : Rat) - 1) (by grind) hm
      grind
  unfold cntQ
  rw [(vl_fin vn).2, (vl_fin vm).2]
  obtain ⟨r, hr, hR⟩ := vl_quo vn vm hm (lo := 0) (hi := 1) rep0 rep1 q0 q1
  have e0 := hR.1 0 rep0 q0
  have he := hR.err (e := -24) (in32 (by omega) (by omega)) (by rw [gB32, show (-24 : Int) + 24 = 0 by omega, p2_zero]; grind) (by rw [gB32, show (-24 : Int) + 24 = 0 by omega, p2_zero]; exact q1)
  rw [vl_wo hr]
  have c1 : (((n : Nat) : Int) : Rat) = (n : Rat) := Rat.intCast_natCast n
  have c2 : (((m : Nat) : Int) : Rat) = (m : Rat) := Rat.intCast_natCast m
  rw [c1, c2]
  exact ⟨okC_of hr e0, he.1, he.2⟩
theorem sum_parts (S : Rat) : ∀ cs : List Int, (cs.map fun c : Int => (c : Rat) / S).sum = (cs.sum : Rat) / S
  | [] => by
    show (0 : Rat) = ((0 : Int) : Rat) / S
    rw [Rat.div_def]; show (0 : Rat) = 0 * _; grind
  | c :: cs => by
    have e : ((c :: cs).map fun c : Int => (c : Rat) / S).sum = (c : Rat) / S + (cs.map fun c : Int => (c : Rat) / S).sum := by simp
    rw [e, sum_parts S cs, List.sum_cons, Rat.intCast_add, Rat.div_def, Rat.div_def, Rat.div_def]
    grind
theorem sum_cnt {S : Int} (hS : 0 < S) (hS2 : S ≤ 1000) : ∀ cs : List Int, (∀ c ∈ cs, 0 ≤ c ∧ c ≤ S) → (∀ c ∈ cs.map (cntQ S), OkC c) ∧ (cs.map fun c : Int => (c : Rat) / (S : Rat)).sum - (cs.length : Rat) * p2 (-24) ≤ ((cs.map (cntQ S)).map wo).sum ∧ ((cs.map (cntQ S)).map wo).sum ≤ (cs.map fun c : Int => (c : Rat) / (S : Rat)).sum + (cs.length : Rat) * p2 (-24)
  | [], _ => by
    refine ⟨(fun c h => by cases h), ?_, ?_⟩
    · show (0 : Rat) - ((0 : Nat) : Rat) * _ ≤ 0
      have : ((0 : Nat) : Rat) = 0 := rfl
      rw [this]; grind
    · show (0 : Rat) ≤ 0 + ((0 : Nat) : Rat) * _
      have : ((0 : Nat) : Rat) = 0 := rfl
      rw [this]; grind
  | c :: cs, h => by
    obtain ⟨c0, c1⟩ := h c (by simp)
    obtain ⟨a1, a2, a3⟩ := cntQ_ok c0 c1 hS hS2
    obtain ⟨b1, b2, b3⟩ := sum_cnt hS hS2 cs (fun x hx => h x (by simp [hx]))
    have e1 : ((c :: cs).map fun c : Int => (c : Rat) / (S : Rat)).sum = (c : Rat) / (S : Rat) + (cs.map fun c : Int => (c : Rat) / (S : Rat)).sum := by simp
    have e2 : (((c :: cs).map (cntQ S)).map wo).sum = wo (cntQ S c) + ((cs.map (cntQ S)).map wo).sum := by simp
    have hlen : (((c :: cs).length : Nat) : Rat) = (cs.length : Rat) + 1 := by rw [List.length_cons]; exact Rat.natCast_add _ _
    rw [e1, e2, hlen]
    refine ⟨fun x hx => ?_, by grind, by grind⟩
    rcases List.mem_cons.1 hx with rfl | hx
    · exact a1
    · exact b1 x hx
theorem ph_one_zip : ∀ (xs : List Nat) (C : List (Option Nat)), C.length = xs.length → Ph one (xs.zip C) = (C.map wo).sum
  | [], [], _ => rfl
  | x :: xs, c :: C, h => by
    have := ph_one_zip xs C (by simpa using h)
    have e : Ph one ((x :: xs).zip (c :: C)) = 1 * wo c + Ph one (xs.zip C) := by rw [List.zip_cons_cons]; exact ph_cons _ _ _
    have e2 : ((c :: C).map wo).sum = wo c + (C.map wo).sum := by simp
    rw [e, e2, this]; grind
theorem sum_bounds : ∀ (cs : List Int), (∀ c ∈ cs, 1 ≤ c ∧ c ≤ 8) → (cs.length : Int) ≤ cs.sum ∧ cs.sum ≤ 8 * (cs.length : Int) ∧ ∀ c ∈ cs, c ≤ cs.sum
  | [], _ => ⟨by simp, by simp, fun c h => by cases h⟩
  | c :: cs, h => by
    obtain ⟨a, b⟩ := h c (by simp)
    obtain ⟨s1, s2, s3⟩ := sum_bounds cs (fun x hx => h x (by simp [hx]))
    rw [List.sum_cons, List.length_cons]
    refine ⟨by omega, by omega, fun x hx => ?_⟩
    rcases List.mem_cons.1 hx with rfl | hx
    · omega
    · have := s3 x hx; omega
theorem drawn_good {zs cs : List Int} {y0 y1 : List Nat} (hD : Drawn zs cs) (h0 : absL y0 = drV zs cs) (h1 : absL y1 = drC zs cs) :
    ∃ G, GSh G y0 y1 ∧ G.length ≤ 6 ∧ 1 ≤ G.length ∧ (∀ p ∈ G, ∃ z : Int, -8 ≤ z ∧ z ≤ 8 ∧ p.1 = hwd z ∧ val p.1 = (z : Rat) / 2) ∧ 1 - p2 (-16) ≤ Ph one G ∧ Ph one G ≤ 1 + p2 (-16) ∧ ∀ c ∈ y1, c < 4294967296 := by
  have hle := hD.le
  have hne := hD.ne
  have hlen := hD.len
  obtain ⟨s1, s2, s3⟩ := sum_bounds cs hD.c
  have hC : cntTo cs cs.sum cs.length = cs.map (cntQ cs.sum) := by unfold cntTo; rw [List.take_length]
  obtain ⟨g1, g2, g3⟩ := sum_cnt (S := cs.sum) (by omega) (by omega) cs (fun c hc => ⟨by have := hD.c c hc; omega, s3 c hc⟩)
  rw [sum_parts] at g2 g3
  have hSp : ((cs.sum : Int) : Rat) ≠ 0 := by
    intro h
    have : cs.sum = 0 := Rat.intCast_inj.1 h
    omega
  have hdd : ((cs.sum : Int) : Rat) / ((cs.sum : Int) : Rat) = 1 := by rw [Rat.div_def, Rat.mul_inv_cancel _ hSp]
  rw [hdd] at g2 g3
  have hf : (zs.map hwd).all finB = true := by
    rw [List.all_eq_true]
    intro x hx
    obtain ⟨z, hz, rfl⟩ := List.mem_map.1 hx
    exact (hwd_vl (hD.z z hz).1 (hD.z z hz).2).1
  have hl : (cs.map (cntQ cs.sum)).length = (zs.map hwd).length := by rw [List.length_map, List.length_map]; exact hlen
  have hc6 : cs.length ≤ 6 := by omega
  have hcl : (cs.length : Rat) ≤ 6 := Rat.natCast_le_natCast.2 hc6
  have hcl0 : (0 : Rat) ≤ (cs.length : Rat) := Rat.natCast_nonneg
  have hb := Rat.mul_le_mul_of_nonneg_right hcl (p2_nn (-24))
  have q24 := p2_24
  have q12 : p2 (-12) * 4096 = 1 := p2m 12
  have q16 : p2 (-16) * 65536 = 1 := p2m 16
  have q17 : p2 (-17) * 131072 = 1 := p2m 17
  have hlx : (zs.map hwd).length = zs.length := List.length_map ..
  have T1 : 1 - p2 (-12) ≤ Ph one ((zs.map hwd).zip (cs.map (cntQ cs.sum))) := by rw [ph_one_zip _ _ hl]; grind
  have T2 : Ph one ((zs.map hwd).zip (cs.map (cntQ cs.sum))) ≤ 1 + p2 (-12) := by rw [ph_one_zip _ _ hl]; grind
  obtain ⟨hok, hch, key⟩ := gat_good hl (by omega) (by omega) hf g1 T1 T2
  have hcnt : cntOk (zs.map hwd) cs = true := by
    rw [cntOk_t ⟨by omega, by omega⟩ (by omega) ?_ (by omega), hC]
    · exact hok
    · unfold countB
      rw [List.all_eq_true]
      intro c hc
      have := hD.c c hc
      unfold inB
      simp; omega
  unfold drV at h0
  unfold drC at h1
  rw [hcnt, if_pos rfl, hC] at h0 h1
  have hG := gsh_of hl (by omega) (by omega) hf g1 T1 T2 h0 h1
  obtain ⟨a, b⟩ := key one 1 (fun x _ => ⟨by show (-1 : Rat) ≤ 1; decide, by show (1 : Rat) ≤ 1; decide⟩)
  rw [ph_one_zip _ _ hl] at a b
  have hmem : ∀ p ∈ gatS (zs.map hwd) (cs.map (cntQ cs.sum)), p.1 ∈ zs.map hwd := fun p hp => by
    obtain ⟨i, hi, e⟩ := gAt_mem (l := List.range (zs.map hwd).length) hp
    rw [List.mem_range] at hi
    obtain ⟨x, hx⟩ := get_of_lt hi
    rw [hx] at e
    rw [← e]
    exact List.mem_of_getElem? hx
  have hlG := gAt_len (xs := zs.map hwd) (C := cs.map (cntQ cs.sum)) (List.range (zs.map hwd).length)
  rw [List.length_range, hlx] at hlG
  have hlG' : (gatS (zs.map hwd) (cs.map (cntQ cs.sum))).length ≤ zs.length := by unfold gatS; rw [hlx]; exact hlG
  refine ⟨_, hG, Nat.le_trans hlG' hle, ?_, fun p hp => ?_, by grind, by grind, chance_lt hch h1⟩
  · have := hG.ok
    unfold shareB at this
    simp only [Bool.and_eq_true, decide_eq_true_eq] at this
    rw [← hG.l0]; exact this.1.1.1.1.1
  · obtain ⟨z, hz, e⟩ := List.mem_map.1 (hmem p hp)
    have hz' := hD.z z hz
    exact ⟨z, hz'.1, hz'.2, e.symm, by rw [← e]; exact (hwd_vl hz'.1 hz'.2).2⟩
end
end Go.Proofs.YtjajlddnhmbekaaGreat
