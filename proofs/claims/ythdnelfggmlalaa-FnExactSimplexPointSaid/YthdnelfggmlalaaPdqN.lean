/-
  slices.pdqsortOrdered at float32, for finite numbers: the row ends in order.
  slices.Sort, slices.Compact, slices.Index at float32, for finite numbers.
-/
import Derived.Test.YthdnelfggmlalaaPdqB
import Derived.Test.YthdnelfggmlalaaPdqG
import Derived.Test.YthdnelfggmlalaaPdqM
import Derived.Deep.LoopGhost
import Derived.Deep.CutRange
import Derived.Lib.SliceRun
namespace Go.Proofs.Ythdnelfggmlalaa
section
open Go.RowKit
attribute [local go_sem] run_store_float

/-- Where a round of the sort stands. -/
structure St (g n c a b a' b' : Nat) (xs ys : List Nat) (w wr : World) : Prop where
  pr : PR a b xs ys
  out : Out ltW a b a' b' ys
  pred : Pred ltW a' b' ys
  row : RowF wr g n c ys
  tch : Touch g (g + 1) w wr
section
variable {g n c a b a' b' m p : Nat} {xs ys zs : List Nat} {w wr w2 : World} {e : Ending}
theorem St.start (h : Pred ltW a b xs) (r : RowF w g n c xs) : St g n c a b a b xs xs w w := ⟨PR.refl _ _ _, Out.start _ _ _ _, h, r, touch_refl _ _ _⟩
theorem St.fins (h : St g n c a b a' b' xs ys w wr) (hF : Fins xs) : Fins ys := hF.perm h.pr.perm
theorem St.moved (h : St g n c a b a' b' xs ys w wr) (ha : a ≤ a') (hb : b' ≤ b) (hp : PR a' b' ys zs) (hr : RowF w2 g n c zs) (t : Touch g (g + 1) wr w2) : St g n c a b a' b' xs zs w w2 :=
  ⟨h.pr.trans (hp.mono ha hb), h.out.moved hp ha hb, h.pred.moved hp, hr, h.tch.trans t⟩
theorem St.below (h : St g n c a b a' b' xs ys w wr) (hb : Below wr.heap.size wr w2) : St g n c a b a' b' xs ys w w2 :=
  ⟨h.pr, h.out, h.pred, h.row.below hb h.row.lt, h.tch.trans (Touch.of_below hb)⟩
theorem St.drewN (h : St g n c a b a' b' xs ys w wr) (k : Nat) : St g n c a b a' b' xs ys w (wr.drewN k) := ⟨h.pr, h.out, h.pred, h.row.drewN k, touch_drewN h.tch k⟩
theorem St.sorted (h : St g n c a b a' b' xs ys w wr) (ha : a ≤ a') (hb : b' ≤ b) (k : SortE g n c a' b' ys wr e w2) : SortE g n c a b xs w e w2 := by
  obtain ⟨he, zs, r, p, s, t⟩ := k
  have h2 := h.moved ha hb p r t
  exact ⟨he, zs, h2.row, h2.pr, h2.out.close s, h2.tch⟩
theorem St.over (h : St g n c a b a' b' xs ys w wr) (s : SR ltW a' b' ys) : SortE g n c a b xs w (.returned (.tuple #[])) wr := ⟨rfl, ys, h.row, h.pr, h.out.close s, h.tch⟩
theorem Part.movedL (k : Part ltW a b m ys p) (_hm : m ≤ b) (h : PR a m ys zs) : Part ltW a b m zs p :=
  ⟨(h.out m (.inr (Nat.le_refl _))).trans k.at_, h.all k.lo, fun i x h1 h2 hx => k.hi i x h1 h2 ((h.out i (.inr (by omega))).symm.trans hx)⟩
theorem Part.movedR (k : Part ltW a b m ys p) (h : PR (m + 1) b ys zs) : Part ltW a b m zs p :=
  ⟨(h.out m (.inl (by omega))).trans k.at_, fun i x h1 h2 hx => k.lo i x h1 h2 ((h.out i (.inl (by omega))).symm.trans hx), fun i x h1 h2 hx => h.all (p := fun x => ltW x p = false) (fun j y h3 h4 hy => k.hi j y (by omega) h4 hy) i x (by omega) h2 hx⟩
theorem St.left (h : St g n c a b a' b' xs ys w wr) (ha : a ≤ a') (hb : b' ≤ b) (_h1 : a' ≤ m) (h2 : m < b') (k : Part ltW a' b' m ys p) (t : SortE g n c a' m ys wr e w2) : e = .returned (.tuple #[]) ∧ ∃ zs, St g n c a b (m + 1) b' xs zs w w2 := by
  obtain ⟨he, zs, r, hp, s, t⟩ := t
  have hm := h.moved ha hb (hp.mono (Nat.le_refl _) (by omega)) r t
  have k' := k.movedL (by omega) hp
  exact ⟨he, zs, hm.pr, hm.out.left ltW_less k' s, Pred.next k', hm.row, hm.tch⟩
theorem St.right (h : St g n c a b a' b' xs ys w wr) (ha : a ≤ a') (hb : b' ≤ b) (h1 : a' ≤ m) (h2 : m < b') (k : Part ltW a' b' m ys p) (t : SortE g n c (m + 1) b' ys wr e w2) : e = .returned (.tuple #[]) ∧ ∃ zs, St g n c a b a' m xs zs w w2 := by
  obtain ⟨he, zs, r, hp, s, t⟩ := t
  have hm := h.moved ha hb (hp.mono (by omega) (Nat.le_refl _)) r t
  have k' := k.movedR hp
  exact ⟨he, zs, hm.pr, hm.out.right ltW_less k' s, hm.pred.sub (by omega), hm.row, hm.tch⟩
theorem St.equal {u pv : Nat} (h : St g n c a b a' b' xs ys w wr) (ha : a ≤ a') (hb : b' ≤ b) (h0 : 0 < a') (hu : ys[a' - 1]? = some u) (hl : ltW u pv = false)
    (h1 : a' < m) (h2 : m ≤ b') (r : RowF w2 g n c zs) (hp : PR a' b' ys zs) (lo : ∀ k x, a' ≤ k → k < m → zs[k]? = some x → ltW pv x = false) (hi : ∀ k x, m ≤ k → k < b' → zs[k]? = some x → ltW pv x = true) (t : Touch g (g + 1) wr w2) : St g n c a b m b' xs zs w w2 := by
  have hm := h.moved ha hb hp r t
  have hu' : zs[a' - 1]? = some u := (hp.out _ (.inl (by omega))).trans hu
  refine ⟨hm.pr, hm.out.equal ltW_less (p := pv) (fun i x h3 h4 hx => ltW_less.tr _ _ _ (hm.pred u h0 hu' i x h3 h4 hx) hl) lo h2, ?_, hm.row, hm.tch⟩
  intro q _ hq i x h3 h4 hx
  exact ltW_less.tr _ _ _ (ltW_less.asym _ _ (hi i x h3 h4 hx)) (lo (m - 1) q (by omega) (by omega) hq)
end

set_option maxHeartbeats 6400000 in
set_option maxRecDepth 1000000 in
theorem pdq_any (g n c : Nat) (hn : n ≤ 200) : ∀ (N a b lim : Nat) (xs : List Nat) (w : World), b - a < N → a ≤ b → b ≤ n → lim ≤ 1000 → Fins xs → Pred ltW a b xs → RowF w g n c xs →
    Calls Try.prog 79 #[.slice (some ⟨g, 0, none⟩) n c, .int .i64 a, .int .i64 b, .int .i64 lim] w (SortE g n c a b xs w) := by
  intro N
  induction N with
  | zero => intro _ _ _ _ _ h; exact absurd h (Nat.not_lt_zero _)
  | succ N ih =>
    intro a b lim0 xs w hN hab hb hlim0 hF hPr hr
    have HL := Lib.hid hr.len
    have HF := Lib.hid hF
    have HS0 : Hid (St g n c a b a b xs xs w w) := St.start hPr hr
    have IH := Lib.hid ih
    clear hF hr hPr ih
    go_enter Try.func79, Try.ntmps79
    go_wp2
    go_loopg [1, 2, 3, 8, 9] (b - a) (fun k s1 s2 s3 s8 s9 wr => ∃ (a' b' lim : Nat) (wb wp : Bool) (ys : List Nat), s1 = .int .i64 a' ∧ s2 = .int .i64 b' ∧ s3 = .int .i64 lim ∧ s8 = .bool wb ∧ s9 = .bool wp ∧ a ≤ a' ∧ a' ≤ b' ∧ b' ≤ b ∧ b' - a' ≤ k ∧ k ≤ b - a ∧ lim ≤ 1000 ∧ St g n c a b a' b' xs ys w wr)
    case atStart => exact ⟨a, b, lim0, true, true, xs, rfl, rfl, rfl, rfl, rfl, Nat.le_refl _, hab, Nat.le_refl _, Nat.le_refl _, Nat.le_refl _, hlim0, HS0.out⟩
    case round =>
      clear HS0
      obtain ⟨a', b', lim, wb, wp, ys, rfl, rfl, rfl, rfl, rfl, ha', hab', hb', hk, hkN, hlim, hS⟩ := hrel
      by_cases h12 : b' - a' ≤ 12
      · have h12z : (b' : Int) - (a' : Int) ≤ 12 := by omega
        have HC := Lib.hid (insertionF_any g n c a' b' ys hab' (by omega) (by omega) (hS.fins HF.out) wr hS.row)
        go_wp2_with (go_at_call 105; refine HC.out.mono ?_; intro e w1 hw1; obtain ⟨e1, e2⟩ := id hw1; subst e1; clear e2)
        (try simp only [Exit.inBlock, Exit.then])
        refine bodyPost_ret (results_none rfl _ _ _) rfl ?_
        exact hS.sorted ha' hb' hw1
      have h12z : ¬ ((b' : Int) - (a' : Int) ≤ 12) := by omega
      by_cases hl0 : lim = 0
      · subst hl0
        have HC := Lib.hid (heapF_any g n c a' b' ys (by omega) (by omega) (by omega) (hS.fins HF.out) wr hS.row)
        go_wp2_with (go_at_call 106; refine HC.out.mono ?_; intro e w1 hw1; obtain ⟨e1, e2⟩ := id hw1; subst e1; clear e2)
        (try simp only [Exit.inBlock, Exit.then])
        refine bodyPost_ret (results_none rfl _ _ _) rfl ?_
        exact hS.sorted ha' hb' hw1
      have hl0z : ¬ ((lim : Int) = 0) := by omega
      have hl0b : ((lim : Int) == 0) = false := beq_eq_false_iff_ne.2 hl0z
      go_upto_if 35 with fail
      go_cut [3] from 19 to 133 (fun s3 wx => ∃ (l : Nat) (zs : List Nat), s3 = .int .i64 l ∧ l ≤ 1000 ∧ St g n c a b a' b' xs zs w wx)
      case first =>
        cases wb
        · have HC := Lib.hid (brk_any g n c a' b' ys (by omega) (by omega) hn wr hS.row)
          go_wp2_with (go_at_call 107; refine HC.out.mono ?_; rintro e w1 ⟨rfl, zs, R1, P1, T1⟩)
          go_meet
          case rel => exact ⟨lim - 1, zs, by rw [show ((lim - 1 : Nat) : Int) = (lim : Int) - 1 by omega] <;> rfl, by omega, hS.moved ha' hb' P1 R1 T1⟩
        · go_wp2_with fail
          go_meet
          case rel => exact ⟨lim, ys, rfl, hlim, hS⟩
      clear hS hl0 hl0z hl0b
      obtain ⟨w1, hwc⟩ : ∃ W, W = wc := ⟨_, rfl⟩
      subst hwc
      obtain ⟨l, ys, rfl, hl, hS⟩ := hcut
      have HC := Lib.hid (choosePivot_any g n c a' b' ys (by omega) (by omega) (by omega) (hS.fins HF.out) w1 hS.row)
      go_upto_if 50 with (go_at_call 108; refine HC.out.mono ?_; rintro e w2 ⟨p, h, rfl, hp1, hp2, hh, hb2⟩)
      replace hS := hS.below hb2
      clear HC hb2
      go_cut [11, 12] from 19 to 133 (fun s11 s12 wx => ∃ (p h : Nat) (zs : List Nat), s11 = .int .i64 p ∧ s12 = .int .i64 h ∧ a' ≤ p ∧ p < b' ∧ h ≤ 2 ∧ St g n c a b a' b' xs zs w wx)
      case first =>
        by_cases h2 : h = 2
        · subst h2
          have HC := Lib.hid (reverseF_any g n c a' b' ys hab' (by omega) (by omega) w2 hS.row)
          go_wp2_with (go_at_call 109; refine HC.out.mono ?_; rintro e w3 ⟨rfl, zs, R1, P1, T1⟩)
          go_meet
          case rel => exact ⟨b' - 1 - (p - a'), 1, zs, by rw [show ((b' - 1 - (p - a') : Nat) : Int) = (b' : Int) - 1 - ((p : Int) - (a' : Int)) by omega] <;> rfl, rfl, by omega, by omega, by omega, hS.moved ha' hb' P1 R1 T1⟩
        · have h2z : ¬ ((h : Int) = 2) := by omega
          have h2b : ((h : Int) == 2) = false := beq_eq_false_iff_ne.2 h2z
          go_wp2_with fail
          go_meet
          case rel => exact ⟨p, h, ys, rfl, rfl, hp1, hp2, hh, hS⟩
      clear hS
      obtain ⟨w3, hwc⟩ : ∃ W, W = wc := ⟨_, rfl⟩
      subst hwc
      obtain ⟨p, h, ys, rfl, rfl, hp1, hp2, hh, hS⟩ := hcut
      go_upto_region 15 with fail
      go_cut [68] from 19 to 133 (fun s68 wx => ∃ B : Bool, s68 = .bool B ∧ wx = w3)
      case first =>
        by_cases h1 : h = 1
        · subst h1
          cases wb <;> cases wp
          all_goals
            go_wp2_with fail
            go_meet
            case rel => exact ⟨_, rfl, rfl⟩
        · have h1z : ¬ ((h : Int) = 1) := by omega
          have h1b : ((h : Int) == 1) = false := beq_eq_false_iff_ne.2 h1z
          cases wb <;> cases wp
          all_goals
            go_wp2_with fail
            go_meet
            case rel => exact ⟨_, rfl, rfl⟩
      obtain ⟨B, rfl, rfl⟩ := hcut
      go_upto_if 68 with fail
      go_cut [] from 19 to 133 (fun wx => ∃ zs : List Nat, St g n c a b a' b' xs zs w wx)
      case first =>
        cases B
        · go_wp2_with fail
          go_meet
          case rel => exact ⟨ys, hS⟩
        · have HC := Lib.hid (pis_any g n c a' b' ys (by omega) (by omega) (by omega) (hS.fins HF.out) hS.pred _ hS.row)
          go_wp2_with (go_at_call 110; refine HC.out.mono ?_; rintro e w4 ⟨t, zs, rfl, R1, P1, S1, T1⟩)
          all_goals first
            | (have ht : t = false := by assumption
               go_meet
               exact ⟨zs, hS.moved ha' hb' P1 R1 T1⟩)
            | (have ht : t = true := by assumption
               (try simp only [Exit.inBlock, Exit.then])
               refine bodyPost_ret (results_none rfl _ _ _) rfl ?_
               exact (hS.moved ha' hb' P1 R1 T1).over (S1 ht))
      clear hS
      obtain ⟨w4, hwc⟩ : ∃ W, W = wc := ⟨_, rfl⟩
      subst hwc
      obtain ⟨ys, hS⟩ := hcut
      have hyl := hS.row.len
      obtain ⟨pv, hpv⟩ := get_ex (xs := ys) (i := p) (by omega)
      have HPV := Lib.hid hpv
      have HS := Lib.hid hS
      have HYL := Lib.hid hyl
      go_upto_region 17 with fail
      go_cut [87] from 19 to 133 (fun s87 wx => ∃ B : Bool, s87 = .bool B ∧ Hid (B = true → 0 < a' ∧ ∃ u, ys[a' - 1]? = some u ∧ ltW u pv = false) ∧ ∃ k, wx = w4.drewN k)
      case first =>
        by_cases ha0 : a' = 0
        · subst ha0
          clear hS hyl hpv
          go_quiet (fail)
          go_wp2_with fail
          go_meet
          case rel => exact ⟨false, rfl, (fun e => by cases e), nq, rfl⟩
        · obtain ⟨j, rfl⟩ : ∃ j, a' = j + 1 := ⟨a' - 1, by omega⟩
          obtain ⟨u, hu⟩ := get_ex (xs := ys) (i := j) (by omega)
          have c1 : w4.cell? ⟨g, j, none⟩ = some (fV u) := hS.row.at hu
          have c2 : w4.cell? ⟨g, p, none⟩ = some (fV pv) := hS.row.at hpv
          have fz := hS.fins HF.out
          have HCL := Lib.hid (less_q (fz.at hu) (fz.at hpv) w4)
          have HU := Lib.hid hu
          have hg : decide ((j : Int) + 1 > 0) = true := decide_eq_true (by omega)
          have y1 : (j : Int) + 1 - 1 = (j : Int) := by omega
          have y2 : (0 : Int) ≤ (j : Int) := by omega
          have y3 : (j : Int) < (n : Int) := by omega
          have y4 : (0 : Int) ≤ (p : Int) := by omega
          have y5 : (p : Int) < (n : Int) := by omega
          clear hS hyl hpv hu fz
          cases hlt : ltW u pv
          · have HLT := Lib.hid hlt
            go_quiet (exact HCL.out _)
            go_wp2_with fail
            go_meet
            case rel => exact ⟨true, rfl, (fun _ => ⟨by omega, u, HU.out, HLT.out⟩), nq, rfl⟩
          · have HLT := Lib.hid hlt
            go_quiet (exact HCL.out _)
            go_wp2_with fail
            go_meet
            case rel => exact ⟨false, rfl, (fun e => by cases e), nq, rfl⟩
      clear hS hyl hpv
      obtain ⟨w5, hwc⟩ : ∃ W, W = wc := ⟨_, rfl⟩
      subst hwc
      obtain ⟨B, rfl, HB, kd, hw5⟩ := hcut
      have hS : St g n c a b a' b' xs ys w w5 := by rw [hw5]; exact HS.out.drewN kd
      clear hw5 HS
      cases B
      · have HC := Lib.hid (part_any g n c a' b' p ys hp1 hp2 (by omega) (by omega) (hS.fins HF.out) _ hS.row)
        go_upto_if 113 with (go_at_call 113; refine HC.out.mono ?_; rintro e w7 ⟨m, q, t, zs, rfl, hm1, hm2, R1, P1, K1, T1⟩)
        replace hS := hS.moved ha' hb' P1 R1 T1
        have KK := Lib.hid K1
        clear K1 T1 P1 R1 HC
        by_cases h4 : m - a' < b' - m
        · have h4z : (m : Int) - (a' : Int) < (b' : Int) - (m : Int) := by omega
          have HC := Lib.hid (IH.out a' m l zs w7 (by omega) (by omega) (by omega) hl (hS.fins HF.out) (hS.pred.sub (by omega)) hS.row)
          go_wp2_with (go_at_call 79; refine HC.out.mono ?_; intro e w8 hw8; obtain ⟨e1, e2⟩ := hS.left ha' hb' hm1 hm2 KK.out hw8; subst e1; clear hw8; obtain ⟨zs2, hS2⟩ := e2)
          go_roundg (b' - (m + 1))
          case measure => omega
          case rel => exact ⟨m + 1, b', l, _, _, zs2, by go_num, rfl, rfl, rfl, rfl, by omega, by omega, hb', Nat.le_refl _, by omega, hl, hS2⟩
        · have h4z : ¬ ((m : Int) - (a' : Int) < (b' : Int) - (m : Int)) := by omega
          have HC := Lib.hid (IH.out (m + 1) b' l zs w7 (by omega) (by omega) (by omega) hl (hS.fins HF.out) (Pred.next KK.out) hS.row)
          go_wp2_with (go_at_call 79; refine HC.out.mono ?_; intro e w8 hw8; obtain ⟨e1, e2⟩ := hS.right ha' hb' hm1 hm2 KK.out hw8; subst e1; clear hw8; obtain ⟨zs2, hS2⟩ := e2)
          go_roundg (m - a')
          case measure => omega
          case rel => exact ⟨a', m, l, _, _, zs2, rfl, rfl, rfl, rfl, rfl, ha', by omega, by omega, Nat.le_refl _, by omega, hl, hS2⟩
      · obtain ⟨h0, u, hu, hul⟩ := HB.out rfl
        have HU := Lib.hid hu
        have HUL := Lib.hid hul
        clear hu hul
        have HC := Lib.hid (partEq_any g n c a' b' p ys hp1 hp2 (by omega) (by omega) (hS.fins HF.out) _ hS.row)
        go_wp2_with (go_at_call 112; refine HC.out.mono ?_; rintro e w7 ⟨m, q, zs, rfl, hq, hm1, hm2, R1, P1, lo, hi, T1⟩)
        rw [HPV.out] at hq
        cases hq
        replace hS := hS.equal ha' hb' h0 HU.out HUL.out hm1 hm2 R1 P1 lo hi T1
        clear lo hi
        go_roundg (b' - m)
        case measure => omega
        case rel => exact ⟨m, b', l, _, _, zs, rfl, rfl, rfl, rfl, rfl, by omega, hm2, hb', Nat.le_refl _, by omega, hl, hS⟩
end

section
open Go.RowKit
attribute [local go_sem] run_store_float

set_option maxRecDepth 100000 in
theorem sortF_any (g n c : Nat) (xs : List Nat) (h1 : 1 ≤ n) (hn : n ≤ 200) (hF : Fins xs) (w : World) (hr : RowF w g n c xs) :
    Calls Try.prog 47 #[.slice (some ⟨g, 0, none⟩) n c] w (SortE g n c 0 n xs w) := by
  obtain ⟨k1, k2, -, -⟩ := bitLen_tab ⟨n, by omega⟩ h1
  simp only [] at k1 k2
  have HL := Lib.hid (len_any n (by omega))
  have HP : Hid (Pred ltW 0 n xs) := fun p h => absurd h (Nat.lt_irrefl 0)
  have HC := Lib.hid (pdq_any g n c hn (n + 1) 0 n (Lib.bitLen n) xs w (by omega) (Nat.zero_le _) (Nat.le_refl _) (by omega) hF HP.out hr)
  have hw : IntKind.u64.wrap (n : Int) = (n : Int) := by show (n : Int) % 18446744073709551616 = n; omega
  clear hr hF HP
  go_enter Try.func47, Try.ntmps47
  go_wp2_with (first | (go_at_call 80; refine (HL.out _).mono ?_; rintro e w' ⟨rfl, rfl⟩) | (go_at_call 79; refine HC.out.mono ?_; intro e w1 hw1; obtain ⟨e1, e2⟩ := id hw1; subst e1; clear e2))
  (try simp only [Exit.inBlock, Exit.then])
  refine bodyPost_ret (results_none rfl _ _ _) rfl ?_
  exact hw1

/-! ### Compact -/
def Vs (xs : List Nat) (q : Rat) : Prop := ∃ x ∈ xs, val x = q
/-- The first k numbers rise, and are the numbers of ys's first m. -/
structure Thin (ys zs : List Nat) (k m : Nat) : Prop where
  rise : ∀ i j x y, i < j → j < k → zs[i]? = some x → zs[j]? = some y → val x < val y
  last : ∀ x y, zs[k - 1]? = some x → ys[m - 1]? = some y → val x = val y
  mem : ∀ q, Vs (zs.take k) q ↔ Vs (ys.take m) q
  src : ∀ x ∈ zs.take k, x ∈ ys
theorem vs_snoc {xs : List Nat} {k x : Nat} (h : xs[k]? = some x) (q : Rat) : Vs (xs.take (k + 1)) q ↔ Vs (xs.take k) q ∨ val x = q := by
  unfold Vs
  rw [take_snoc h]
  constructor
  · rintro ⟨u, hu, e⟩
    rcases List.mem_append.1 hu with h | h
    · exact .inl ⟨u, h, e⟩
    · rw [List.mem_singleton.1 h] at e; exact .inr e
  · rintro (⟨u, hu, e⟩ | e)
    · exact ⟨u, List.mem_append.2 (.inl hu), e⟩
    · exact ⟨x, List.mem_append.2 (.inr (List.mem_singleton.2 rfl)), e⟩
theorem Thin.start {ys : List Nat} (_h : 1 ≤ ys.length) : Thin ys ys 1 1 :=
  ⟨fun i j x y h1 h2 => by omega, fun x y h1 h2 => by rw [h1] at h2; cases h2; rfl, fun q => Iff.rfl, fun x hx => List.mem_of_mem_take hx⟩
/-- One more, not equal to the one before. -/
theorem Thin.up {ys zs : List Nat} {k m x y : Nat} (h : Thin ys zs k m) (hk : 1 ≤ k) (hm : 1 ≤ m) (hs : SR ltW 0 ys.length ys) (hy : ys[m - 1]? = some y) (hx : ys[m]? = some x) (hz : zs[k]? = some x) (hne : val x ≠ val y) : Thin ys zs (k + 1) (m + 1) := by
  have hlt : val y < val x := by
    have := hs (m - 1) m y x (Nat.zero_le _) (by omega) (get_lt hx) hy hx
    unfold ltW at this
    have := of_decide_eq_false this
    grind
  have hall : ∀ i u, i < k → zs[i]? = some u → val u ≤ val y := by
    intro i u hi hu
    obtain ⟨v, hv⟩ := get_ex (xs := zs) (i := k - 1) (by have := get_lt hz; omega)
    have e := h.last v y hv hy
    by_cases e2 : i = k - 1
    · subst e2
      rw [hv] at hu
      cases hu
      rw [e]; exact Rat.le_refl
    · have := h.rise i (k - 1) u v (by omega) (by omega) hu hv
      rw [← e]
      exact Rat.le_of_lt this
  refine ⟨?_, ?_, ?_, ?_⟩
  · intro i j u v h1 h2 hu hv
    by_cases e : j = k
    · subst e
      rw [hz] at hv
      cases hv
      have := hall i u h1 hu
      grind
    · exact h.rise i j u v h1 (by omega) hu hv
  · intro u v hu hv
    rw [Nat.add_sub_cancel] at hu hv
    rw [hz] at hu
    rw [hx] at hv
    cases hu
    cases hv
    rfl
  · intro q
    rw [vs_snoc hz, vs_snoc hx, h.mem]
  · intro u hu
    rw [take_snoc hz] at hu
    rcases List.mem_append.1 hu with hu | hu
    · exact h.src u hu
    · rw [List.mem_singleton.1 hu]
      exact List.mem_of_getElem? hx
/-- One more, equal to the one before. -/
theorem Thin.same {ys zs : List Nat} {k m x y : Nat} (h : Thin ys zs k m) (hm : 1 ≤ m) (hy : ys[m - 1]? = some y) (hx : ys[m]? = some x) (he : val x = val y) : Thin ys zs k (m + 1) := by
  refine ⟨h.rise, ?_, ?_, h.src⟩
  · intro u v hu hv
    rw [Nat.add_sub_cancel, hx] at hv
    cases hv
    rw [h.last u y hu hy, he]
  · intro q
    rw [vs_snoc hx, h.mem]
    constructor
    · exact .inl
    · rintro (h | h)
      · exact h
      · refine ⟨y, ?_, he ▸ h⟩
        have := get_lt hx
        rw [List.mem_take_iff_getElem]
        refine ⟨m - 1, by omega, ?_⟩
        exact (List.getElem?_eq_some_iff.1 hy).2
/-- Stores at and behind place k do not count. -/
theorem Thin.ext {ys zs zs2 : List Nat} {k m : Nat} (h : Thin ys zs k m) (hk : 1 ≤ k) (e : ∀ i, i < k → zs2[i]? = zs[i]?) : Thin ys zs2 k m := by
  have et : zs2.take k = zs.take k := by
    apply List.ext_getElem?
    intro i
    rw [List.getElem?_take, List.getElem?_take]
    split
    · exact e i (by assumption)
    · rfl
  exact ⟨fun i j x y h1 h2 hx hy => h.rise i j x y h1 h2 ((e i (by omega)).symm.trans hx) ((e j h2).symm.trans hy), fun x y hx hy => h.last x y ((e _ (by omega)).symm.trans hx) hy, fun q => by rw [et]; exact h.mem q, by rw [et]; exact h.src⟩

theorem RowF.cap {w : World} {g n c : Nat} {xs : List Nat} (h : RowF w g n c xs) : n ≤ c := by
  rcases h.2 with ⟨e, _⟩ | ⟨g', cap, cur, e, h1, h2, h3, rest⟩
  · cases e
  · cases e; exact h3
theorem RowF.zeros {g n c : Nat} : ∀ (m o : Nat) (w : World) (zs : List Nat), RowF w g n c zs → ∃ zs2, RowF (w.setCells g o (List.replicate m (fV 0))) g n c zs2 ∧ (∀ i, i < o → zs2[i]? = zs[i]?) ∧ Touch g (g + 1) w (w.setCells g o (List.replicate m (fV 0)))
  | 0, o, w, zs, h => ⟨zs, h, fun _ _ => rfl, touch_refl _ _ _⟩
  | m + 1, o, w, zs, h => by
    obtain ⟨zs2, h1, h2, h3⟩ := RowF.zeros m (o + 1) (w.setCell ⟨g, o, none⟩ (fV 0)) (zs.set o 0) (h.put o 0)
    refine ⟨zs2, h1, fun i hi => ?_, (Touch.setCell w ⟨g, o, none⟩ (fV 0)).trans h3⟩
    rw [h2 i (by omega), List.getElem?_set_ne (by omega)]
def CompE (g n c : Nat) (ys : List Nat) (w : World) (e : Ending) (w' : World) : Prop :=
  ∃ k zs, e = .returned (.slice (some ⟨g, 0, none⟩) k c) ∧ 1 ≤ k ∧ k ≤ n ∧ RowF w' g n c zs ∧ Thin ys zs k n ∧ Touch g (g + 1) w w'
theorem eq_dec {x y : Nat} (hx : finB x = true) (hy : finB y = true) : (FloatKind.f32.format.order x y == some .eq) = decide (val x = val y) := eq_ord hx hy

/-- The first place of a number equal to x. -/
def IdxE (x : Nat) (xs : List Nat) (w : World) (e : Ending) (w' : World) : Prop :=
  ((∃ k d, e = .returned (.int .i64 (k : Nat)) ∧ xs[k]? = some d ∧ (ord32 x d == some .eq) = true ∧ ∀ (j u : Nat), j < k → xs[j]? = some u → (ord32 x u == some .eq) = false) ∨ e = .returned (.int .i64 (-1)) ∧ ∀ (j u : Nat), xs[j]? = some u → (ord32 x u == some .eq) = false) ∧ ∃ n, w.drewN n = w'
end
end Go.Proofs.Ythdnelfggmlalaa
