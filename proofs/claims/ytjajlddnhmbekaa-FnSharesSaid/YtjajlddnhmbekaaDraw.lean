/-
  A source of choices: bytes, and behind their end a simple sequence.
  A share that is drawn by bytes: the walks of l05DrawOk and B10Share.
-/
import Derived.Test.YtjajlddnhmbekaaB10A
import Derived.Test.YtjajlddnhmbekaaShare
import Derived.Test.YtjajlddnhmbekaaCount
namespace Go.Proofs.Ytjajlddnhmbekaa
section
open Go.RowKit

abbrev srcV (cv : Value) (at' : Nat) (sd : Int) : List Value := [cv, .int .i64 at', .int .u64 sd]
set_option maxHeartbeats 1600000 in
theorem l00From_any (cv : Value) (code : List (Fin 256)) (w : World) (hr : Rd yV w cv code) :
    Calls Try.prog 17 #[cv] w fun e w' => e = .returned (.pointer (some ⟨w.heap.size, 0, none⟩)) ∧ BoxAt w' w.heap.size (srcV cv 0 0) ∧ Below w.heap.size w w' ∧ w.heap.size < w'.heap.size := by
  obtain ⟨A, cap, rfl, hcap, hA⟩ := hr
  clear hA
  go_enter Try.func17, Try.ntmps17
  go_wp2
  go_ret
  exact ⟨rfl, BoxAt.new w _ _, (below_alloc _ _), by simp⟩
theorem and_byte (x : Int) : ∃ v : Nat, wrap64 (bits .and .u64 x 255) = (v : Int) ∧ v < 256 := by
  obtain ⟨n, hn⟩ : ∃ n : Nat, n = (BitVec.ofInt 64 x &&& BitVec.ofInt 64 255).toNat := ⟨_, rfl⟩
  have hle : n ≤ 255 := by
    rw [hn, BitVec.toNat_and]
    exact Nat.le_trans Nat.and_le_right (by decide)
  have e : bits .and .u64 x 255 = IntKind.u64.wrap (n : Int) := by rw [hn]; rfl
  have hw : IntKind.u64.wrap (n : Int) = (n : Int) := by
    have h1 : (n : Int) < 256 := by omega
    have h0 : (0 : Int) ≤ (n : Int) := by omega
    generalize (n : Int) = m at *
    unfold IntKind.wrap
    simp [IntKind.bits]
    omega
  refine ⟨n, ?_, by omega⟩
  rw [e, hw]
  unfold wrap64
  omega
set_option maxHeartbeats 1600000 in
theorem l00Next_any (s : Nat) (cv : Value) (code : List (Fin 256)) (k : Nat) (sd : Int) (_hn : code.length ≤ 1099511627776) (hk : k ≤ 1000000) (w : World) (hb : BoxAt w s (srcV cv k sd)) (hr : Rd yV w cv code) :
    Calls Try.prog 51 #[.pointer (some ⟨s, 0, none⟩)] w fun e w' => ∃ (x : Nat) (sd' : Int), e = .returned (.int .i64 x) ∧ x < 256 ∧ BoxAt w' s (srcV cv (k + 1) sd') ∧ Touch s (s + 1) w w' := by
  obtain ⟨A, cap, rfl, hcap, hA⟩ := hr
  have HA := Lib.hid hA
  clear hA
  have d0 := hb.cell 0 _ rfl
  have d1 := hb.cell 1 _ rfl
  have d2 := hb.cell 2 _ rfl
  have f0 := hb.free 0
  have f1 := hb.free 1
  have f2 := hb.free 2
  have hlt := hb.lt
  by_cases h1 : k < code.length
  · obtain ⟨x, hx⟩ := get_of_lt h1
    obtain ⟨ad, rfl, hbl, hc⟩ := HA.out k x hx
    have i1 : (k : Int) < (code.length : Int) := by omega
    have i0 : (0 : Int) ≤ (k : Int) := by omega
    have hx2 := x.isLt
    clear hx HA
    go_enter Try.func51, Try.ntmps51
    go_wp2_with fail
    go_quiet (fail)
    go_wp2_with fail
    go_quiet (fail)
    go_wp2_with fail
    generalize hW : World.setCell (World.setCell _ _ _) _ _ = W1
    obtain ⟨sd', hB, hT⟩ : ∃ sd', BoxAt W1 s [.slice (some ad) code.length cap, .int .i64 ((k : Int) + 1), .int .u64 sd'] ∧ Touch s (s + 1) w W1 := by
      rw [← hW]
      exact ⟨_, ((hb.below (below_drewN_ (Below.refl _ _))).set (i := 1) rfl _).set (i := 2) rfl _, ((Touch.of_below (below_drewN_ (Below.refl _ _))).trans (Touch.setCell _ ⟨s, 1, none⟩ _)).trans (Touch.setCell _ ⟨s, 2, none⟩ _)⟩
    clear hW hb d0 d1 d2 f0 f1 f2 hc
    have d0 := hB.cell 0 _ rfl
    have d1 := hB.cell 1 _ rfl
    have d2 := hB.cell 2 _ rfl
    go_quiet (fail)
    go_wp2
    go_ret
    exact ⟨x.val, sd', rfl, hx2, hB.below (below_drewN_ (Below.refl _ _)), hT.trans (Touch.of_below (below_drewN_ (Below.refl _ _)))⟩
  · have i1 : ¬ (k : Int) < (code.length : Int) := by omega
    go_enter Try.func51, Try.ntmps51
    go_wp2_with fail
    go_quiet (fail)
    go_wp2_with fail
    generalize hW : World.setCell (World.setCell _ _ _) _ _ = W1
    obtain ⟨sd', hB, hT⟩ : ∃ sd', BoxAt W1 s [.slice A code.length cap, .int .i64 ((k : Int) + 1), .int .u64 sd'] ∧ Touch s (s + 1) w W1 := by
      rw [← hW]
      exact ⟨_, ((hb.below (below_drewN_ (Below.refl _ _))).set (i := 1) rfl _).set (i := 2) rfl _, ((Touch.of_below (below_drewN_ (Below.refl _ _))).trans (Touch.setCell _ ⟨s, 1, none⟩ _)).trans (Touch.setCell _ ⟨s, 2, none⟩ _)⟩
    clear hW hb d0 d1 d2 f0 f1 f2
    have d0 := hB.cell 0 _ rfl
    have d1 := hB.cell 1 _ rfl
    have d2 := hB.cell 2 _ rfl
    go_quiet (fail)
    go_wp2
    go_ret
    obtain ⟨v, hv, hv2⟩ := and_byte (sd' / 1099511627776)
    refine ⟨v, sd', ?_, hv2, hB.below (below_drewN_ (Below.refl _ _)), hT.trans (Touch.of_below (below_drewN_ (Below.refl _ _)))⟩
    show Ending.returned (.int .i64 (wrap64 (bits .and .u64 (sd' / 1099511627776) 255))) = _
    rw [hv]
set_option maxHeartbeats 1600000 in
theorem l00Pick_any (s : Nat) (cv : Value) (code : List (Fin 256)) (k : Nat) (sd : Int) (n : Nat) (hn2 : 2 ≤ n) (hn3 : n ≤ 200) (hn : code.length ≤ 1099511627776) (hk : k ≤ 1000000) (w : World) (hb : BoxAt w s (srcV cv k sd)) (hr : Rd yV w cv code) :
    Calls Try.prog 32 #[.pointer (some ⟨s, 0, none⟩), .int .i64 n] w fun e w' => ∃ (x : Nat) (sd' : Int), e = .returned (.int .i64 x) ∧ x < n ∧ BoxAt w' s (srcV cv (k + 1) sd') ∧ Touch s (s + 1) w w' := by
  have n1 : ¬ (n : Int) ≤ 1 := by omega
  have n0 : ¬ (n : Int) = 0 := by omega
  have n2 : ((n : Int) == 0) = false := beq_eq_false_iff_ne.2 n0
  have n3 : ¬ (n : Int) > 200 := by omega
  have HN := Lib.hid (l00Next_any s cv code k sd hn hk w hb hr)
  clear hb hr
  go_enter Try.func32, Try.ntmps32
  go_wp2_with fail
  refine HN.out.mono ?_
  rintro e w1 ⟨x, sd', rfl, hx, hB, hT⟩
  have hx0 : (0 : Int) ≤ (x : Int) := by omega
  go_wp2
  go_ret
  refine ⟨x % n, sd', ret_int ?_, Nat.mod_lt _ (by omega), hB, hT⟩
  exact (Int.natCast_emod _ _).symm
end

section
open Go.RowKit

/-- The word of half a number. -/
def hwd (z : Int) : Nat := (floatBits .quo .f32 (floatOfInt .f32 z) 1073741824).getD 0
theorem hwd_tab : ∀ m : Nat, m < 17 → floatBits .quo .f32 (floatOfInt .f32 ((m : Int) - 8)) 1073741824 = some (hwd ((m : Int) - 8)) := by decide +kernel
theorem hwd_eq {x : Nat} (h : x < 17) : floatBits .quo .f32 (floatOfInt .f32 ((x : Int) - 8)) 1073741824 = some (hwd ((x : Int) - 8)) := hwd_tab x h
/-- What is drawn: up to six halves of numbers from -8 to 8, with counts from 1 to 8. -/
structure Drawn (zs cs : List Int) : Prop where
  ne : 1 ≤ zs.length
  le : zs.length ≤ 6
  len : cs.length = zs.length
  z : ∀ z ∈ zs, -8 ≤ z ∧ z ≤ 8
  c : ∀ c ∈ cs, 1 ≤ c ∧ c ≤ 8
def drV (zs cs : List Int) : List (Option Nat) := if cntOk (zs.map hwd) cs then absL ((gatS (zs.map hwd) (cntTo cs cs.sum cs.length)).map Prod.fst) else []
def drC (zs cs : List Int) : List (Option Nat) := if cntOk (zs.map hwd) cs then (gatS (zs.map hwd) (cntTo cs cs.sum cs.length)).map Prod.snd else []
def RetDraw (s : Nat) (w : World) (e : Ending) (w' : World) : Prop :=
  ∃ zs cs v0 y0 v1 y1, e = .returned (shV v0 v1) ∧ Drawn zs cs ∧ Own fV 28 w' w.heap.size v0 y0 ∧ Own fV 28 w' w.heap.size v1 y1 ∧ absL y0 = drV zs cs ∧ absL y1 = drC zs cs ∧ Touch s (s + 1) w w'
theorem own_touch {α : Type} {f : α → Value} {E : TypeId} {w w' : World} {base lo hi : Nat} {v : Value} {xs : List α} (h : Own f E w base v xs) (t : Touch lo hi w w') (hd : hi ≤ base) : Own f E w' base v xs := (h.ranged.touch t (.inr hd)).own
section
variable {α β : Type} {f : α → Value} {f' : β → Value} {E E' : TypeId} {w w' : World} {base : Nat} {v v' u : Value} {xs : List α} {ys : List β}
theorem two_app (o1 : Own f' E' w base u ys) (ap : v.ownBlock = none ∨ v.ownBlock ≠ u.ownBlock) (hg : w.grownBy w' v.ownBlock) (hp : v'.ownBlock = v.ownBlock ∨ v'.ownBlock = some w.heap.size) :
    Own f' E' w' base u ys ∧ (v'.ownBlock = none ∨ v'.ownBlock ≠ u.ownBlock) := by
  refine ⟨o1.kept hg (apart_symm ap), ?_⟩
  rcases hp with e | e <;> rw [e]
  · exact ap
  · cases hub : u.ownBlock with
    | none => exact .inr (fun e => by cases e)
    | some b =>
      refine .inr fun e2 => ?_
      have := (o1.lt b hub).2
      injection e2
      omega
end
theorem touch_below {lo hi B : Nat} {w w1 w2 : World} (h : Touch lo hi w w1) (k : Below B w1 w2) (hB : w.heap.size ≤ B) : Touch lo hi w w2 :=
  ⟨k.os.trans h.os, k.tape.trans h.tape, k.output.trans h.output, Nat.le_trans h.size k.size, fun i hi' hr => (k.block i (by omega)).trans (h.block i hi' hr)⟩
set_option maxRecDepth 10000 in
set_option maxHeartbeats 3200000 in
theorem l05DrawOk_any (s : Nat) (cv : Value) (code : List (Fin 256)) (hn : code.length ≤ 1099511627776) (w : World) (hb : BoxAt w s (srcV cv 0 0)) (hr : ∀ W, Below s w W → Rd yV W cv code) :
    Calls Try.prog 18 #[.pointer (some ⟨s, 0, none⟩)] w (RetDraw s w) := by
  have HR := Lib.hid hr
  have hlt := hb.lt
  clear hr
  go_enter Try.func18, Try.ntmps18
  go_wp2_with fail
  have O1 : Hid (Own fV 28 (((w.alloc (.cells #[.slice none 0 0, .slice none 0 0] 26)).alloc (.cells #[] 28)).alloc (.cells #[] 2)) (w.heap.size + 1) (.slice (some ⟨w.heap.size + 1, 0, none⟩) 0 0) []) := by
    have := Own.alloc (own_nil_new fV (w.alloc (.cells #[.slice none 0 0, .slice none 0 0] 26)) 28) (.cells #[] 2)
    rwa [size_alloc] at this
  have O2 : Hid (Own iV 2 (((w.alloc (.cells #[.slice none 0 0, .slice none 0 0] 26)).alloc (.cells #[] 28)).alloc (.cells #[] 2)) (w.heap.size + 1) (.slice (some ⟨w.heap.size + 1 + 1, 0, none⟩) 0 0) []) := by
    have := own_nil_new iV ((w.alloc (.cells #[.slice none 0 0, .slice none 0 0] 26)).alloc (.cells #[] 28)) 2
    rw [size_alloc, size_alloc] at this
    exact this.base_ (by omega)
  have BR : BoxAt (((w.alloc (.cells #[.slice none 0 0, .slice none 0 0] 26)).alloc (.cells #[] 28)).alloc (.cells #[] 2)) w.heap.size [.slice none 0 0, .slice none 0 0] := ((BoxAt.new w _ _).alloc _).alloc _
  have hb3 : Below w.heap.size w (((w.alloc (.cells #[.slice none 0 0, .slice none 0 0] 26)).alloc (.cells #[] 28)).alloc (.cells #[] 2)) := (((Below.refl _ _).alloc (Nat.le_refl _) _).alloc (by simp) _).alloc (by first | (simp; done) | (simp; omega)) _
  have hz3 : w.heap.size + 1 ≤ (((w.alloc (.cells #[.slice none 0 0, .slice none 0 0] 26)).alloc (.cells #[] 28)).alloc (.cells #[] 2)).heap.size := by first | (simp; done) | (simp; omega)
  generalize ((w.alloc (.cells #[.slice none 0 0, .slice none 0 0] 26)).alloc (.cells #[] 28)).alloc (.cells #[] 2) = w3 at *
  refine (l00Pick_any s cv code 0 0 6 (by omega) (by omega) hn (by omega) w3 (hb.below hb3) (HR.out _ (hb3.mono (by omega)))).mono ?_
  rintro e w4 ⟨x, sd, rfl, hx, HB4, hT4⟩
  have BR4 := BR.touch hT4 (.inr (by omega))
  have O14 := Lib.hid (own_touch O1.out hT4 (by omega))
  have O24 := Lib.hid (own_touch O2.out hT4 (by omega))
  have hz4 := hT4.size
  have HT4 : Touch s (s + 1) w w4 := (Touch.of_below hb3).trans hT4
  clear hb3 BR O1 O2 hb hT4
  go_wp2
  go_loopw [3, 4, 5] (fun sv sc sn wq => ∃ (n : Nat) (zs cs : List Int) (sd : Int), sn = .int .i64 n ∧ zs.length + n = x + 1 ∧ cs.length = zs.length ∧ Hid (∀ z ∈ zs, -8 ≤ z ∧ z ≤ 8) ∧ Hid (∀ c ∈ cs, 1 ≤ c ∧ c ≤ 8) ∧ Hid (Own fV 28 wq (w.heap.size + 1) sv (zs.map hwd)) ∧ Hid (Own iV 2 wq (w.heap.size + 1) sc cs) ∧ Hid (sv.ownBlock = none ∨ sv.ownBlock ≠ sc.ownBlock) ∧
    BoxAt wq s (srcV cv (1 + 2 * zs.length) sd) ∧ BoxAt wq w.heap.size [.slice none 0 0, .slice none 0 0] ∧ Touch s (s + 1) w wq ∧ w.heap.size + 1 ≤ wq.heap.size) (fun _ _ sn _ => (intOf sn).toNat)
  case atStart => exact ⟨x + 1, [], [], sd, by congr 1; omega, by simp, rfl, (fun z hz => by cases hz), (fun z hz => by cases hz), O14.out, O24.out, .inr (fun e => by injection e with e; dsimp only at e; omega), HB4, BR4, HT4, by omega⟩
  case round =>
    clear O14 O24 HB4 BR4 HT4 hz4 hz3
    obtain ⟨n, zs, cs, sd, rfl, hzn, hcl, hz, hc, O1, O2, hap, HB, BR, HT, hsz⟩ := hrel
    by_cases h0 : 0 < n
    · go_wp2_with fail
      refine (l00Pick_any s cv code (1 + 2 * zs.length) sd 17 (by omega) (by omega) hn (by omega) wr HB (HR.out _ (HT.below (Nat.le_refl _) (by omega)))).mono ?_
      rintro e w5 ⟨y, sd5, rfl, hy, HB5, hT5⟩
      have hf := fun W => run_float_arith (P := Try.prog) W .quo 28 .f32 _ _ _ (hwd_eq hy)
      have BR5 := BR.touch hT5 (.inr (by omega))
      have O15 := Lib.hid (own_touch O1.out hT5 (by omega))
      have O25 := Lib.hid (own_touch O2.out hT5 (by omega))
      have HT5 := HT.trans hT5
      have hsz5 := Nat.le_trans hsz hT5.size
      clear O1 O2 HB BR HT hT5
      go_wp2_with (at_builtin; go_loud (refine elF_.app (fun _ => rfl) _ rfl _ _ rfl (w.heap.size + 1) _ (zs.map hwd) rfl (Own.alloc O15.out _) _ _ rfl (rd_one fV _ _ _) (by omega) (by simp; omega) (by simp; omega) ?_))
      intro v' w6 ho hg hbb hp
      rw [← size_alloc w5 (.cells #[fV (hwd ((y : Int) - 8))] 28)] at hp
      have hwA := below_alloc w5 (.cells #[fV (hwd ((y : Int) - 8))] 28)
      obtain ⟨o2, ap2⟩ := two_app (Own.alloc O25.out (.cells #[fV (hwd ((y : Int) - 8))] 28)) hap.out hg hp
      have hnb : ∀ b : Nat, b ≤ w.heap.size → u3.ownBlock ≠ some b := fun b hb e => by have := (O15.out.lt b e).1; omega
      have HB6 := (HB5.below hwA).kept hg (hnb s (by omega))
      have BR6 := (BR5.below hwA).kept hg (hnb _ (Nat.le_refl _))
      have HT6 := touch_below (touch_below HT5 hwA (by omega)) hbb (by omega)
      have hsz6 : w.heap.size + 1 ≤ w6.heap.size := by have := hg.size; simp at this; omega
      have HV : Hid (Own fV 28 w6 (w.heap.size + 1) v' ((zs ++ [(y : Int) - 8]).map hwd)) := Lib.hid (by simpa using ho)
      have HC := Lib.hid o2
      have HAP := Lib.hid ap2
      clear ho hg hbb hp hwA o2 ap2 hnb HB5 BR5 HT5 O15 O25 hf hap
      go_wp2_with fail
      refine (l00Pick_any s cv code (1 + 2 * zs.length + 1) sd5 8 (by omega) (by omega) hn (by omega) w6 HB6 (HR.out _ (HT6.below (Nat.le_refl _) (by omega)))).mono ?_
      rintro e w7 ⟨c, sd7, rfl, hcb, HB7, hT7⟩
      have BR7 := BR6.touch hT7 (.inr (by omega))
      have OV7 := Lib.hid (own_touch HV.out hT7 (by omega))
      have OC7 := Lib.hid (own_touch HC.out hT7 (by omega))
      have HT7 := HT6.trans hT7
      have hsz7 := Nat.le_trans hsz6 hT7.size
      clear HV HC HB6 BR6 HT6 hT7
      go_wp2_with (at_builtin; go_loud (refine elI_.app (fun _ => rfl) _ rfl _ _ rfl (w.heap.size + 1) _ cs rfl (Own.alloc OC7.out _) _ _ rfl (rd_one iV _ _ _) (by omega) (by simp; omega) (by simp; omega) ?_))
      intro v'' w8 ho hg hbb hp
      rw [← size_alloc w7 (.cells #[iV (1 + (c : Int))] 2)] at hp
      have hwA := below_alloc w7 (.cells #[iV (1 + (c : Int))] 2)
      obtain ⟨o2, ap2⟩ := two_app (Own.alloc OV7.out (.cells #[iV (1 + (c : Int))] 2)) (apart_symm HAP.out) hg hp
      have hnb : ∀ b : Nat, b ≤ w.heap.size → u4.ownBlock ≠ some b := fun b hb e => by have := (OC7.out.lt b e).1; omega
      have HB8 := (HB7.below hwA).kept hg (hnb s (by omega))
      have BR8 := (BR7.below hwA).kept hg (hnb _ (Nat.le_refl _))
      have HT8 := touch_below (touch_below HT7 hwA (by omega)) hbb (by omega)
      have hsz8 : w.heap.size + 1 ≤ w8.heap.size := by have := hg.size; simp at this; omega
      have HV := Lib.hid o2
      have HC := Lib.hid ho
      have HAP2 := Lib.hid (apart_symm ap2)
      have hN : Hid (Value.int .i64 ((n : Int) - 1) = .int .i64 ((n - 1 : Nat) : Int)) := by unfold Hid; congr 1; omega
      clear ho hg hbb hp hwA o2 ap2 hnb HB7 BR7 HT7 OV7 OC7
      go_wp2
      go_roundw
      case rel =>
        refine ⟨n - 1, zs ++ [(y : Int) - 8], cs ++ [1 + (c : Int)], sd7, hN.out, by simp; omega, by simp [hcl], (fun z h => ?_), (fun z h => ?_), HV.out, HC.out, HAP2.out, ?_, BR8, HT8, hsz8⟩
        · rcases List.mem_append.1 h with h | h
          · exact hz.out z h
          · rw [List.mem_singleton] at h; omega
        · rcases List.mem_append.1 h with h | h
          · exact hc.out z h
          · rw [List.mem_singleton] at h; omega
        · rw [List.length_append, List.length_cons, List.length_nil, show 1 + 2 * (zs.length + (0 + 1)) = 1 + 2 * zs.length + 1 + 1 by omega]; exact HB8
      case measure => simp [intOf]; omega
    · have hn0 : n = 0 := by omega
      have HD : Hid (Drawn zs cs) := ⟨by omega, by omega, hcl, hz.out, hc.out⟩
      clear hz hc
      go_wp2_with fail
      refine (specCountShare_any _ (zs.map hwd) (by simp; omega) _ cs (by omega) wr O1.out.rd O2.out.rd).mono ?_
      rintro e w5 ⟨v0, y0, v1, y1, rfl, o0, o1, -, l0, l1, a0, a1, hb5⟩
      obtain ⟨E0, c0', rfl, q1, q2⟩ := o0.rd
      obtain ⟨E1, c1', rfl, q3, q4⟩ := o1.rd
      have BR5 := BR.below hb5
      have HT5 := touch_below HT hb5 (by omega)
      have hsz5 := Nat.le_trans hsz hb5.size
      have HO0 := Lib.hid (And.intro o0 (And.intro o1 (And.intro a0 a1)))
      have hbz := BR.lt
      clear q1 q2 q3 q4 o0 o1 a0 a1 O1 O2 HB BR HT hap hb5
      go_upto_region 9 with fail
      have BR9 := BR5.alloc (.cells #[.slice E0 y0.length c0', .slice E1 y1.length c1'] 26)
      have BN9 : BoxAt (w5.alloc (.cells #[.slice E0 y0.length c0', .slice E1 y1.length c1'] 26)) w5.heap.size [.slice E0 y0.length c0', .slice E1 y1.length c1'] := BoxAt.new w5 _ _
      have HO9 : Hid (Own fV 28 (w5.alloc (.cells #[.slice E0 y0.length c0', .slice E1 y1.length c1'] 26)) wr.heap.size (.slice E0 y0.length c0') y0 ∧ Own fV 28 (w5.alloc (.cells #[.slice E0 y0.length c0', .slice E1 y1.length c1'] 26)) wr.heap.size (.slice E1 y1.length c1') y1) := ⟨Own.alloc HO0.out.1 _, Own.alloc HO0.out.2.1 _⟩
      have HA9 := Lib.hid HO0.out.2.2
      have HT9 := touch_below HT5 (below_alloc w5 (.cells #[.slice E0 y0.length c0', .slice E1 y1.length c1'] 26)) (by omega)
      clear BR5 HO0 HT5
      generalize w5.alloc (.cells #[.slice E0 y0.length c0', .slice E1 y1.length c1'] 26) = w9 at *
      have d0 := BR9.cell 0 _ rfl
      have d1 := BR9.cell 1 _ rfl
      have c0 := BN9.cell 0 _ rfl
      have c1 := BN9.cell 1 _ rfl
      have f0 := BR9.free 0
      have f1 := BR9.free 1
      have hE0 : (Value.slice E0 y0.length c0').ownBlock ≠ some w.heap.size := fun e => by have := (HO9.out.1.lt _ e).1; omega
      have hE1 : (Value.slice E1 y1.length c1').ownBlock ≠ some w.heap.size := fun e => by have := (HO9.out.2.lt _ e).1; omega
      have HE := Lib.hid (And.intro hE0 hE1)
      clear hE0 hE1
      go_wp2
      refine bodyPost_ret (v := shV (.slice E0 y0.length c0') (.slice E1 y1.length c1')) (by simp [results, Try.results18, go_sem, *]) rfl ?_
      refine ⟨zs, cs, _, y0, _, y1, rfl, HD.out, (Own.other (Own.other HO9.out.1 (p := ⟨w.heap.size, 0, none⟩) HE.out.1 _) (p := ⟨w.heap.size, 1, none⟩) HE.out.1 _).base_ (by omega), (Own.other (Own.other HO9.out.2 (p := ⟨w.heap.size, 0, none⟩) HE.out.2 _) (p := ⟨w.heap.size, 1, none⟩) HE.out.2 _).base_ (by omega), HA9.out.1, HA9.out.2, ?_⟩
      exact touch_below HT9 (((Below.refl w.heap.size w9).setCell (p := ⟨w.heap.size, 0, none⟩) (Nat.le_refl _) _).setCell (p := ⟨w.heap.size, 1, none⟩) (Nat.le_refl _) _) (Nat.le_refl _)
set_option maxHeartbeats 1600000 in
theorem b10Share_any (v : Value) (code : List (Fin 256)) (hn : code.length ≤ 1099511627776) (w : World) (hr : Rd yV w v code) :
    Calls Try.prog 5 #[v] w fun e w' => ∃ zs cs v0 y0 v1 y1, e = .returned (shV v0 v1) ∧ Drawn zs cs ∧ Rd fV w' v0 y0 ∧ Rd fV w' v1 y1 ∧ absL y0 = drV zs cs ∧ absL y1 = drC zs cs ∧ Below w.heap.size w w' := by
  have HR := Lib.hid hr
  clear hr
  go_enter Try.func5, Try.ntmps5
  go_wp2_with fail
  have BR : BoxAt (w.alloc (.cells #[.slice none 0 0, .slice none 0 0] 26)) w.heap.size [.slice none 0 0, .slice none 0 0] := BoxAt.new w _ _
  have hb1 : Below w.heap.size w (w.alloc (.cells #[.slice none 0 0, .slice none 0 0] 26)) := below_alloc _ _
  generalize w.alloc (.cells #[.slice none 0 0, .slice none 0 0] 26) = w1 at *
  refine (l00From_any v code w1 (HR.out.below hb1)).mono ?_
  rintro e w2 ⟨rfl, HB, hb2, hz2⟩
  have hlt := BR.lt
  have BR2 := BR.below hb2
  have hbT := below_to hb1 hb2 hb1.size
  clear BR hb2
  go_wp2_with fail
  refine (l05DrawOk_any w1.heap.size v code hn w2 HB (fun W hW => HR.out.below (hbT.trans (hW.mono (by omega))))).mono ?_
  rintro e w3 ⟨zs, cs, v0, y0, v1, y1, rfl, hD, h0, h1, a0, a1, hT⟩
  obtain ⟨E0, c0', rfl, -, -⟩ := h0.rd
  obtain ⟨E1, c1', rfl, -, -⟩ := h1.rd
  have BR3 := BR2.touch hT (.inl hlt)
  have hz2' := hbT.size
  have hlt2 := BR2.lt
  have hb3 : Below w.heap.size w w3 := hbT.trans (hT.below (by omega) (by omega))
  have hE0 : (Value.slice E0 y0.length c0').ownBlock ≠ some w.heap.size := fun e => by have := (h0.lt _ e).1; omega
  have hE1 : (Value.slice E1 y1.length c1').ownBlock ≠ some w.heap.size := fun e => by have := (h1.lt _ e).1; omega
  have HE := Lib.hid (And.intro hE0 (And.intro hE1 (And.intro h0 (And.intro h1 (And.intro a0 a1)))))
  have d0 := BR3.cell 0 _ rfl
  have d1 := BR3.cell 1 _ rfl
  have f0 := BR3.free 0
  have f1 := BR3.free 1
  have HB3 := Lib.hid hb3
  clear hE0 hE1 h0 h1 a0 a1 hT hb3 BR2 hbT HB hb1
  go_wp2
  refine bodyPost_ret (v := shV (.slice E0 y0.length c0') (.slice E1 y1.length c1')) (by simp [results, Try.results5, go_sem, *]) rfl ?_
  obtain ⟨e0, e1, o0, o1, a0, a1⟩ := HE.out
  exact ⟨zs, cs, _, y0, _, y1, rfl, hD, (Own.other (Own.other o0 (p := ⟨w.heap.size, 0, none⟩) e0 _) (p := ⟨w.heap.size, 1, none⟩) e0 _).rd, (Own.other (Own.other o1 (p := ⟨w.heap.size, 0, none⟩) e1 _) (p := ⟨w.heap.size, 1, none⟩) e1 _).rd, a0, a1, (HB3.out.setCell (p := ⟨w.heap.size, 0, none⟩) (Nat.le_refl _) _).setCell (p := ⟨w.heap.size, 1, none⟩) (Nat.le_refl _) _⟩
end
end Go.Proofs.Ytjajlddnhmbekaa
