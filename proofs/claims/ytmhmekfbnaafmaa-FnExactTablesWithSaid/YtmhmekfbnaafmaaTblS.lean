/-
  Tables with sums told: the walks of spec.l06Key, l06Unkey, l06Split.
-/
import Derived.Test.YtmhmekfbnaafmaaTblP
import Derived.Test.YtmhmekfbnaafmaaRowI
import Derived.Test.YtmhmekfbnaafmaaWithin
import Derived.Test.YtmhmekfbnaafmaaInts
namespace Go.Proofs.Ytmhmekfbnaafmaa
open Go.RowKit

def iL (ns : List Nat) : List Int := ns.map fun n : Nat => (n : Int)
theorem iL_len (ns : List Nat) : (iL ns).length = ns.length := by simp [iL]
theorem iL_get {ns : List Nat} {k x : Nat} (h : ns[k]? = some x) : (iL ns)[k]? = some (x : Int) := by simp [iL, h]
theorem iL_snoc (ns : List Nat) (x : Nat) : iL (ns ++ [x]) = iL ns ++ [(x : Int)] := by simp [iL]
theorem iL_at (pre : List Nat) (l : Nat) (ls : List Nat) : (iL (pre ++ l :: ls))[pre.length]? = some (l : Int) := iL_get (by simp)
theorem iL_set (pre : List Nat) (l m : Nat) (ls : List Nat) : (iL (pre ++ l :: ls)).set pre.length (m : Int) = iL (pre ++ m :: ls) := by
  unfold iL
  rw [List.map_append, List.set_append_right _ _ (by simp)]
  simp
theorem code_small {ns : List Nat} (hl : ns.length ≤ 4) (hx : ∀ x ∈ ns, x < 25) : code ns < 390625 := by
  have h1 := code_lt rfl hx
  have h2 : 25 ^ ns.length ≤ 25 ^ 4 := Nat.pow_le_pow_right (by omega) hl
  omega
theorem code_take {ns : List Nat} {k x : Nat} (h : ns[k]? = some x) : code (ns.take (k + 1)) = code (ns.take k) * 25 + x := by rw [take_snoc h, code_snoc]

theorem l06Key_any (v : Value) (ns : List Nat) (hl : ns.length ≤ 4) (hx : ∀ x ∈ ns, x < 25) (w : World) (hr : Rd iV w v (iL ns)) :
    Calls Try.prog 51 #[v] w fun e w' => e = .returned (.int .i64 ((code ns : Nat) : Int)) ∧ w = w' := by
  obtain ⟨A, cap, rfl, hcap, hA⟩ := hr
  rw [iL_len] at hcap ⊢
  have HA := Lib.hid hA
  have HX := Lib.hid hx
  clear hA hx
  go_enter Try.func51, Try.ntmps51
  go_wp2
  go_loop [3, 4] (fun sk sj => ∃ k : Nat, k ≤ ns.length ∧ sj = .int .i64 k ∧ sk = .int .i64 ((code (ns.take k) : Nat) : Int)) (fun _ sj => ns.length - (intOf sj).toNat)
  case atStart => exact ⟨0, Nat.zero_le _, rfl, rfl⟩
  case round =>
    obtain ⟨k, hk, rfl, rfl⟩ := hrel
    have hcb := code_small (ns := ns.take k) (by simp; omega) (fun x h => HX.out x (List.mem_of_mem_take h))
    obtain ⟨c, hc⟩ : ∃ c, c = code (ns.take k) := ⟨_, rfl⟩
    rw [← hc] at hcb ⊢
    by_cases hlt : k < ns.length
    · obtain ⟨x, hx⟩ := get_of_lt hlt
      obtain ⟨ad, rfl, hbl, hce⟩ := HA.out k x (iL_get hx)
      have hx25 := HX.out x (List.mem_of_getElem? hx)
      have he : code (ns.take (k + 1)) = c * 25 + x := by rw [code_take hx, ← hc]
      have HE := Lib.hid he
      clear hx he hc
      have w1 : IntKind.i64.wrap ((c : Int) * 25) = ((c * 25 : Nat) : Int) := by rw [IntWalk.i64_in _ (by omega)]; omega
      have w2 : IntKind.i64.wrap (((c * 25 : Nat) : Int) + (x : Int)) = ((c * 25 + x : Nat) : Int) := by rw [IntWalk.i64_in _ (by omega)]; omega
      go_wp2
      go_round
      case rel => exact ⟨k + 1, by omega, by go_num, by rw [HE.out]; push_cast; rfl⟩
      case measure => simp [intOf]; omega
    · have hke : k = ns.length := by omega
      have he : code ns = c := by rw [hc, hke, List.take_length]
      have HE := Lib.hid he
      clear hke hc he
      go_wp2
      go_ret
      exact ⟨by rw [HE.out]; rfl, rfl⟩

set_option maxRecDepth 100000 in
set_option maxHeartbeats 800000 in
theorem l06Unkey_any (n C : Nat) (hC : C ≤ 4) (hn : n < 25 ^ C) (w : World) :
    Calls Try.prog 53 #[.int .i64 n, .int .i64 C] w fun e w' => e = .returned (.slice (some ⟨w.heap.size, 0, none⟩) C C) ∧ RowI w' w.heap.size C C (iL (digs C n)) ∧ Below w.heap.size w w' := by
  have hn4 : n < 390625 := by
    have h2 : 25 ^ C ≤ 25 ^ 4 := Nat.pow_le_pow_right (by omega) hC
    omega
  clear hn
  have hw0 : IntKind.i64.wrap ((C : Int) - 1) = (C : Int) - 1 := IntWalk.i64_in _ (by omega)
  go_enter Try.func53, Try.ntmps53
  go_wp2_with (at_make; go_loud (refine elI_.make _ rfl _ _ rfl .i64 .i64 _ _ C rfl rfl rfl rfl (by omega) (by omega) ?_))
  intro w1 ho1 hb1 hz1
  obtain ⟨g, hg⟩ : ∃ g, g = w.heap.size := ⟨_, rfl⟩
  have hR0 : RowI w1 g C C (List.replicate C 0) := by
    rw [hg]
    exact row_of_own (xs := List.replicate C 0) (by unfold Own; rw [List.length_replicate, List.map_replicate]; exact ho1)
  rw [← hg] at hb1 ⊢
  have HG := Lib.hid hg
  clear ho1 hz1 hg
  go_wp2
  go_loopw [0, 6] (fun sn sj wr => ∃ (j key : Nat) (T : List Nat), j ≤ C ∧ key < 390625 ∧ sn = .int .i64 key ∧ sj = .int .i64 ((j : Int) - 1) ∧ Hid (digs C n = digs j key ++ T) ∧ RowI wr g C C (List.replicate j 0 ++ iL T) ∧ Below g w wr)
    (fun _ sj _ => (intOf sj + 1).toNat)
  case atStart => exact ⟨C, n, [], Nat.le_refl _, hn4, rfl, rfl, Lib.hid (by simp), (by simpa [iL] using hR0), hb1⟩
  case round =>
    obtain ⟨j, key, T, hj, hk4, rfl, rfl, hd, hR, hB⟩ := hrel
    clear hR0 hb1 hn4
    cases j with
    | zero =>
      have hR2 : RowI wr g C C (iL (digs C n)) := by
        have := hd.out
        rw [this]
        simpa [digs] using hR
      have HR2 := Lib.hid hR2
      clear hR hR2
      go_wp2
      go_ret
      exact ⟨by rw [← HG.out]; rfl, by rw [← HG.out]; exact HR2.out, by rw [← HG.out]; exact hB⟩
    | succ j =>
      have hd2 : digs C n = digs j (key / 25) ++ ((key % 25) :: T) := by
        rw [hd.out, digs, List.append_assoc]
        rfl
      have hjj : (((j + 1 : Nat) : Int) - 1) = (j : Int) := by omega
      rw [hjj]
      have c1 := hR.at (i := j) (x := 0) (by rw [List.getElem?_append_left (by simp)]; simp)
      have f1 := hR.free j
      have hR2 := hR.put j ((key : Int) % 25)
      have e : (List.replicate (j + 1) (0 : Int) ++ iL T).set j ((key : Int) % 25) = List.replicate j 0 ++ iL ((key % 25) :: T) := by
        rw [show (key : Int) % 25 = ((key % 25 : Nat) : Int) by omega, List.replicate_succ', List.append_assoc, List.set_append_right _ _ (by simp), List.length_replicate, Nat.sub_self]
        rfl
      rw [e] at hR2
      have HR2 := Lib.hid hR2
      have HD2 := Lib.hid hd2
      clear hR hR2 hd e hd2 hjj
      go_wp2
      go_roundw
      case rel => exact ⟨j, key / 25, _, by omega, by omega, by go_num, by go_num, HD2, HR2.out, below_set _ hB (Nat.le_refl _)⟩
      case measure => simp [intOf]
end Go.Proofs.Ytmhmekfbnaafmaa
