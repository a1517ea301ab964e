/-
  slices.Repeat of a list of one whole number.
-/
import Derived.Test.YthdnelfggmlalaaInts
import Derived.Test.YthdnelfggmlalaaApp
import Derived.Lib.Mul64
import Derived.Laws.Bits64b
import Derived.Laws.CopyOwn
import Derived.Deep.RegionLaw
import Derived.Test.YthdnelfggmlalaaOrdT
namespace Go.Proofs.Ythdnelfggmlalaa
open Go.RowKit

theorem maskN (a : Nat) (ha : a < 18446744073709551616) : bits .and .u64 (a : Int) 4294967295 = ((a % 4294967296 : Nat) : Int) := by
  have h := bits_and_u64_nat a 4294967295 ha (by omega)
  have e : a &&& 4294967295 = a % 4294967296 := Nat.and_two_pow_sub_one_eq_mod a 32
  rw [e] at h
  exact h
theorem divN (a : Nat) : (a : Int) / 4294967296 = ((a / 4294967296 : Nat) : Int) := by omega
theorem mulN (a b : Nat) : (a : Int) * (b : Int) = ((a * b : Nat) : Int) := (Int.natCast_mul a b).symm
theorem addN (a b : Nat) : (a : Int) + (b : Int) = ((a + b : Nat) : Int) := (Int.natCast_add a b).symm
theorem wrapN (a : Nat) (ha : a < 18446744073709551616) : IntKind.u64.wrap (a : Int) = (a : Int) := by rw [IntKind.wrap_u64]; omega
theorem wrapM (a : Nat) : IntKind.u64.wrap (a : Int) = ((a % 18446744073709551616 : Nat) : Int) := by rw [IntKind.wrap_u64]; omega
set_option maxHeartbeats 1000000 in
theorem bitsMul64_any (x y : Nat) (hx : x < 18446744073709551616) (hy : y < 18446744073709551616) (w : World) :
    Calls Try.prog 118 #[.int .u64 x, .int .u64 y] w fun e w' => e = .returned (.tuple #[.int .u64 ((x * y / 18446744073709551616 : Nat) : Int), .int .u64 ((x * y % 18446744073709551616 : Nat) : Int)]) ∧ w = w' := by
  obtain ⟨bd, bt, bw, hhi⟩ := Lib.mul64_hi x y hx hy
  have ba := Lib.half_mul_le (a := x / 4294967296) (b := y / 4294967296) (by omega) (by omega)
  have bb := Lib.half_mul_le (a := x / 4294967296) (b := y % 4294967296) (by omega) (by omega)
  have bc := Lib.half_mul_le (a := x % 4294967296) (b := y / 4294967296) (by omega) (by omega)
  have ba' : x / 4294967296 * (y / 4294967296) < 18446744073709551616 := by omega
  have bb' : x / 4294967296 * (y % 4294967296) < 18446744073709551616 := by omega
  have bc' : x % 4294967296 * (y / 4294967296) < 18446744073709551616 := by omega
  have bh1 : x / 4294967296 * (y / 4294967296) + (x / 4294967296 * (y % 4294967296) + x % 4294967296 * (y % 4294967296) / 4294967296) / 4294967296 < 18446744073709551616 := by omega
  have bh : x / 4294967296 * (y / 4294967296) + (x / 4294967296 * (y % 4294967296) + x % 4294967296 * (y % 4294967296) / 4294967296) / 4294967296 + ((x / 4294967296 * (y % 4294967296) + x % 4294967296 * (y % 4294967296) / 4294967296) % 4294967296 + x % 4294967296 * (y / 4294967296)) / 4294967296 < 18446744073709551616 := by omega
  go_enter Try.func118, Try.ntmps118
  go_wp2
  simp only [maskN x hx, maskN y hy, divN, mulN, addN, wrapN _ bd, wrapN _ bb', wrapN _ bt, maskN _ bt, wrapN _ bc', wrapN _ bw, wrapN _ ba', wrapN _ bh1, wrapN _ bh, wrapM (x * y)]
  rw [hhi]
  go_ret2
  exact ⟨rfl, rfl⟩
theorem bitsMul_any (x y : Nat) (hx : x < 18446744073709551616) (hy : y < 18446744073709551616) (w : World) :
    Calls Try.prog 86 #[.int .u64 x, .int .u64 y] w fun e w' => e = .returned (.tuple #[.int .u64 ((x * y / 18446744073709551616 : Nat) : Int), .int .u64 ((x * y % 18446744073709551616 : Nat) : Int)]) ∧ w = w' := by
  go_enter Try.func86, Try.ntmps86
  go_wp2_with (go_at_call 118; refine (bitsMul64_any x y hx hy _).mono ?_; rintro e w' ⟨rfl, rfl⟩)
  go_ret2
  exact ⟨rfl, rfl⟩
theorem bitsMul_one (y : Nat) (hy : y ≤ 65536) (w : World) :
    Calls Try.prog 86 #[.int .u64 1, .int .u64 y] w fun e w' => e = .returned (.tuple #[.int .u64 0, .int .u64 y]) ∧ w = w' := by
  refine (bitsMul_any 1 y (by omega) (by omega) w).mono ?_
  rintro e w' ⟨rfl, rfl⟩
  rw [Nat.one_mul, Nat.div_eq_of_lt (by omega), Nat.mod_eq_of_lt (by omega)]
  exact ⟨rfl, rfl⟩

/-- The first m cells hold c, the rest nothing yet. -/
def repRow (c : Int) (n m : Nat) : List Value := List.replicate m (iV c) ++ List.replicate (n - m) (iV 0)
theorem repRow_len {c : Int} {n m : Nat} (h : m ≤ n) : (repRow c n m).length = n := by simp [repRow]; omega
theorem repRow_zero (c : Int) (n : Nat) : repRow c n 0 = List.replicate n (iV 0) := by simp [repRow]
theorem repRow_end (c : Int) (n : Nat) : repRow c n n = (List.replicate n c).map iV := by simp [repRow]
theorem repRow_splice {c : Int} {n m k : Nat} (h : m + k ≤ n) : splice (repRow c n m) m (List.replicate k (iV c)) = repRow c n (m + k) := by
  unfold splice repRow
  rw [List.take_append_of_le_length (by simp), List.take_of_length_le (by simp), List.length_replicate, List.drop_append, List.drop_of_length_le (by simp)]
  simp only [List.length_replicate, List.nil_append, List.drop_replicate]
  rw [← List.append_assoc, List.replicate_append_replicate, show n - m - (m + k - m) = n - (m + k) by omega]
theorem repRow_at {c : Int} {n m j : Nat} (h : j < m) : (repRow c n m)[j]? = some (iV c) := by
  unfold repRow
  rw [List.getElem?_append_left (by simpa using h)]
  simp [h]

theorem below_al_ (w : World) (o : Obj) : Below w.heap.size w (w.alloc o) := (Below.refl _ _).alloc (Nat.le_refl _) o
theorem one_at {w : World} {ad : Addr} {u : Value} (h : w.cell? (ad.add 0) = some u) {j : Nat} {v : Value} (hj : [u][j]? = some v) : w.cell? (ad.add j) = some v := by
  match j, hj with
  | 0, hj => simp at hj; rw [← hj]; exact h
theorem rep_cell {w : World} {g : Nat} {c : Int} {n m k : Nat} {t : TypeId} (h : w.heap[g]? = some (.cells (repRow c n m).toArray t (0, 0))) (hk : k ≤ m) {j : Nat} {v : Value} (hj : (List.replicate k (iV c))[j]? = some v) : w.cell? ((⟨g, 0, none⟩ : Addr).add j) = some v := by
  have hjk := lt_of_get hj
  rw [List.length_replicate] at hjk
  rw [Addr.add_lit, Nat.zero_add, cell_of_row _ _ _ (repRow c n m).toArray t (0, 0) h]
  rw [List.getElem?_toArray, repRow_at (by omega)]
  rw [List.getElem?_replicate, if_pos hjk] at hj
  exact hj
set_option maxHeartbeats 1600000 in
set_option maxRecDepth 100000 in
theorem repeat_any (v : Value) (c : Int) (n : Nat) (h1 : 1 ≤ n) (hn : n ≤ 65536) (w : World) (hr : Rd iV w v [c]) :
    Calls Try.prog 57 #[v, .int .i64 n] w fun e w' => ∃ v', e = .returned v' ∧ Own iV 2 w' w.heap.size v' (List.replicate n c) ∧ Below w.heap.size w w' := by
  obtain ⟨A, cap, rfl, hcap, hA⟩ := hr
  obtain ⟨ad, rfl, hbl, hc⟩ := hA 0 c rfl
  clear hA
  have hmk := fun W => elI_.mk_eq n (n : Int) rfl (by omega) (by omega) W
  go_enter Try.func57, Try.ntmps57
  have hg0 : (w.alloc (.cells (Array.replicate n (iV 0)) 2)).heap[w.heap.size]? = some (.cells (List.replicate n (iV 0)).toArray 2 (0, 0)) := by
    rw [heap_alloc_new, List.toArray_replicate]
  have hc1 : (w.alloc (.cells (Array.replicate n (iV 0)) 2)).cell? (ad.add 0) = some (iV c) := by
    rw [(below_al_ w _).cell (by rw [add_block]; exact hbl)]; exact hc
  go_wp2_with (first | (go_at_call 86; refine (bitsMul_one n hn _).mono ?_; rintro e w' ⟨rfl, rfl⟩) | (refine wpList_copy_splice rfl (.tmp 31) (.tmp 32) 36 36 rfl 2 Try.underlying36 (by kernel_rfl) _ _ _ _ _ _ rfl rfl w.heap.size 0 (List.replicate n (iV 0)) 2 hg0 [iV c] (by simp [Nat.min_def]; omega) (fun _ => ⟨rfl, ad, rfl, fun j v hj => one_at hc1 hj⟩) (by simp; omega) (by simp [Value.oneCell']) w.heap.size w (below_al_ w _) (Nat.le_refl _) ?_))
  intro w2 hg2 hb2
  have hgs : Hid (w2.heap[w.heap.size]? = some (.cells (repRow c n 1).toArray 2 (0, 0))) := by
    unfold Hid
    have e := hg2.out
    rw [← repRow_zero c n] at e
    rw [show ([iV c] : List Value) = List.replicate 1 (iV c) from rfl, repRow_splice (by omega)] at e
    exact e
  clear hg0 hc1 hg2 hmk
  go_wp2
  go_loopw [8] (fun si wr => ∃ m : Nat, 1 ≤ m ∧ m ≤ n ∧ si = .int .i64 m ∧ Hid (wr.heap[w.heap.size]? = some (.cells (repRow c n m).toArray 2 (0, 0))) ∧ Below w.heap.size w wr) (fun si _ => n - (intOf si).toNat)
  case atStart => exact ⟨1, by omega, h1, by first | rfl | go_num, hgs, hb2⟩
  case round =>
    obtain ⟨m, hm1, hmn, rfl, hg, hb⟩ := hrel
    clear hgs hb2
    by_cases hlt : m < n
    · obtain ⟨k, hk⟩ : ∃ k, k = Nat.min m (n - m) := ⟨_, rfl⟩
      have hk1 : 1 ≤ k ∧ k ≤ n - m ∧ k ≤ m := by rw [hk]; simp only [Nat.min_def]; split <;> omega
      have HK := Lib.hid hk
      clear hk
      have q0 : (0 : Int) ≤ (m : Int) := by omega
      have q1 : (m : Int) ≤ (n : Int) := by omega
      have q2 : ¬ n = m := by omega
      go_wp2
      refine wp_region_T (fun _ => True) [] (by kernel_rfl) trivial (fun _ => ?_)
      simp only [List.size_toArray, List.length_cons, List.length_nil, Nat.reduceAdd]
      refine wpAnyT_takeY (i := 0) (v := ?_) rfl (by kernel_rfl) (by kernel_rfl) (by kernel_rfl) (fun _ _ _ h => h) (Or.inl ⟨by rfl, ?_⟩) ?_
      rotate_left
      · intro wq; first | (go_simp; done) | (go_simp; with_reducible rfl)
      repeat (first | simp only [List.getElem_toArray] | simp only [List.getElem_cons_succ] | simp only [List.getElem_cons_zero] | simp only [Act.put] | simp only [List.setIfInBounds_toArray] | simp only [List.set_cons_succ] | simp only [List.set_cons_zero])
      refine wpAnyT_takeY (i := 1) (v := ?_) rfl (by kernel_rfl) (by kernel_rfl) (by kernel_rfl) (fun _ _ _ h => h) (Or.inl ⟨by rfl, ?_⟩) ?_
      rotate_left
      · intro wq; first | (go_simp; done) | (go_simp; with_reducible rfl)
      repeat (first | simp only [List.getElem_toArray] | simp only [List.getElem_cons_succ] | simp only [List.getElem_cons_zero] | simp only [Act.put] | simp only [List.setIfInBounds_toArray] | simp only [List.set_cons_succ] | simp only [List.set_cons_zero])
      refine wpAnyT_takeY (i := 2) (v := ?_) rfl (by kernel_rfl) (by kernel_rfl) (by kernel_rfl) (fun _ _ _ h => h) (Or.inl ⟨by rfl, ?_⟩) ?_
      rotate_left
      · intro wq; first | (go_simp; done) | (go_simp; with_reducible rfl)
      repeat (first | simp only [List.getElem_toArray] | simp only [List.getElem_cons_succ] | simp only [List.getElem_cons_zero] | simp only [Act.put] | simp only [List.setIfInBounds_toArray] | simp only [List.set_cons_succ] | simp only [List.set_cons_zero])
      refine wpAnyT_takeY (i := 3) (v := ?_) rfl (by kernel_rfl) (by kernel_rfl) (by kernel_rfl) (fun _ _ _ h => h) (Or.inl ⟨by rfl, ?_⟩) ?_
      rotate_left
      · intro wq; first | (go_simp; done) | (go_simp; with_reducible rfl)
      repeat (first | simp only [List.getElem_toArray] | simp only [List.getElem_cons_succ] | simp only [List.getElem_cons_zero] | simp only [Act.put] | simp only [List.setIfInBounds_toArray] | simp only [List.set_cons_succ] | simp only [List.set_cons_zero])
      refine wpAnyT_takeY (i := 4) (v := ?_) rfl (by kernel_rfl) (by kernel_rfl) (by kernel_rfl) (fun _ _ _ h => h) (Or.inl ⟨by rfl, ?_⟩) ?_
      rotate_left
      · intro wq; first | (go_simp; done) | (go_simp; with_reducible rfl)
      repeat (first | simp only [List.getElem_toArray] | simp only [List.getElem_cons_succ] | simp only [List.getElem_cons_zero] | simp only [Act.put] | simp only [List.setIfInBounds_toArray] | simp only [List.set_cons_succ] | simp only [List.set_cons_zero])
      refine wpAnyT_takeY (i := 5) (v := ?_) rfl (by kernel_rfl) (by kernel_rfl) (by kernel_rfl) (fun _ _ _ h => h) (Or.inl ⟨by rfl, ?_⟩) ?_
      rotate_left
      · intro wq; first | (go_simp; done) | (go_simp; with_reducible rfl)
      repeat (first | simp only [List.getElem_toArray] | simp only [List.getElem_cons_succ] | simp only [List.getElem_cons_zero] | simp only [Act.put] | simp only [List.setIfInBounds_toArray] | simp only [List.set_cons_succ] | simp only [List.set_cons_zero])
      refine wpAnyT_takeY (i := 6) (v := ?_) rfl (by kernel_rfl) (by kernel_rfl) (by kernel_rfl) (fun _ _ _ h => h) (Or.inl ⟨by rfl, ?_⟩) ?_
      rotate_left
      · intro wq; first | (go_simp; done) | (go_simp; with_reducible rfl)
      repeat (first | simp only [List.getElem_toArray] | simp only [List.getElem_cons_succ] | simp only [List.getElem_cons_zero] | simp only [Act.put] | simp only [List.setIfInBounds_toArray] | simp only [List.set_cons_succ] | simp only [List.set_cons_zero])
      generalize hwd : wr.drew = wd
      have hbd : Below w.heap.size w wd := by rw [← hwd]; exact hb.drew
      have hgd : Hid (wd.heap[w.heap.size]? = some (.cells (repRow c n m).toArray 2 (0, 0))) := by rw [← hwd]; exact hg
      clear hwd
      refine wpAnyT_ready (rs := [7]) (by kernel_rfl) (by simp) ?_
      refine AllT.cons rfl (fun K hK => ?_) AllT.nil
      refine step_copy_splice (by rfl) (.tmp 41) (.tmp 44) 36 36 (by rfl) 2 Try.underlying36 (by kernel_rfl) (some ⟨w.heap.size, m, none⟩) (some ⟨w.heap.size, 0, none⟩) (n - m) (n - m) m n (by rfl) (by rfl) w.heap.size m (repRow c n m) 2 hgd.out (List.replicate k (iV c)) (by rw [List.length_replicate]; exact HK.out) (fun _ => ⟨rfl, ⟨w.heap.size, 0, none⟩, rfl, fun j v hj => rep_cell hgd.out hk1.2.2 hj⟩) (by rw [List.length_replicate, repRow_len hmn]; omega) (by intro v hv; rw [List.eq_of_mem_replicate hv]; rfl) w.heap.size w hbd (Nat.le_refl _) ?_
      intro w4 hg4 hb4
      refine hK.out _ _ (fun h _ => h) ?_
      clear hK K
      rw [List.length_replicate]
      repeat (first | simp only [List.getElem_toArray] | simp only [List.getElem_cons_succ] | simp only [List.getElem_cons_zero] | simp only [Act.put] | simp only [List.setIfInBounds_toArray] | simp only [List.set_cons_succ] | simp only [List.set_cons_zero])
      refine wpAnyT_takeY (i := 8) (v := ?_) rfl (by kernel_rfl) (by kernel_rfl) (by kernel_rfl) (fun _ _ _ h => h) (Or.inl ⟨by rfl, ?_⟩) ?_
      rotate_left
      · intro wq; first | (go_simp; done) | (go_simp; with_reducible rfl)
      repeat (first | simp only [List.getElem_toArray] | simp only [List.getElem_cons_succ] | simp only [List.getElem_cons_zero] | simp only [Act.put] | simp only [List.setIfInBounds_toArray] | simp only [List.set_cons_succ] | simp only [List.set_cons_zero])
      refine wpAnyT_takeY (i := 9) (v := ?_) rfl (by kernel_rfl) (by kernel_rfl) (by kernel_rfl) (fun _ _ _ h => h) (Or.inl ⟨by rfl, ?_⟩) ?_
      rotate_left
      · intro wq; first | (go_simp; done) | (go_simp; with_reducible rfl)
      repeat (first | simp only [List.getElem_toArray] | simp only [List.getElem_cons_succ] | simp only [List.getElem_cons_zero] | simp only [Act.put] | simp only [List.setIfInBounds_toArray] | simp only [List.set_cons_succ] | simp only [List.set_cons_zero])
      refine wpAnyT_done (by kernel_rfl) ?_ _
      have hg5 : Hid (w4.heap[w.heap.size]? = some (.cells (repRow c n (m + k)).toArray 2 (0, 0))) := by
        unfold Hid
        rw [hg4.out, repRow_splice (by omega)]
      clear hg hgd hg4 hb hbd HK
      have hw64 : IntKind.i64.wrap ((m : Int) + (k : Int)) = ((m + k : Nat) : Int) := by rw [IntWalk.i64_in _ (by omega)]; omega
      go_wp2
      go_roundw
      case rel => exact ⟨m + k, by omega, by omega, by rw [hw64], hg5, hb4⟩
      case measure => simp [intOf, hw64]; omega
    · have HME : Hid (m = n) := by unfold Hid; omega
      go_wp2
      go_ret
      obtain rfl : m = n := HME.out
      refine ⟨_, rfl, ?_, hb⟩
      refine ⟨by simp, .inr ⟨w.heap.size, m, _, (by simp), Nat.le_refl _, hg.out, by simp, by unfold maxLen; omega, by simp [repRow_len], ?_⟩⟩
      rw [repRow_end]
      simp
end Go.Proofs.Ythdnelfggmlalaa
