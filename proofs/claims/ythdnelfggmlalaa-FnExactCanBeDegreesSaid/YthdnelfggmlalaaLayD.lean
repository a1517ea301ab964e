/-
  slices.DeleteFunc[[]int64,int64] by its contract off the shelf (the plain text of what the shelf lays).
-/
import Derived.Test.YthdnelfggmlalaaChecked
import Derived.Shelf.SlicesE.DeleteFunc
namespace Go.Proofs.Ythdnelfggmlalaa
open Go.RowKit Go.Shelf
def delF_ren : Go.Shelf.Ren := ⟨fun | 10 => 96 | 6 => 121 | n => n, fun | 22 => 36 | 23 => 2 | 25 => 55 | 3 => 3 | 4 => 4 | 0 => 0 | n => n, fun | n => n⟩
theorem delF : Go.Proofs.SlLaysH.n10 Try.prog delF_ren := {
  mixed := by kernel_rfl,
  f6 := ⟨Try.f121.name, by decide, Try.func121.trans (congrArg some (by kernel_rfl))⟩,
  f10 := ⟨Try.f96.name, by decide, Try.func96.trans (congrArg some (by kernel_rfl))⟩,
  t0 := Try.underlying0,
  a0 := Try.isAgg0,
  z0 := Try.sizeOf0,
  v0 := Try.zeroValue0,
  t3 := Try.underlying3,
  a3 := Try.isAgg3,
  z3 := Try.sizeOf3,
  v3 := Try.zeroValue3,
  t4 := Try.underlying4,
  a4 := Try.isAgg4,
  z4 := Try.sizeOf4,
  v4 := Try.zeroValue4,
  t22 := Try.underlying36,
  a22 := Try.isAgg36,
  z22 := Try.sizeOf36,
  v22 := Try.zeroValue36,
  a23 := Try.isAgg2,
  z23 := Try.sizeOf2,
  t25 := Try.underlying55,
  a25 := Try.isAgg55,
  z25 := Try.sizeOf55,
  v25 := Try.zeroValue55 }
end Go.Proofs.Ythdnelfggmlalaa
