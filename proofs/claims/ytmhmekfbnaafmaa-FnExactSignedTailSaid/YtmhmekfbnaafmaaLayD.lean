/-
  slices.DeleteFunc[[]int64,int64] by its contract off the shelf (the plain text of what the shelf lays).
-/
import Derived.Test.YtmhmekfbnaafmaaChecked
import Derived.Shelf.SlicesE.DeleteFunc
namespace Go.Proofs.Ytmhmekfbnaafmaa
open Go.RowKit Go.Shelf
def delF_ren : Go.Shelf.Ren := ⟨fun | 10 => 45 | 6 => 65 | n => n, fun | 22 => 22 | 23 => 2 | 25 => 57 | 3 => 3 | 4 => 4 | 0 => 0 | n => n, fun | n => n⟩
theorem delF : Go.Proofs.SlLaysH.n10 Try.prog delF_ren := {
  mixed := by kernel_rfl,
  f6 := ⟨Try.f65.name, by decide, Try.func65.trans (congrArg some (by kernel_rfl))⟩,
  f10 := ⟨Try.f45.name, by decide, Try.func45.trans (congrArg some (by kernel_rfl))⟩,
  t0 := Try.underlying0,
  a0 := Try.isAgg0,
  z0 := Try.sizeOf0,
  v0 := Try.zeroValue0,
  t3 := Try.underlying3,
  a3 := Try.isAgg3,
  z3 := Try.sizeOf3,
  v3 := Try.zeroValue3,
  t4 := Try.underlying4,
  a4 := Try.isAgg4,
  z4 := Try.sizeOf4,
  v4 := Try.zeroValue4,
  t22 := Try.underlying22,
  a22 := Try.isAgg22,
  z22 := Try.sizeOf22,
  v22 := Try.zeroValue22,
  a23 := Try.isAgg2,
  z23 := Try.sizeOf2,
  t25 := Try.underlying57,
  a25 := Try.isAgg57,
  z25 := Try.sizeOf57,
  v25 := Try.zeroValue57 }
end Go.Proofs.Ytmhmekfbnaafmaa
