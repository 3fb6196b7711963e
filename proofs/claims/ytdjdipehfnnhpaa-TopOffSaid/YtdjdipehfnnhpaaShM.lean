/-
  The library's Compare of strings, laid at this program by the kit's own tool (lay-shelf, lay-plain).
-/
import Derived.Shelf.Small.Strs
import Derived.Test.YtdjdipehfnnhpaaProg
namespace Go.Proofs
open Go.Shelf
def Try.lays106_ren : Go.Shelf.Ren := ⟨fun | 106 => 83 | 213 => 99 | 265 => 107 | n => n, fun | 9 => 9 | 3 => 3 | n => n, fun n => n⟩
theorem Try.lays106 : Go.Proofs.Lays.n106 Try.prog Try.lays106_ren := {
  mixed := by kernel_rfl
  f106 := Try.func83.trans (congrArg some (by kernel_rfl))
  f213 := Try.func99.trans (congrArg some (by kernel_rfl))
  f265 := Try.func107.trans (congrArg some (by kernel_rfl))
  t3 := Try.underlying3
  a3 := Try.isAgg3
  z3 := Try.sizeOf3
  v3 := Try.zeroValue3
  t9 := Try.underlying9
  a9 := Try.isAgg9
  z9 := Try.sizeOf9
  v9 := Try.zeroValue9 }
end Go.Proofs
