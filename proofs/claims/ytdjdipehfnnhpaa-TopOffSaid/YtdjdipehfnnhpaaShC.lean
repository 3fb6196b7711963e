/-
  The library's Trim and ContainsFunc, laid at this program by the kit's own tool (lay-shelf, lay-plain).
-/
import Derived.Shelf.Strings.SlTrimAscii
import Derived.Shelf.Strings.FuncGrows
import Derived.Ground.GgwProg
import Derived.Test.YtdjdipehfnnhpaaProg
namespace Go.Proofs
open Go.Shelf
end Go.Proofs
