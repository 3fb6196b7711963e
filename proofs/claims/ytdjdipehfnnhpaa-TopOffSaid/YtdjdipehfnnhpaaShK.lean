/-
  The library's IndexByte, laid at this program by the kit's own tool (lay-shelf, lay-plain).
-/
import Derived.Shelf.Small.Strs
import Derived.Test.YtdjdipehfnnhpaaProg
namespace Go.Proofs
open Go.Shelf
end Go.Proofs
