/-
  BookTells' law, run by the machine.
-/
import Derived.Test.YtdmkmbaaemhhhaaDoorBkJ
namespace Go.Proofs.YtdmkmbaaemhhhaaDoor
open Go Go.Ev Go.RowKit Go.Acc
end Go.Proofs.YtdmkmbaaemhhhaaDoor
