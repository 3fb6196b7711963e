/-
  BookTells' law, run by the machine.
-/
import Derived.Test.YtdmkmbaaemhhhaaGreatDoorBkJ
namespace Go.Proofs.YtdmkmbaaemhhhaaGreatDoor
open Go Go.Ev Go.RowKit Go.Acc
end Go.Proofs.YtdmkmbaaemhhhaaGreatDoor
