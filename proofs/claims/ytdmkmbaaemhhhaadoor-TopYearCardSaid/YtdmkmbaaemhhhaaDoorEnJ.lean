/-
  EntrySays' law, run by the machine.
-/
import Derived.Test.YtdmkmbaaemhhhaaDoorEnI
namespace Go.Proofs.YtdmkmbaaemhhhaaDoor
open Go Go.Ev Go.RowKit Go.Acc
theorem key_a : keyOk' ⟨#[97]⟩ = true := by decide
theorem echeck_zero : echeckF [.agg [.str ByteArray.empty, .int .i64 0, .zero]] = some (.int .i64 3, []) := by
  have : enE ByteArray.empty 0 [] = 3 := by decide
  simp only [echeckF, rowAc, Option.map_some, this]
end Go.Proofs.YtdmkmbaaemhhhaaDoor
