/-
  SplitSays's law at whatever arguments its types allow.
-/
import Derived.Test.YthndfckapbbbfaaSplH
namespace Go.Proofs.Ythndfckapbbbfaa
open Go Go.Ev Go.RowKit
set_option maxRecDepth 100000 in
theorem walkSplitSays (c0 : V) (h0 : TyV Try.prog 9 3 c0) (c1 : V) (h1 : TyV Try.prog 9 38 c1) (c2 : V) (h2 : TyV Try.prog 9 3 c2) :
    SoundAt Try.prog J0 11 [c0, c1, c2] (.bool true) [] := by
  obtain ⟨n0, rfl, _⟩ := ty_int (m := 8) h0 Try.underlying3
  obtain ⟨n1, rfl, _⟩ := ty_ints (m := 7) h1 Try.underlying38 Try.underlying3 (by kernel_rfl)
  obtain ⟨n2, rfl, _⟩ := ty_int (m := 8) h2 Try.underlying3
  exact split_law stable0 n0 n1 n2
end Go.Proofs.Ythndfckapbbbfaa
