/-
  NoteSays's law at whatever arguments its types allow.
-/
import Derived.Test.YthndfckapbbbfaaNoteI
namespace Go.Proofs.Ythndfckapbbbfaa
open Go Go.Ev Go.RowKit
set_option maxRecDepth 100000 in
theorem walkNoteSays (c0 : V) (h0 : TyV Try.prog 9 3 c0) (c1 : V) (h1 : TyV Try.prog 9 3 c1) (c2 : V) (h2 : TyV Try.prog 9 3 c2) (c3 : V) (h3 : TyV Try.prog 9 3 c3) :
    SoundAt Try.prog J0 9 [c0, c1, c2, c3] (.bool true) [] := by
  obtain ⟨n0, rfl, _⟩ := ty_int (m := 8) h0 Try.underlying3
  obtain ⟨n1, rfl, _⟩ := ty_int (m := 8) h1 Try.underlying3
  obtain ⟨n2, rfl, _⟩ := ty_int (m := 8) h2 Try.underlying3
  obtain ⟨n3, rfl, _⟩ := ty_int (m := 8) h3 Try.underlying3
  exact note_law stable0 n0 n1 n2 n3
end Go.Proofs.Ythndfckapbbbfaa
