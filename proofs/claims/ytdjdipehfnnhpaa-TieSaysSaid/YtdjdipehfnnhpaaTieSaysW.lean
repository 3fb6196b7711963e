/-
  TieSays's law at whatever arguments its types allow.
-/
import Derived.Test.YtdjdipehfnnhpaaTiH
import Derived.Test.YtdjdipehfnnhpaaTiW
namespace Go.Proofs.Ytdjdipehfnnhpaa
open Go Go.Ev Go.RowKit Go.Tie
set_option maxRecDepth 100000 in
theorem walkTieSays (c0 : V) (h0 : TyV Try.prog 9 53 c0) (c1 : V) (h1 : TyV Try.prog 9 53 c1) (c2 : V) (h2 : TyV Try.prog 9 3 c2) :
    SoundAt Try.prog J0 5 [c0, c1, c2] (.bool true) [] := by
  obtain ⟨a, rfl⟩ := ty_items (m := 6) h0
  obtain ⟨b, rfl⟩ := ty_items (m := 6) h1
  obtain ⟨w, rfl, _⟩ := ty_int (m := 8) h2 Try.underlying3
  exact tie_law stable0 a b w
end Go.Proofs.Ytdjdipehfnnhpaa
