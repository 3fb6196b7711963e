/-
  AgeSays's law at whatever arguments its types allow.
-/
import Derived.Test.YtdjdipehfnnhpaaAgI
import Derived.Test.YtdjdipehfnnhpaaTiW
namespace Go.Proofs.Ytdjdipehfnnhpaa
open Go Go.Ev Go.RowKit Go.Tie
set_option maxRecDepth 100000 in
theorem walkAgeSays (c0 : V) (h0 : TyV Try.prog 9 53 c0) (c1 : V) (h1 : TyV Try.prog 9 3 c1) (c2 : V) (h2 : TyV Try.prog 9 3 c2) (c3 : V) (h3 : TyV Try.prog 9 24 c3) :
    SoundAt Try.prog J0 6 [c0, c1, c2, c3] (.bool true) [] := by
  obtain ⟨l, rfl⟩ := ty_items (m := 6) h0
  obtain ⟨a, rfl, _⟩ := ty_int (m := 8) h1 Try.underlying3
  obtain ⟨t, rfl, _⟩ := ty_int (m := 8) h2 Try.underlying3
  obtain ⟨b, rfl, _⟩ := ty_ints (m := 7) h3 Try.underlying24 Try.underlying3 (by kernel_rfl)
  exact age_law stable0 l a t b
end Go.Proofs.Ytdjdipehfnnhpaa
