/-
  TrialSays's law at whatever arguments its types allow.
-/
import Derived.Test.YtdjdipehfnnhpaaDoorBookTellsW
import Derived.Test.YtdjdipehfnnhpaaDoorTsI
namespace Go.Proofs.YtdjdipehfnnhpaaDoor
open Go Go.Ev Go.RowKit Go.Acc
set_option maxRecDepth 100000 in
theorem walkTrialSays (c0 : V) (h0 : TyV Tryd.prog 9 31 c0) (c1 : V) (h1 : TyV Tryd.prog 9 3 c1) (c2 : V) (h2 : TyV Tryd.prog 9 3 c2) :
    SoundAt Tryd.prog J0 6 [c0, c1, c2] (.bool true) [] := by
  obtain ⟨A, E, s, rfl, hE⟩ := ty_book (m := 3) h0
  obtain ⟨n, rfl, _⟩ := ty_int (m := 8) h1 Tryd.underlying3
  obtain ⟨k, rfl, _⟩ := ty_int (m := 8) h2 Tryd.underlying3
  exact trial_law stable0 A E s n k hE
end Go.Proofs.YtdjdipehfnnhpaaDoor
