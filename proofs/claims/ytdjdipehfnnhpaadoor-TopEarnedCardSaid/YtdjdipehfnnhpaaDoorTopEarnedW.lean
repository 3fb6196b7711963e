/-
  TopEarned's law at whatever arguments its types allow.
-/
import Derived.Test.YtdjdipehfnnhpaaDoorTopF
namespace Go.Proofs.YtdjdipehfnnhpaaDoor
open Go Go.Ev Go.RowKit Go.Acc
set_option maxRecDepth 100000 in
theorem walkTopEarned (c0 : V) (h0 : TyV Tryd.prog 9 3 c0) (c1 : V) (h1 : TyV Tryd.prog 9 3 c1) (c2 : V) (h2 : TyV Tryd.prog 9 3 c2) (c3 : V) (h3 : TyV Tryd.prog 9 3 c3) :
    SoundAt Tryd.prog Tab 3 [c0, c1, c2, c3] (.bool true) [] := by
  obtain ⟨n, rfl, _⟩ := ty_int (m := 8) h0 Tryd.underlying3
  obtain ⟨k, rfl, _⟩ := ty_int (m := 8) h1 Tryd.underlying3
  obtain ⟨l, rfl, _⟩ := ty_int (m := 8) h2 Tryd.underlying3
  obtain ⟨j, rfl, _⟩ := ty_int (m := 8) h3 Tryd.underlying3
  exact earned_law n k l j
end Go.Proofs.YtdjdipehfnnhpaaDoor
