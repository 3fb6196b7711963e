/-
  SeatsSay's law at whatever arguments its types allow.
-/
import Derived.Test.YtdmkmbaaemhhhaaDlS
namespace Go.Proofs.Ytdmkmbaaemhhhaa
open Go Go.Ev Go.RowKit
set_option maxRecDepth 100000 in
theorem walkSeatsSay (c0 : V) (h0 : TyV Try.prog 9 3 c0) (c1 : V) (h1 : TyV Try.prog 9 3 c1) (c2 : V) (h2 : TyV Try.prog 9 23 c2) :
    SoundAt Try.prog J0 4 [c0, c1, c2] (.bool true) [] := by
  obtain ⟨way, rfl, _⟩ := ty_int (m := 8) h0 Try.underlying3
  obtain ⟨n, rfl, _⟩ := ty_int (m := 8) h1 Try.underlying3
  obtain ⟨l, rfl, _⟩ := ty_ints (m := 7) h2 Try.underlying23 Try.underlying3 (by kernel_rfl)
  exact seats_law stable0 way n l
end Go.Proofs.Ytdmkmbaaemhhhaa
