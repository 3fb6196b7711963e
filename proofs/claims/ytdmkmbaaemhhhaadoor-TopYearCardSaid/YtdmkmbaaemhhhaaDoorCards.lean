/-
  DERIVED. GIVEN WITH THE SEED: THE CARDS: each row of YtdmkmbaaemhhhaaDoorRows.lean that lists a variable, with what it lists TIED to the program's text (the seventh form; the later family's looks); each row that meets fmt, with fmt's text TOLD by the authors' own Lean function (tested against real Go, not proved from fmt's source: count such statements apart). THE CARD IS WHAT COUNTS. Prove the row's statement (the work); the ties are given (YtdmkmbaaemhhhaaDoorTie.lean); close each card by the builder's one call (the guide's Derived/Test/ToyasCard.lean, 'card_holds'). Laid BY PROGRAM, IN A SANDBOX (cutbox-door.mjs). By AI agents, Wed Nov 11 2026. No macro, syntax, notation, axiom, sorry.
-/
import Derived.Test.YtdmkmbaaemhhhaaDoorRows
import GoSem.ClaimSeven
namespace Go.Proofs.YtdmkmbaaemhhhaaDoor
namespace Rows

/-- THE TIED CARD OF 'tallaw.JobSays'. -/
def jobSaysCard : Claim7 := { stood := { row := jobSaysRow, standIns := [], harness := (true, "b62a376d94048006d4b9559780656e8d9c2a4a37fb337e6ed07babc0c0c38c5b"), looks := false }, kinds := [], alts := [], laidByText := true, laidKinds := [.data, .data, .pinned], laidTests := true, laidLooks := .later }
def JobSaysCardSaid : Prop := Claim7.holds Tryd.pinned (.plain (OpenSpec.ofChange jobSaysSpec)) jobSaysCard

/-- THE TIED CARD OF 'taltop.TopYear'. -/
def topYearCard : Claim7 := { stood := { row := topYearRow, standIns := [], harness := (true, "b62a376d94048006d4b9559780656e8d9c2a4a37fb337e6ed07babc0c0c38c5b"), looks := false }, kinds := [], alts := [], laidByText := true, laidKinds := [.data], laidTests := true, laidLooks := .later }
def TopYearCardSaid : Prop := Claim7.holds Tryd.pinned (.plain (OpenSpec.ofChange topYearSpec)) topYearCard

/-- THE SECOND FORM's CARD OF 'tallaw.JobSays'. -/
def jobSaysUptoCard : Claim7 := { stood := { row := jobSaysUptoRow, standIns := [], harness := (true, "b62a376d94048006d4b9559780656e8d9c2a4a37fb337e6ed07babc0c0c38c5b"), looks := false }, kinds := [], alts := [], laidByText := true, laidKinds := [.data, .data, .pinned], laidTests := true, laidLooks := .later }
def JobSaysUptoCardSaid : Prop := Claim7.holds Tryd.pinned (.plain (OpenSpec.upto jobSaysSpec)) jobSaysUptoCard

/-- THE SECOND FORM's CARD OF 'taltop.TopYear'. -/
def topYearUptoCard : Claim7 := { stood := { row := topYearUptoRow, standIns := [], harness := (true, "b62a376d94048006d4b9559780656e8d9c2a4a37fb337e6ed07babc0c0c38c5b"), looks := false }, kinds := [], alts := [], laidByText := true, laidKinds := [.data], laidTests := true, laidLooks := .later }
def TopYearUptoCardSaid : Prop := Claim7.holds Tryd.pinned (.plain (OpenSpec.upto topYearSpec)) topYearUptoCard
end Rows
end Go.Proofs.YtdmkmbaaemhhhaaDoor
