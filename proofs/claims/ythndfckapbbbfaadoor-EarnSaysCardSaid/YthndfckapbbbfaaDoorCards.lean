/-
  DERIVED. GIVEN WITH THE SEED: THE CARDS: each row of YthndfckapbbbfaaDoorRows.lean that lists a variable, with what it lists TIED to the program's text (the seventh form; the later family's looks); each row that meets fmt, with fmt's text TOLD by the authors' own Lean function (tested against real Go, not proved from fmt's source: count such statements apart). THE CARD IS WHAT COUNTS. Prove the row's statement (the work); the ties are given (YthndfckapbbbfaaDoorTie.lean); close each card by the builder's one call (the guide's Derived/Test/ToyasCard.lean, 'card_holds'). Laid BY PROGRAM, IN A SANDBOX (cutbox-door.mjs). By AI agents, Wed Nov 11 2026. No macro, syntax, notation, axiom, sorry.
-/
import Derived.Test.YthndfckapbbbfaaDoorRows
import GoSem.ClaimSeven
namespace Go.Proofs.YthndfckapbbbfaaDoor
namespace Rows

/-- THE TIED CARD OF 'tallaw.CountSays'. -/
def countSaysCard : Claim7 := { stood := { row := countSaysRow, standIns := [], harness := (true, "44ce69502962fecc014d3303f9ba59ac7d64d4ec1c5352741040f1d72dc55448"), looks := false }, kinds := [], alts := [], laidByText := true, laidKinds := [.data], laidTests := true, laidLooks := .later }
def CountSaysCardSaid : Prop := Claim7.holds Tryd.pinned (.plain (OpenSpec.ofChange countSaysSpec)) countSaysCard

/-- THE TIED CARD OF 'tallaw.CalSays'. -/
def calSaysCard : Claim7 := { stood := { row := calSaysRow, standIns := [], harness := (true, "44ce69502962fecc014d3303f9ba59ac7d64d4ec1c5352741040f1d72dc55448"), looks := false }, kinds := [], alts := [], laidByText := true, laidKinds := [.data], laidTests := true, laidLooks := .later }
def CalSaysCardSaid : Prop := Claim7.holds Tryd.pinned (.plain (OpenSpec.ofChange calSaysSpec)) calSaysCard

/-- THE TIED CARD OF 'tallaw.CalMoves'. -/
def calMovesCard : Claim7 := { stood := { row := calMovesRow, standIns := [], harness := (true, "44ce69502962fecc014d3303f9ba59ac7d64d4ec1c5352741040f1d72dc55448"), looks := false }, kinds := [], alts := [], laidByText := true, laidKinds := [.data], laidTests := true, laidLooks := .later }
def CalMovesCardSaid : Prop := Claim7.holds Tryd.pinned (.plain (OpenSpec.ofChange calMovesSpec)) calMovesCard

/-- THE TIED CARD OF 'tallaw.EarnSays'. -/
def earnSaysCard : Claim7 := { stood := { row := earnSaysRow, standIns := [], harness := (true, "44ce69502962fecc014d3303f9ba59ac7d64d4ec1c5352741040f1d72dc55448"), looks := false }, kinds := [], alts := [], laidByText := true, laidKinds := [.data], laidTests := true, laidLooks := .later }
def EarnSaysCardSaid : Prop := Claim7.holds Tryd.pinned (.plain (OpenSpec.ofChange earnSaysSpec)) earnSaysCard

/-- THE SECOND FORM's CARD OF 'tallaw.CountSays'. -/
def countSaysUptoCard : Claim7 := { stood := { row := countSaysUptoRow, standIns := [], harness := (true, "44ce69502962fecc014d3303f9ba59ac7d64d4ec1c5352741040f1d72dc55448"), looks := false }, kinds := [], alts := [], laidByText := true, laidKinds := [.data], laidTests := true, laidLooks := .later }
def CountSaysUptoCardSaid : Prop := Claim7.holds Tryd.pinned (.plain (OpenSpec.upto countSaysSpec)) countSaysUptoCard

/-- THE SECOND FORM's CARD OF 'tallaw.CalSays'. -/
def calSaysUptoCard : Claim7 := { stood := { row := calSaysUptoRow, standIns := [], harness := (true, "44ce69502962fecc014d3303f9ba59ac7d64d4ec1c5352741040f1d72dc55448"), looks := false }, kinds := [], alts := [], laidByText := true, laidKinds := [.data], laidTests := true, laidLooks := .later }
def CalSaysUptoCardSaid : Prop := Claim7.holds Tryd.pinned (.plain (OpenSpec.upto calSaysSpec)) calSaysUptoCard

/-- THE SECOND FORM's CARD OF 'tallaw.CalMoves'. -/
def calMovesUptoCard : Claim7 := { stood := { row := calMovesUptoRow, standIns := [], harness := (true, "44ce69502962fecc014d3303f9ba59ac7d64d4ec1c5352741040f1d72dc55448"), looks := false }, kinds := [], alts := [], laidByText := true, laidKinds := [.data], laidTests := true, laidLooks := .later }
def CalMovesUptoCardSaid : Prop := Claim7.holds Tryd.pinned (.plain (OpenSpec.upto calMovesSpec)) calMovesUptoCard

/-- THE SECOND FORM's CARD OF 'tallaw.EarnSays'. -/
def earnSaysUptoCard : Claim7 := { stood := { row := earnSaysUptoRow, standIns := [], harness := (true, "44ce69502962fecc014d3303f9ba59ac7d64d4ec1c5352741040f1d72dc55448"), looks := false }, kinds := [], alts := [], laidByText := true, laidKinds := [.data], laidTests := true, laidLooks := .later }
def EarnSaysUptoCardSaid : Prop := Claim7.holds Tryd.pinned (.plain (OpenSpec.upto earnSaysSpec)) earnSaysUptoCard
end Rows
end Go.Proofs.YthndfckapbbbfaaDoor
