/-
  DERIVED. GIVEN WITH THE SEED: THE CARDS: each row of YtdjdipehfnnhpaaDoorRows.lean that lists a variable, with what it lists TIED to the program's text (the seventh form; the later family's looks); each row that meets fmt, with fmt's text TOLD by the authors' own Lean function (tested against real Go, not proved from fmt's source: count such statements apart). THE CARD IS WHAT COUNTS. Prove the row's statement (the work); the ties are given (YtdjdipehfnnhpaaDoorTie.lean); close each card by the builder's one call (the guide's Derived/Test/ToyasCard.lean, 'card_holds'). Laid BY PROGRAM, IN A SANDBOX (cutbox-door.mjs). By AI agents, Wed Nov 11 2026. No macro, syntax, notation, axiom, sorry.
-/
import Derived.Test.YtdjdipehfnnhpaaDoorRows
import GoSem.ClaimSeven
namespace Go.Proofs.YtdjdipehfnnhpaaDoor
namespace Rows

/-- THE TIED CARD OF 'taltop.TopEarned'. -/
def topEarnedCard : Claim7 := { stood := { row := topEarnedRow, standIns := [], harness := (true, "119014b8183ab12d53c4bdf234b52b9efa859f1358d5f00a2db2b33fb923e05d"), looks := false }, kinds := [], alts := [], laidByText := true, laidKinds := [.data], laidTests := true, laidLooks := .later }
def TopEarnedCardSaid : Prop := Claim7.holds Tryd.pinned (.plain (OpenSpec.ofChange topEarnedSpec)) topEarnedCard

/-- THE TIED CARD OF 'tallaw.AcctSays'. -/
def acctSaysCard : Claim7 := { stood := { row := acctSaysRow, standIns := [], harness := (true, "119014b8183ab12d53c4bdf234b52b9efa859f1358d5f00a2db2b33fb923e05d"), looks := false }, kinds := [], alts := [], laidByText := true, laidKinds := [.data, .pinned], laidTests := true, laidLooks := .later }
def AcctSaysCardSaid : Prop := Claim7.holds Tryd.pinned (.plain (OpenSpec.ofChange acctSaysSpec)) acctSaysCard

/-- THE TIED CARD OF 'tallaw.EntrySays'. -/
def entrySaysCard : Claim7 := { stood := { row := entrySaysRow, standIns := [], harness := (true, "119014b8183ab12d53c4bdf234b52b9efa859f1358d5f00a2db2b33fb923e05d"), looks := false }, kinds := [], alts := [], laidByText := true, laidKinds := [.data, .pinned], laidTests := true, laidLooks := .later }
def EntrySaysCardSaid : Prop := Claim7.holds Tryd.pinned (.plain (OpenSpec.ofChange entrySaysSpec)) entrySaysCard

/-- THE TIED CARD OF 'tallaw.TrialSays'. -/
def trialSaysCard : Claim7 := { stood := { row := trialSaysRow, standIns := [], harness := (true, "119014b8183ab12d53c4bdf234b52b9efa859f1358d5f00a2db2b33fb923e05d"), looks := false }, kinds := [], alts := [], laidByText := true, laidKinds := [.data, .pinned], laidTests := true, laidLooks := .later }
def TrialSaysCardSaid : Prop := Claim7.holds Tryd.pinned (.plain (OpenSpec.ofChange trialSaysSpec)) trialSaysCard

/-- THE TIED CARD OF 'tallaw.BookTells'. -/
def bookTellsCard : Claim7 := { stood := { row := bookTellsRow, standIns := [], harness := (true, "119014b8183ab12d53c4bdf234b52b9efa859f1358d5f00a2db2b33fb923e05d"), looks := false }, kinds := [], alts := [], laidByText := true, laidKinds := [.data, .pinned], laidTests := true, laidLooks := .later }
def BookTellsCardSaid : Prop := Claim7.holds Tryd.pinned (.plain (OpenSpec.ofChange bookTellsSpec)) bookTellsCard

/-- THE TIED CARD OF 'tallaw.JobSays'. -/
def jobSaysCard : Claim7 := { stood := { row := jobSaysRow, standIns := [], harness := (true, "119014b8183ab12d53c4bdf234b52b9efa859f1358d5f00a2db2b33fb923e05d"), looks := false }, kinds := [], alts := [], laidByText := true, laidKinds := [.data, .data, .pinned], laidTests := true, laidLooks := .later }
def JobSaysCardSaid : Prop := Claim7.holds Tryd.pinned (.plain (OpenSpec.ofChange jobSaysSpec)) jobSaysCard

/-- THE SECOND FORM's CARD OF 'taltop.TopEarned'. -/
def topEarnedUptoCard : Claim7 := { stood := { row := topEarnedUptoRow, standIns := [], harness := (true, "119014b8183ab12d53c4bdf234b52b9efa859f1358d5f00a2db2b33fb923e05d"), looks := false }, kinds := [], alts := [], laidByText := true, laidKinds := [.data], laidTests := true, laidLooks := .later }
def TopEarnedUptoCardSaid : Prop := Claim7.holds Tryd.pinned (.plain (OpenSpec.upto topEarnedSpec)) topEarnedUptoCard

/-- THE SECOND FORM's CARD OF 'tallaw.AcctSays'. -/
def acctSaysUptoCard : Claim7 := { stood := { row := acctSaysUptoRow, standIns := [], harness := (true, "119014b8183ab12d53c4bdf234b52b9efa859f1358d5f00a2db2b33fb923e05d"), looks := false }, kinds := [], alts := [], laidByText := true, laidKinds := [.data, .pinned], laidTests := true, laidLooks := .later }
def AcctSaysUptoCardSaid : Prop := Claim7.holds Tryd.pinned (.plain (OpenSpec.upto acctSaysSpec)) acctSaysUptoCard

/-- THE SECOND FORM's CARD OF 'tallaw.EntrySays'. -/
def entrySaysUptoCard : Claim7 := { stood := { row := entrySaysUptoRow, standIns := [], harness := (true, "119014b8183ab12d53c4bdf234b52b9efa859f1358d5f00a2db2b33fb923e05d"), looks := false }, kinds := [], alts := [], laidByText := true, laidKinds := [.data, .pinned], laidTests := true, laidLooks := .later }
def EntrySaysUptoCardSaid : Prop := Claim7.holds Tryd.pinned (.plain (OpenSpec.upto entrySaysSpec)) entrySaysUptoCard

/-- THE SECOND FORM's CARD OF 'tallaw.TrialSays'. -/
def trialSaysUptoCard : Claim7 := { stood := { row := trialSaysUptoRow, standIns := [], harness := (true, "119014b8183ab12d53c4bdf234b52b9efa859f1358d5f00a2db2b33fb923e05d"), looks := false }, kinds := [], alts := [], laidByText := true, laidKinds := [.data, .pinned], laidTests := true, laidLooks := .later }
def TrialSaysUptoCardSaid : Prop := Claim7.holds Tryd.pinned (.plain (OpenSpec.upto trialSaysSpec)) trialSaysUptoCard

/-- THE SECOND FORM's CARD OF 'tallaw.BookTells'. -/
def bookTellsUptoCard : Claim7 := { stood := { row := bookTellsUptoRow, standIns := [], harness := (true, "119014b8183ab12d53c4bdf234b52b9efa859f1358d5f00a2db2b33fb923e05d"), looks := false }, kinds := [], alts := [], laidByText := true, laidKinds := [.data, .pinned], laidTests := true, laidLooks := .later }
def BookTellsUptoCardSaid : Prop := Claim7.holds Tryd.pinned (.plain (OpenSpec.upto bookTellsSpec)) bookTellsUptoCard

/-- THE SECOND FORM's CARD OF 'tallaw.JobSays'. -/
def jobSaysUptoCard : Claim7 := { stood := { row := jobSaysUptoRow, standIns := [], harness := (true, "119014b8183ab12d53c4bdf234b52b9efa859f1358d5f00a2db2b33fb923e05d"), looks := false }, kinds := [], alts := [], laidByText := true, laidKinds := [.data, .data, .pinned], laidTests := true, laidLooks := .later }
def JobSaysUptoCardSaid : Prop := Claim7.holds Tryd.pinned (.plain (OpenSpec.upto jobSaysSpec)) jobSaysUptoCard
end Rows
end Go.Proofs.YtdjdipehfnnhpaaDoor
