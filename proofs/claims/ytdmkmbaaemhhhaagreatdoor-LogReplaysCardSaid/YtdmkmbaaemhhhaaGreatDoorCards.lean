/-
  DERIVED. GIVEN WITH THE SEED: THE CARDS: each row of YtdmkmbaaemhhhaaGreatDoorRows.lean that lists a variable, with what it lists TIED to the program's text (the seventh form; the later family's looks); each row that meets fmt, with fmt's text TOLD by the authors' own Lean function (tested against real Go, not proved from fmt's source: count such statements apart). THE CARD IS WHAT COUNTS. Prove the row's statement (the work); the ties are given (YtdmkmbaaemhhhaaGreatDoorTie.lean); close each card by the builder's one call (the guide's Derived/Test/ToyasCard.lean, 'card_holds'). Laid BY PROGRAM, IN A SANDBOX (cutbox-door.mjs). By AI agents, Wed Nov 11 2026. No macro, syntax, notation, axiom, sorry.
-/
import Derived.Test.YtdmkmbaaemhhhaaGreatDoorRows
import GoSem.ClaimSeven
namespace Go.Proofs.YtdmkmbaaemhhhaaGreatDoor
namespace Rows

/-- THE TIED CARD OF 'tallaw.BookSays'. -/
def bookSaysCard : Claim7 := { stood := { row := bookSaysRow, standIns := [], harness := (true, "35bab80b6772b2322e447361ed8d980666b09a595e57576bc694d2a49885555b"), looks := true }, kinds := [], alts := [], laidByText := true, laidKinds := [.data, .pinned], laidTests := true, laidLooks := .later }
def BookSaysCardSaid : Prop := Claim7.holds Tryz.pinned (.plain (OpenSpec.ofChange bookSaysSpec)) bookSaysCard

/-- THE TIED CARD OF 'tallaw.ClosingSays'. -/
def closingSaysCard : Claim7 := { stood := { row := closingSaysRow, standIns := [], harness := (true, "35bab80b6772b2322e447361ed8d980666b09a595e57576bc694d2a49885555b"), looks := true }, kinds := [], alts := [], laidByText := true, laidKinds := [.data, .pinned], laidTests := true, laidLooks := .later }
def ClosingSaysCardSaid : Prop := Claim7.holds Tryz.pinned (.plain (OpenSpec.ofChange closingSaysSpec)) closingSaysCard

/-- THE TIED CARD OF 'tallaw.LogSays'. -/
def logSaysCard : Claim7 := { stood := { row := logSaysRow, standIns := [], harness := (true, "35bab80b6772b2322e447361ed8d980666b09a595e57576bc694d2a49885555b"), looks := true }, kinds := [], alts := [], laidByText := true, laidKinds := [.data, .data, .data, .data, .sentinel, .sentinel, .pinned], laidTests := true, laidLooks := .later }
def LogSaysCardSaid : Prop := Claim7.holds Tryz.pinned (.plain (OpenSpec.ofChange logSaysSpec)) logSaysCard

/-- THE TIED CARD OF 'tallaw.JobRuns'. -/
def jobRunsCard : Claim7 := { stood := { row := jobRunsRow, standIns := [], harness := (true, "35bab80b6772b2322e447361ed8d980666b09a595e57576bc694d2a49885555b"), looks := true }, kinds := [], alts := [], laidByText := true, laidKinds := [.data, .data, .pinned], laidTests := true, laidLooks := .later }
def JobRunsCardSaid : Prop := Claim7.holds Tryz.pinned (.plain (OpenSpec.ofChange jobRunsSpec)) jobRunsCard

/-- THE TIED CARD OF 'tallaw.LogReplays'. -/
def logReplaysCard : Claim7 := { stood := { row := logReplaysRow, standIns := [], harness := (true, "35bab80b6772b2322e447361ed8d980666b09a595e57576bc694d2a49885555b"), looks := true }, kinds := [], alts := [], laidByText := true, laidKinds := [.data, .data, .data, .data, .sentinel, .sentinel, .pinned], laidTests := true, laidLooks := .later }
def LogReplaysCardSaid : Prop := Claim7.holds Tryz.pinned (.plain (OpenSpec.ofChange logReplaysSpec)) logReplaysCard

/-- THE SECOND FORM's CARD OF 'tallaw.BookSays'. -/
def bookSaysUptoCard : Claim7 := { stood := { row := bookSaysUptoRow, standIns := [], harness := (true, "35bab80b6772b2322e447361ed8d980666b09a595e57576bc694d2a49885555b"), looks := true }, kinds := [], alts := [], laidByText := true, laidKinds := [.data, .pinned], laidTests := true, laidLooks := .later }
def BookSaysUptoCardSaid : Prop := Claim7.holds Tryz.pinned (.plain (OpenSpec.upto bookSaysSpec)) bookSaysUptoCard

/-- THE SECOND FORM's CARD OF 'tallaw.ClosingSays'. -/
def closingSaysUptoCard : Claim7 := { stood := { row := closingSaysUptoRow, standIns := [], harness := (true, "35bab80b6772b2322e447361ed8d980666b09a595e57576bc694d2a49885555b"), looks := true }, kinds := [], alts := [], laidByText := true, laidKinds := [.data, .pinned], laidTests := true, laidLooks := .later }
def ClosingSaysUptoCardSaid : Prop := Claim7.holds Tryz.pinned (.plain (OpenSpec.upto closingSaysSpec)) closingSaysUptoCard

/-- THE SECOND FORM's CARD OF 'tallaw.LogSays'. -/
def logSaysUptoCard : Claim7 := { stood := { row := logSaysUptoRow, standIns := [], harness := (true, "35bab80b6772b2322e447361ed8d980666b09a595e57576bc694d2a49885555b"), looks := true }, kinds := [], alts := [], laidByText := true, laidKinds := [.data, .data, .data, .data, .sentinel, .sentinel, .pinned], laidTests := true, laidLooks := .later }
def LogSaysUptoCardSaid : Prop := Claim7.holds Tryz.pinned (.plain (OpenSpec.upto logSaysSpec)) logSaysUptoCard

/-- THE SECOND FORM's CARD OF 'tallaw.JobRuns'. -/
def jobRunsUptoCard : Claim7 := { stood := { row := jobRunsUptoRow, standIns := [], harness := (true, "35bab80b6772b2322e447361ed8d980666b09a595e57576bc694d2a49885555b"), looks := true }, kinds := [], alts := [], laidByText := true, laidKinds := [.data, .data, .pinned], laidTests := true, laidLooks := .later }
def JobRunsUptoCardSaid : Prop := Claim7.holds Tryz.pinned (.plain (OpenSpec.upto jobRunsSpec)) jobRunsUptoCard

/-- THE SECOND FORM's CARD OF 'tallaw.LogReplays'. -/
def logReplaysUptoCard : Claim7 := { stood := { row := logReplaysUptoRow, standIns := [], harness := (true, "35bab80b6772b2322e447361ed8d980666b09a595e57576bc694d2a49885555b"), looks := true }, kinds := [], alts := [], laidByText := true, laidKinds := [.data, .data, .data, .data, .sentinel, .sentinel, .pinned], laidTests := true, laidLooks := .later }
def LogReplaysUptoCardSaid : Prop := Claim7.holds Tryz.pinned (.plain (OpenSpec.upto logReplaysSpec)) logReplaysUptoCard
end Rows
end Go.Proofs.YtdmkmbaaemhhhaaGreatDoor
