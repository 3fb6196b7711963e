/-
  No cell of these rows narrows 'for every input' (looked for: loops, veiled, ifaces, maps, wideKeys, modest, calm, conditions, laid).
  DERIVED. THE GIVEN ROWS OF THIS SEAT. 10 by the template 'for every input the law returns true; each argument reads behind the call as it read before'; 0 by the template 'total and deterministic' (their statements: YthndfckapbbbfaaTotals.lean).
  GIVEN WITH THE SEED: the statements are not yours to turn. If you find one false, say at which input.
  Laid BY PROGRAM, IN A SANDBOX (cutbox-rows.mjs): the forced cells as the released guide's own fill.sh prints them over the translation f35a695fd126c3d0… (all of the seat's roots in one cut). By AI agents, Wed Nov 11 2026. No macro, syntax, notation, axiom, sorry.
-/
import Derived.Test.YthndfckapbbbfaaChecked
import GoSem.Claim
import GoSem.ClaimJoined
import GoSem.ClaimMapViews
import Derived.JoinedTies
import Derived.KernelRfl
namespace Go.Proofs.Ythndfckapbbbfaa
/- THE CELL 'sum', in the pinned program and in every row, IS THE sha256 OF THE DUMP (.gsa) THAT YthndfckapbbbfaaProg.lean LOADS. Nothing in Lean hashes anything: it is a label: what it is worth is what the hold of that sum in a sandbox is worth. -/
noncomputable def Try.pinned : Pinned := { name := "ythndfckapbbbfaa", sum := "f35a695fd126c3d0df668f73df42bc5bdb8f08567d399298de10b73a1bc258ef", checked := Try.checked }
namespace Rows
def none {H : Type} : Left H := { results := [], args := [] }

/-- 'tallaw.Names': WHATEVER THE INPUT: true; the input reads as it did. -/
def namesSpec : ChangeSpec := { name := "names", fn := fun _ => fun
  | [] => { results := [.lit (.bool true)], args := [] }
  | _ => none }
def namesRow : OpenClaim := { program := "ythndfckapbbbfaa", sum := "f35a695fd126c3d0df668f73df42bc5bdb8f08567d399298de10b73a1bc258ef", func := "tallage/tallaw.Names", spec := "names", apart := false }
def NamesSaid : Prop := namesRow.holds Try.pinned (OpenSpec.ofChange namesSpec)

/-- ITS FALSE NEIGHBOUR: 'it returns false'. Refute it at one input. -/
def namesWrong : ChangeSpec := { name := "names", fn := fun _ => fun
  | [] => { results := [.lit (.bool false)], args := [] }
  | _ => none }
def NamesWrongFalsely : Prop := namesRow.holds Try.pinned (OpenSpec.ofChange namesWrong)

/-- 'tallaw.MoneySays': WHATEVER THE INPUT: true; the input reads as it did. -/
def moneySaysSpec : ChangeSpec := { name := "moneySays", fn := fun _ => fun
  | [d1, d2, d3] => { results := [.lit (.bool true)], args := [d1, d2, d3] }
  | _ => none }
def moneySaysRow : OpenClaim := { program := "ythndfckapbbbfaa", sum := "f35a695fd126c3d0df668f73df42bc5bdb8f08567d399298de10b73a1bc258ef", func := "tallage/tallaw.MoneySays", spec := "moneySays", apart := false }
def MoneySaysSaid : Prop := moneySaysRow.holds Try.pinned (OpenSpec.ofChange moneySaysSpec)

/-- ITS FALSE NEIGHBOUR: 'it returns false'. Refute it at one input. -/
def moneySaysWrong : ChangeSpec := { name := "moneySays", fn := fun _ => fun
  | [d1, d2, d3] => { results := [.lit (.bool false)], args := [d1, d2, d3] }
  | _ => none }
def MoneySaysWrongFalsely : Prop := moneySaysRow.holds Try.pinned (OpenSpec.ofChange moneySaysWrong)

/-- 'tallaw.FracRounds': WHATEVER THE INPUT: true; the input reads as it did. -/
def fracRoundsSpec : ChangeSpec := { name := "fracRounds", fn := fun _ => fun
  | [d1, d2, d3] => { results := [.lit (.bool true)], args := [d1, d2, d3] }
  | _ => none }
def fracRoundsRow : OpenClaim := { program := "ythndfckapbbbfaa", sum := "f35a695fd126c3d0df668f73df42bc5bdb8f08567d399298de10b73a1bc258ef", func := "tallage/tallaw.FracRounds", spec := "fracRounds", apart := false }
def FracRoundsSaid : Prop := fracRoundsRow.holds Try.pinned (OpenSpec.ofChange fracRoundsSpec)

/-- ITS FALSE NEIGHBOUR: 'it returns false'. Refute it at one input. -/
def fracRoundsWrong : ChangeSpec := { name := "fracRounds", fn := fun _ => fun
  | [d1, d2, d3] => { results := [.lit (.bool false)], args := [d1, d2, d3] }
  | _ => none }
def FracRoundsWrongFalsely : Prop := fracRoundsRow.holds Try.pinned (OpenSpec.ofChange fracRoundsWrong)

/-- 'tallaw.LineSays': WHATEVER THE INPUT: true; the input reads as it did. -/
def lineSaysSpec : ChangeSpec := { name := "lineSays", fn := fun _ => fun
  | [d1, d2, d3] => { results := [.lit (.bool true)], args := [d1, d2, d3] }
  | _ => none }
def lineSaysRow : OpenClaim := { program := "ythndfckapbbbfaa", sum := "f35a695fd126c3d0df668f73df42bc5bdb8f08567d399298de10b73a1bc258ef", func := "tallage/tallaw.LineSays", spec := "lineSays", unfollowed := true, recurses := true, apart := false }
def LineSaysSaid : Prop := lineSaysRow.holds Try.pinned (OpenSpec.ofChange lineSaysSpec)

/-- ITS FALSE NEIGHBOUR: 'it returns false'. Refute it at one input. -/
def lineSaysWrong : ChangeSpec := { name := "lineSays", fn := fun _ => fun
  | [d1, d2, d3] => { results := [.lit (.bool false)], args := [d1, d2, d3] }
  | _ => none }
def LineSaysWrongFalsely : Prop := lineSaysRow.holds Try.pinned (OpenSpec.ofChange lineSaysWrong)

/-- 'tallaw.FracSays': WHATEVER THE INPUT: true; the input reads as it did. -/
def fracSaysSpec : ChangeSpec := { name := "fracSays", fn := fun _ => fun
  | [d1, d2] => { results := [.lit (.bool true)], args := [d1, d2] }
  | _ => none }
def fracSaysRow : OpenClaim := { program := "ythndfckapbbbfaa", sum := "f35a695fd126c3d0df668f73df42bc5bdb8f08567d399298de10b73a1bc258ef", func := "tallage/tallaw.FracSays", spec := "fracSays", recurses := true, apart := false }
def FracSaysSaid : Prop := fracSaysRow.holds Try.pinned (OpenSpec.ofChange fracSaysSpec)

/-- ITS FALSE NEIGHBOUR: 'it returns false'. Refute it at one input. -/
def fracSaysWrong : ChangeSpec := { name := "fracSays", fn := fun _ => fun
  | [d1, d2] => { results := [.lit (.bool false)], args := [d1, d2] }
  | _ => none }
def FracSaysWrongFalsely : Prop := fracSaysRow.holds Try.pinned (OpenSpec.ofChange fracSaysWrong)

/-- 'tallaw.FallSays': WHATEVER THE INPUT: true; the input reads as it did. -/
def fallSaysSpec : ChangeSpec := { name := "fallSays", fn := fun _ => fun
  | [d1, d2, d3, d4, d5, d6] => { results := [.lit (.bool true)], args := [d1, d2, d3, d4, d5, d6] }
  | _ => none }
def fallSaysRow : OpenClaim := { program := "ythndfckapbbbfaa", sum := "f35a695fd126c3d0df668f73df42bc5bdb8f08567d399298de10b73a1bc258ef", func := "tallage/tallaw.FallSays", spec := "fallSays", unfollowed := true, recurses := true, apart := false }
def FallSaysSaid : Prop := fallSaysRow.holds Try.pinned (OpenSpec.ofChange fallSaysSpec)

/-- ITS FALSE NEIGHBOUR: 'it returns false'. Refute it at one input. -/
def fallSaysWrong : ChangeSpec := { name := "fallSays", fn := fun _ => fun
  | [d1, d2, d3, d4, d5, d6] => { results := [.lit (.bool false)], args := [d1, d2, d3, d4, d5, d6] }
  | _ => none }
def FallSaysWrongFalsely : Prop := fallSaysRow.holds Try.pinned (OpenSpec.ofChange fallSaysWrong)

/-- 'tallaw.NoteSays': WHATEVER THE INPUT: true; the input reads as it did. -/
def noteSaysSpec : ChangeSpec := { name := "noteSays", fn := fun _ => fun
  | [d1, d2, d3, d4] => { results := [.lit (.bool true)], args := [d1, d2, d3, d4] }
  | _ => none }
def noteSaysRow : OpenClaim := { program := "ythndfckapbbbfaa", sum := "f35a695fd126c3d0df668f73df42bc5bdb8f08567d399298de10b73a1bc258ef", func := "tallage/tallaw.NoteSays", spec := "noteSays", unfollowed := true, recurses := true, apart := false }
def NoteSaysSaid : Prop := noteSaysRow.holds Try.pinned (OpenSpec.ofChange noteSaysSpec)

/-- ITS FALSE NEIGHBOUR: 'it returns false'. Refute it at one input. -/
def noteSaysWrong : ChangeSpec := { name := "noteSays", fn := fun _ => fun
  | [d1, d2, d3, d4] => { results := [.lit (.bool false)], args := [d1, d2, d3, d4] }
  | _ => none }
def NoteSaysWrongFalsely : Prop := noteSaysRow.holds Try.pinned (OpenSpec.ofChange noteSaysWrong)

/-- 'tallaw.StockSays': WHATEVER THE INPUT: true; the input reads as it did. -/
def stockSaysSpec : ChangeSpec := { name := "stockSays", fn := fun _ => fun
  | [d] => { results := [.lit (.bool true)], args := [d] }
  | _ => none }
def stockSaysRow : OpenClaim := { program := "ythndfckapbbbfaa", sum := "f35a695fd126c3d0df668f73df42bc5bdb8f08567d399298de10b73a1bc258ef", func := "tallage/tallaw.StockSays", spec := "stockSays", apart := false }
def StockSaysSaid : Prop := stockSaysRow.holds Try.pinned (OpenSpec.ofChange stockSaysSpec)

/-- ITS FALSE NEIGHBOUR: 'it returns false'. Refute it at one input. -/
def stockSaysWrong : ChangeSpec := { name := "stockSays", fn := fun _ => fun
  | [d] => { results := [.lit (.bool false)], args := [d] }
  | _ => none }
def StockSaysWrongFalsely : Prop := stockSaysRow.holds Try.pinned (OpenSpec.ofChange stockSaysWrong)

/-- 'tallaw.SplitSays': WHATEVER THE INPUT: true; the input reads as it did. -/
def splitSaysSpec : ChangeSpec := { name := "splitSays", fn := fun _ => fun
  | [d1, d2, d3] => { results := [.lit (.bool true)], args := [d1, d2, d3] }
  | _ => none }
def splitSaysRow : OpenClaim := { program := "ythndfckapbbbfaa", sum := "f35a695fd126c3d0df668f73df42bc5bdb8f08567d399298de10b73a1bc258ef", func := "tallage/tallaw.SplitSays", spec := "splitSays", unfollowed := true, recurses := true, apart := false }
def SplitSaysSaid : Prop := splitSaysRow.holds Try.pinned (OpenSpec.ofChange splitSaysSpec)

/-- ITS FALSE NEIGHBOUR: 'it returns false'. Refute it at one input. -/
def splitSaysWrong : ChangeSpec := { name := "splitSays", fn := fun _ => fun
  | [d1, d2, d3] => { results := [.lit (.bool false)], args := [d1, d2, d3] }
  | _ => none }
def SplitSaysWrongFalsely : Prop := splitSaysRow.holds Try.pinned (OpenSpec.ofChange splitSaysWrong)

/-- 'tallaw.SeatsSay': WHATEVER THE INPUT: true; the input reads as it did. -/
def seatsSaySpec : ChangeSpec := { name := "seatsSay", fn := fun _ => fun
  | [d1, d2, d3] => { results := [.lit (.bool true)], args := [d1, d2, d3] }
  | _ => none }
def seatsSayRow : OpenClaim := { program := "ythndfckapbbbfaa", sum := "f35a695fd126c3d0df668f73df42bc5bdb8f08567d399298de10b73a1bc258ef", func := "tallage/tallaw.SeatsSay", spec := "seatsSay", inPlace := ["internal/reflectlite.ValueOf", "internal/reflectlite.Swapper", "(internal/reflectlite.Value).Len"], unfollowed := true, recurses := true, apart := false }
def SeatsSaySaid : Prop := seatsSayRow.holds Try.pinned (OpenSpec.ofChange seatsSaySpec)

/-- ITS FALSE NEIGHBOUR: 'it returns false'. Refute it at one input. -/
def seatsSayWrong : ChangeSpec := { name := "seatsSay", fn := fun _ => fun
  | [d1, d2, d3] => { results := [.lit (.bool false)], args := [d1, d2, d3] }
  | _ => none }
def SeatsSayWrongFalsely : Prop := seatsSayRow.holds Try.pinned (OpenSpec.ofChange seatsSayWrong)

/- THE SECOND FORM. 'bulk': how many values and letters a reading holds, each counted each time it is reached (what is shared counts as often as it is met; a slice's spare places count too). A statement '..UptoSaid' is the law's where the arguments, and the package variables that the reading takes, are together of bulk at most 1048576: NARROWER than '..Said'. Prove '..Said' where nothing that the law and all that it calls make is longer than what came in: it says more and counts as full. Else prove '..UptoSaid'. A law counts once. -/
mutual
def uptoBulk {H : Type} : DataW H → Nat
  | .lit (.string bytes) => bytes.length + 1
  | .lit _ => 1
  | .nil => 1
  | .ptr d => uptoBulk d + 1
  | .slice elems spare => uptoBulkAll elems + uptoBulkAll spare + 1
  | .agg parts => uptoBulkAll parts + 1
  | .iface _ d => uptoBulk d + 1
  | .map entries => uptoBulkEntries entries + 1
  | .held _ => 1
def uptoBulkAll {H : Type} : List (DataW H) → Nat
  | [] => 0
  | d :: r => uptoBulk d + uptoBulkAll r
def uptoBulkEntries {H : Type} : List (Lit × DataW H) → Nat
  | [] => 0
  | x :: r => uptoBulkEntry x + uptoBulkEntries r
def uptoBulkEntry {H : Type} : Lit × DataW H → Nat
  | (.string bytes, d) => bytes.length + uptoBulk d + 1
  | (_, d) => uptoBulk d + 1
 end
def uptoSmall : (H : Type) → List (DataW H) → Bool := fun _ ds => decide (uptoBulkAll ds ≤ 1048576)
def OpenSpec.upto (s : _root_.Go.ChangeSpec) : _root_.Go.OpenSpec := { _root_.Go.OpenSpec.ofChange s with cond := some uptoSmall }

/-- 'tallaw.Names', WHERE WHAT IT READS IS OF BULK AT MOST 1048576: true; the input reads as it did. -/
def namesUptoRow : OpenClaim := { program := "ythndfckapbbbfaa", sum := "f35a695fd126c3d0df668f73df42bc5bdb8f08567d399298de10b73a1bc258ef", func := "tallage/tallaw.Names", spec := "names", apart := false, narrowed := true }
def NamesUptoSaid : Prop := namesUptoRow.holds Try.pinned (OpenSpec.upto namesSpec)

/-- 'tallaw.MoneySays', WHERE WHAT IT READS IS OF BULK AT MOST 1048576: true; the input reads as it did. -/
def moneySaysUptoRow : OpenClaim := { program := "ythndfckapbbbfaa", sum := "f35a695fd126c3d0df668f73df42bc5bdb8f08567d399298de10b73a1bc258ef", func := "tallage/tallaw.MoneySays", spec := "moneySays", apart := false, narrowed := true }
def MoneySaysUptoSaid : Prop := moneySaysUptoRow.holds Try.pinned (OpenSpec.upto moneySaysSpec)

/-- 'tallaw.FracRounds', WHERE WHAT IT READS IS OF BULK AT MOST 1048576: true; the input reads as it did. -/
def fracRoundsUptoRow : OpenClaim := { program := "ythndfckapbbbfaa", sum := "f35a695fd126c3d0df668f73df42bc5bdb8f08567d399298de10b73a1bc258ef", func := "tallage/tallaw.FracRounds", spec := "fracRounds", apart := false, narrowed := true }
def FracRoundsUptoSaid : Prop := fracRoundsUptoRow.holds Try.pinned (OpenSpec.upto fracRoundsSpec)

/-- 'tallaw.LineSays', WHERE WHAT IT READS IS OF BULK AT MOST 1048576: true; the input reads as it did. -/
def lineSaysUptoRow : OpenClaim := { program := "ythndfckapbbbfaa", sum := "f35a695fd126c3d0df668f73df42bc5bdb8f08567d399298de10b73a1bc258ef", func := "tallage/tallaw.LineSays", spec := "lineSays", unfollowed := true, recurses := true, apart := false, narrowed := true }
def LineSaysUptoSaid : Prop := lineSaysUptoRow.holds Try.pinned (OpenSpec.upto lineSaysSpec)

/-- 'tallaw.FracSays', WHERE WHAT IT READS IS OF BULK AT MOST 1048576: true; the input reads as it did. -/
def fracSaysUptoRow : OpenClaim := { program := "ythndfckapbbbfaa", sum := "f35a695fd126c3d0df668f73df42bc5bdb8f08567d399298de10b73a1bc258ef", func := "tallage/tallaw.FracSays", spec := "fracSays", recurses := true, apart := false, narrowed := true }
def FracSaysUptoSaid : Prop := fracSaysUptoRow.holds Try.pinned (OpenSpec.upto fracSaysSpec)

/-- 'tallaw.FallSays', WHERE WHAT IT READS IS OF BULK AT MOST 1048576: true; the input reads as it did. -/
def fallSaysUptoRow : OpenClaim := { program := "ythndfckapbbbfaa", sum := "f35a695fd126c3d0df668f73df42bc5bdb8f08567d399298de10b73a1bc258ef", func := "tallage/tallaw.FallSays", spec := "fallSays", unfollowed := true, recurses := true, apart := false, narrowed := true }
def FallSaysUptoSaid : Prop := fallSaysUptoRow.holds Try.pinned (OpenSpec.upto fallSaysSpec)

/-- 'tallaw.NoteSays', WHERE WHAT IT READS IS OF BULK AT MOST 1048576: true; the input reads as it did. -/
def noteSaysUptoRow : OpenClaim := { program := "ythndfckapbbbfaa", sum := "f35a695fd126c3d0df668f73df42bc5bdb8f08567d399298de10b73a1bc258ef", func := "tallage/tallaw.NoteSays", spec := "noteSays", unfollowed := true, recurses := true, apart := false, narrowed := true }
def NoteSaysUptoSaid : Prop := noteSaysUptoRow.holds Try.pinned (OpenSpec.upto noteSaysSpec)

/-- 'tallaw.StockSays', WHERE WHAT IT READS IS OF BULK AT MOST 1048576: true; the input reads as it did. -/
def stockSaysUptoRow : OpenClaim := { program := "ythndfckapbbbfaa", sum := "f35a695fd126c3d0df668f73df42bc5bdb8f08567d399298de10b73a1bc258ef", func := "tallage/tallaw.StockSays", spec := "stockSays", apart := false, narrowed := true }
def StockSaysUptoSaid : Prop := stockSaysUptoRow.holds Try.pinned (OpenSpec.upto stockSaysSpec)

/-- 'tallaw.SplitSays', WHERE WHAT IT READS IS OF BULK AT MOST 1048576: true; the input reads as it did. -/
def splitSaysUptoRow : OpenClaim := { program := "ythndfckapbbbfaa", sum := "f35a695fd126c3d0df668f73df42bc5bdb8f08567d399298de10b73a1bc258ef", func := "tallage/tallaw.SplitSays", spec := "splitSays", unfollowed := true, recurses := true, apart := false, narrowed := true }
def SplitSaysUptoSaid : Prop := splitSaysUptoRow.holds Try.pinned (OpenSpec.upto splitSaysSpec)

/-- 'tallaw.SeatsSay', WHERE WHAT IT READS IS OF BULK AT MOST 1048576: true; the input reads as it did. -/
def seatsSayUptoRow : OpenClaim := { program := "ythndfckapbbbfaa", sum := "f35a695fd126c3d0df668f73df42bc5bdb8f08567d399298de10b73a1bc258ef", func := "tallage/tallaw.SeatsSay", spec := "seatsSay", inPlace := ["internal/reflectlite.ValueOf", "internal/reflectlite.Swapper", "(internal/reflectlite.Value).Len"], unfollowed := true, recurses := true, apart := false, narrowed := true }
def SeatsSayUptoSaid : Prop := seatsSayUptoRow.holds Try.pinned (OpenSpec.upto seatsSaySpec)

end Rows
end Go.Proofs.Ythndfckapbbbfaa
