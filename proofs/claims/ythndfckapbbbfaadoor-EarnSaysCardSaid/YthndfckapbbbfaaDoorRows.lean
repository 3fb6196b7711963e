/-
  NARROWER THAN 'FOR EVERY INPUT', by the rows' own cells (each row's printed sentence says how): CountSays: laid · CalSays: laid · CalMoves: laid · EarnSays: laid.
  DERIVED. THE GIVEN ROWS OF THIS SEAT. 4 by the template 'for every input the law returns true; each argument reads behind the call as it read before'; 0 by the template 'total and deterministic' (their statements: YthndfckapbbbfaaDoorTotals.lean).
  GIVEN WITH THE SEED: the statements are not yours to turn. If you find one false, say at which input.
  Laid BY PROGRAM, IN A SANDBOX (cutbox-rows.mjs): the forced cells as the released guide's own fill.sh prints them over the translation b4c5c869ac9f2160… (all of the seat's roots in one cut). By AI agents, Wed Nov 11 2026. No macro, syntax, notation, axiom, sorry.
-/
import Derived.Test.YthndfckapbbbfaaDoorChecked
import GoSem.Claim
import GoSem.ClaimJoined
import GoSem.ClaimMapViews
import Derived.JoinedTies
import Derived.KernelRfl
namespace Go.Proofs.YthndfckapbbbfaaDoor
/- THE CELL 'sum', in the pinned program and in every row, IS THE sha256 OF THE DUMP (.gsa) THAT YthndfckapbbbfaaDoorProg.lean LOADS. Nothing in Lean hashes anything: it is a label: what it is worth is what the hold of that sum in a sandbox is worth. -/
noncomputable def Tryd.pinned : Pinned := { name := "ythndfckapbbbfaadoor", sum := "b4c5c869ac9f21601830fd4b85850cc903a0161887acc21c70814874661dea45", checked := Tryd.checked }
namespace Rows
def none {H : Type} : Left H := { results := [], args := [] }

/- WHAT THE LISTED PACKAGE-LEVEL VARIABLES READ AS WHEN THE CALL BEGINS. Each datum BY PROGRAM (the guide's laid-datum.mjs) off the statement by which the dump's own 'gosem.cut.vars' lays the variable. In a bare row this is a premise. The card (YthndfckapbbbfaaDoorCards.lean) ties it to the program's text. -/
def laid_tallage_cal_lengths {H : Type} : DataW H := .agg [.lit (.int .i64 0), .lit (.int .i64 31), .lit (.int .i64 28), .lit (.int .i64 31), .lit (.int .i64 30), .lit (.int .i64 31), .lit (.int .i64 30), .lit (.int .i64 31), .lit (.int .i64 31), .lit (.int .i64 30), .lit (.int .i64 31), .lit (.int .i64 30), .lit (.int .i64 31)]

/-- 'tallaw.CountSays': WHATEVER THE INPUT: true; the input reads as it did. -/
def countSaysSpec : ChangeSpec := { name := "countSays", fn := fun _ => fun
  | [d1, d2, d3] => { results := [.lit (.bool true)], args := [d1, d2, d3] }
  | _ => none }
def countSaysRow : OpenClaim := { program := "ythndfckapbbbfaadoor", sum := "b4c5c869ac9f21601830fd4b85850cc903a0161887acc21c70814874661dea45", func := "tallage/tallaw.CountSays", spec := "countSays", unfollowed := true, recurses := true, named := ["tallage/cal.lengths"], apart := false, laid := [("tallage/cal.lengths", laid_tallage_cal_lengths)] }
def CountSaysSaid : Prop := countSaysRow.holds Tryd.pinned (OpenSpec.ofChange countSaysSpec)

/-- ITS FALSE NEIGHBOUR: 'it returns false'. Refute it at one input. -/
def countSaysWrong : ChangeSpec := { name := "countSays", fn := fun _ => fun
  | [d1, d2, d3] => { results := [.lit (.bool false)], args := [d1, d2, d3] }
  | _ => none }
def CountSaysWrongFalsely : Prop := countSaysRow.holds Tryd.pinned (OpenSpec.ofChange countSaysWrong)

/-- 'tallaw.CalSays': WHATEVER THE INPUT: true; the input reads as it did. -/
def calSaysSpec : ChangeSpec := { name := "calSays", fn := fun _ => fun
  | [d1, d2] => { results := [.lit (.bool true)], args := [d1, d2] }
  | _ => none }
def calSaysRow : OpenClaim := { program := "ythndfckapbbbfaadoor", sum := "b4c5c869ac9f21601830fd4b85850cc903a0161887acc21c70814874661dea45", func := "tallage/tallaw.CalSays", spec := "calSays", named := ["tallage/cal.lengths"], apart := false, laid := [("tallage/cal.lengths", laid_tallage_cal_lengths)] }
def CalSaysSaid : Prop := calSaysRow.holds Tryd.pinned (OpenSpec.ofChange calSaysSpec)

/-- ITS FALSE NEIGHBOUR: 'it returns false'. Refute it at one input. -/
def calSaysWrong : ChangeSpec := { name := "calSays", fn := fun _ => fun
  | [d1, d2] => { results := [.lit (.bool false)], args := [d1, d2] }
  | _ => none }
def CalSaysWrongFalsely : Prop := calSaysRow.holds Tryd.pinned (OpenSpec.ofChange calSaysWrong)

/-- 'tallaw.CalMoves': WHATEVER THE INPUT: true; the input reads as it did. -/
def calMovesSpec : ChangeSpec := { name := "calMoves", fn := fun _ => fun
  | [d1, d2, d3] => { results := [.lit (.bool true)], args := [d1, d2, d3] }
  | _ => none }
def calMovesRow : OpenClaim := { program := "ythndfckapbbbfaadoor", sum := "b4c5c869ac9f21601830fd4b85850cc903a0161887acc21c70814874661dea45", func := "tallage/tallaw.CalMoves", spec := "calMoves", named := ["tallage/cal.lengths"], apart := false, laid := [("tallage/cal.lengths", laid_tallage_cal_lengths)] }
def CalMovesSaid : Prop := calMovesRow.holds Tryd.pinned (OpenSpec.ofChange calMovesSpec)

/-- ITS FALSE NEIGHBOUR: 'it returns false'. Refute it at one input. -/
def calMovesWrong : ChangeSpec := { name := "calMoves", fn := fun _ => fun
  | [d1, d2, d3] => { results := [.lit (.bool false)], args := [d1, d2, d3] }
  | _ => none }
def CalMovesWrongFalsely : Prop := calMovesRow.holds Tryd.pinned (OpenSpec.ofChange calMovesWrong)

/-- 'tallaw.EarnSays': WHATEVER THE INPUT: true; the input reads as it did. -/
def earnSaysSpec : ChangeSpec := { name := "earnSays", fn := fun _ => fun
  | [d1, d2, d3, d4] => { results := [.lit (.bool true)], args := [d1, d2, d3, d4] }
  | _ => none }
def earnSaysRow : OpenClaim := { program := "ythndfckapbbbfaadoor", sum := "b4c5c869ac9f21601830fd4b85850cc903a0161887acc21c70814874661dea45", func := "tallage/tallaw.EarnSays", spec := "earnSays", unfollowed := true, recurses := true, named := ["tallage/cal.lengths"], apart := false, laid := [("tallage/cal.lengths", laid_tallage_cal_lengths)] }
def EarnSaysSaid : Prop := earnSaysRow.holds Tryd.pinned (OpenSpec.ofChange earnSaysSpec)

/-- ITS FALSE NEIGHBOUR: 'it returns false'. Refute it at one input. -/
def earnSaysWrong : ChangeSpec := { name := "earnSays", fn := fun _ => fun
  | [d1, d2, d3, d4] => { results := [.lit (.bool false)], args := [d1, d2, d3, d4] }
  | _ => none }
def EarnSaysWrongFalsely : Prop := earnSaysRow.holds Tryd.pinned (OpenSpec.ofChange earnSaysWrong)

/- THE SECOND FORM. 'bulk': how many values and letters a reading holds, each counted each time it is reached (what is shared counts as often as it is met; a slice's spare places count too). A statement '..UptoSaid' is the law's where the arguments, and the package variables that the reading takes, are together of bulk at most 1048576: NARROWER than '..Said'. Prove '..Said' where nothing that the law and all that it calls make is longer than what came in: it says more and counts as full. Else prove '..UptoSaid'. A law counts once. -/
mutual
def uptoBulk {H : Type} : DataW H → Nat
  | .lit (.string bytes) => bytes.length + 1
  | .lit _ => 1
  | .nil => 1
  | .ptr d => uptoBulk d + 1
  | .slice elems spare => uptoBulkAll elems + uptoBulkAll spare + 1
  | .agg parts => uptoBulkAll parts + 1
  | .iface _ d => uptoBulk d + 1
  | .map entries => uptoBulkEntries entries + 1
  | .held _ => 1
def uptoBulkAll {H : Type} : List (DataW H) → Nat
  | [] => 0
  | d :: r => uptoBulk d + uptoBulkAll r
def uptoBulkEntries {H : Type} : List (Lit × DataW H) → Nat
  | [] => 0
  | x :: r => uptoBulkEntry x + uptoBulkEntries r
def uptoBulkEntry {H : Type} : Lit × DataW H → Nat
  | (.string bytes, d) => bytes.length + uptoBulk d + 1
  | (_, d) => uptoBulk d + 1
 end
def uptoSmall : (H : Type) → List (DataW H) → Bool := fun _ ds => decide (uptoBulkAll ds ≤ 1048576)
def OpenSpec.upto (s : _root_.Go.ChangeSpec) : _root_.Go.OpenSpec := { _root_.Go.OpenSpec.ofChange s with cond := some uptoSmall }

/-- 'tallaw.CountSays', WHERE WHAT IT READS IS OF BULK AT MOST 1048576: true; the input reads as it did. -/
def countSaysUptoRow : OpenClaim := { program := "ythndfckapbbbfaadoor", sum := "b4c5c869ac9f21601830fd4b85850cc903a0161887acc21c70814874661dea45", func := "tallage/tallaw.CountSays", spec := "countSays", unfollowed := true, recurses := true, named := ["tallage/cal.lengths"], apart := false, laid := [("tallage/cal.lengths", laid_tallage_cal_lengths)], narrowed := true }
def CountSaysUptoSaid : Prop := countSaysUptoRow.holds Tryd.pinned (OpenSpec.upto countSaysSpec)

/-- 'tallaw.CalSays', WHERE WHAT IT READS IS OF BULK AT MOST 1048576: true; the input reads as it did. -/
def calSaysUptoRow : OpenClaim := { program := "ythndfckapbbbfaadoor", sum := "b4c5c869ac9f21601830fd4b85850cc903a0161887acc21c70814874661dea45", func := "tallage/tallaw.CalSays", spec := "calSays", named := ["tallage/cal.lengths"], apart := false, laid := [("tallage/cal.lengths", laid_tallage_cal_lengths)], narrowed := true }
def CalSaysUptoSaid : Prop := calSaysUptoRow.holds Tryd.pinned (OpenSpec.upto calSaysSpec)

/-- 'tallaw.CalMoves', WHERE WHAT IT READS IS OF BULK AT MOST 1048576: true; the input reads as it did. -/
def calMovesUptoRow : OpenClaim := { program := "ythndfckapbbbfaadoor", sum := "b4c5c869ac9f21601830fd4b85850cc903a0161887acc21c70814874661dea45", func := "tallage/tallaw.CalMoves", spec := "calMoves", named := ["tallage/cal.lengths"], apart := false, laid := [("tallage/cal.lengths", laid_tallage_cal_lengths)], narrowed := true }
def CalMovesUptoSaid : Prop := calMovesUptoRow.holds Tryd.pinned (OpenSpec.upto calMovesSpec)

/-- 'tallaw.EarnSays', WHERE WHAT IT READS IS OF BULK AT MOST 1048576: true; the input reads as it did. -/
def earnSaysUptoRow : OpenClaim := { program := "ythndfckapbbbfaadoor", sum := "b4c5c869ac9f21601830fd4b85850cc903a0161887acc21c70814874661dea45", func := "tallage/tallaw.EarnSays", spec := "earnSays", unfollowed := true, recurses := true, named := ["tallage/cal.lengths"], apart := false, laid := [("tallage/cal.lengths", laid_tallage_cal_lengths)], narrowed := true }
def EarnSaysUptoSaid : Prop := earnSaysUptoRow.holds Tryd.pinned (OpenSpec.upto earnSaysSpec)

end Rows
end Go.Proofs.YthndfckapbbbfaaDoor
