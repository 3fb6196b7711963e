/-
  NARROWER THAN 'FOR EVERY INPUT', by the rows' own cells (each row's printed sentence says how): TopEarned: laid · AcctSays: laid · EntrySays: laid · TrialSays: laid · BookTells: laid · JobSays: laid.
  DERIVED. THE GIVEN ROWS OF THIS SEAT. 6 by the template 'for every input the law returns true; each argument reads behind the call as it read before'; 0 by the template 'total and deterministic' (their statements: YtdjdipehfnnhpaaDoorTotals.lean).
  GIVEN WITH THE SEED: the statements are not yours to turn. If you find one false, say at which input.
  Laid BY PROGRAM, IN A SANDBOX (cutbox-rows.mjs): the forced cells as the released guide's own fill.sh prints them over the translation 8bac68b0e36a3997… (all of the seat's roots in one cut). By AI agents, Wed Nov 11 2026. No macro, syntax, notation, axiom, sorry.
-/
import Derived.Test.YtdjdipehfnnhpaaDoorChecked
import GoSem.PinnedTables
import GoSem.Claim
import GoSem.ClaimJoined
import GoSem.ClaimMapViews
import Derived.JoinedTies
import Derived.KernelRfl
namespace Go.Proofs.YtdjdipehfnnhpaaDoor
/- THE CELL 'sum', in the pinned program and in every row, IS THE sha256 OF THE DUMP (.gsa) THAT YtdjdipehfnnhpaaDoorProg.lean LOADS. Nothing in Lean hashes anything: it is a label: what it is worth is what the hold of that sum in a sandbox is worth. -/
noncomputable def Tryd.pinned : Pinned := { name := "ytdjdipehfnnhpaadoor", sum := "8bac68b0e36a3997b9badddf0927cbcc1a0c7bc0f416fc56b0b811b201551fba", checked := Tryd.checked }
namespace Rows
def none {H : Type} : Left H := { results := [], args := [] }

/- WHAT THE LISTED PACKAGE-LEVEL VARIABLES READ AS WHEN THE CALL BEGINS. Each datum BY PROGRAM (the guide's laid-datum.mjs) off the statement by which the dump's own 'gosem.cut.vars' lays the variable. In a bare row this is a premise. The card (YtdjdipehfnnhpaaDoorCards.lean) ties it to the program's text. -/
def laid_tallage_cal_lengths {H : Type} : DataW H := .agg [.lit (.int .i64 0), .lit (.int .i64 31), .lit (.int .i64 28), .lit (.int .i64 31), .lit (.int .i64 30), .lit (.int .i64 31), .lit (.int .i64 30), .lit (.int .i64 31), .lit (.int .i64 31), .lit (.int .i64 30), .lit (.int .i64 31), .lit (.int .i64 30), .lit (.int .i64 31)]
def laid_unicode_utf8_acceptRanges {H : Type} : DataW H := .agg [.agg [.lit (.int .u8 128), .lit (.int .u8 191)], .agg [.lit (.int .u8 160), .lit (.int .u8 191)], .agg [.lit (.int .u8 128), .lit (.int .u8 159)], .agg [.lit (.int .u8 144), .lit (.int .u8 191)], .agg [.lit (.int .u8 128), .lit (.int .u8 143)], .agg [.lit (.int .u8 0), .lit (.int .u8 0)], .agg [.lit (.int .u8 0), .lit (.int .u8 0)], .agg [.lit (.int .u8 0), .lit (.int .u8 0)], .agg [.lit (.int .u8 0), .lit (.int .u8 0)], .agg [.lit (.int .u8 0), .lit (.int .u8 0)], .agg [.lit (.int .u8 0), .lit (.int .u8 0)], .agg [.lit (.int .u8 0), .lit (.int .u8 0)], .agg [.lit (.int .u8 0), .lit (.int .u8 0)], .agg [.lit (.int .u8 0), .lit (.int .u8 0)], .agg [.lit (.int .u8 0), .lit (.int .u8 0)], .agg [.lit (.int .u8 0), .lit (.int .u8 0)]]
/-- One of Go's own tables, pinned by name: the form's constant. -/
def laid_unicode_utf8_first : DataW Unit := Go.Pinned.utf8First

/-- 'taltop.TopEarned': WHATEVER THE INPUT: true; the input reads as it did. -/
def topEarnedSpec : ChangeSpec := { name := "topEarned", fn := fun _ => fun
  | [d1, d2, d3, d4] => { results := [.lit (.bool true)], args := [d1, d2, d3, d4] }
  | _ => none }
def topEarnedRow : OpenClaim := { program := "ytdjdipehfnnhpaadoor", sum := "8bac68b0e36a3997b9badddf0927cbcc1a0c7bc0f416fc56b0b811b201551fba", func := "tallage/taltop.TopEarned", spec := "topEarned", inPlace := ["internal/bytealg.abigen_runtime_cmpstring", "slices.overlaps[tallage/api.Entry]"], unfollowed := true, recurses := true, named := ["tallage/cal.lengths"], apart := false, laid := [("tallage/cal.lengths", laid_tallage_cal_lengths)] }
def TopEarnedSaid : Prop := topEarnedRow.holds Tryd.pinned (OpenSpec.ofChange topEarnedSpec)

/-- ITS FALSE NEIGHBOUR: 'it returns false'. Refute it at one input. -/
def topEarnedWrong : ChangeSpec := { name := "topEarned", fn := fun _ => fun
  | [d1, d2, d3, d4] => { results := [.lit (.bool false)], args := [d1, d2, d3, d4] }
  | _ => none }
def TopEarnedWrongFalsely : Prop := topEarnedRow.holds Tryd.pinned (OpenSpec.ofChange topEarnedWrong)

/-- 'tallaw.AcctSays': WHATEVER THE INPUT: true; the input reads as it did. -/
def acctSaysSpec : ChangeSpec := { name := "acctSays", fn := fun _ => fun
  | [d1, d2] => { results := [.lit (.bool true)], args := [d1, d2] }
  | _ => none }
def acctSaysRow : OpenClaim := { program := "ytdjdipehfnnhpaadoor", sum := "8bac68b0e36a3997b9badddf0927cbcc1a0c7bc0f416fc56b0b811b201551fba", func := "tallage/tallaw.AcctSays", spec := "acctSays", inPlace := ["internal/bytealg.IndexByteString", "internal/bytealg.IndexString"], unfollowed := true, recurses := true, named := ["unicode/utf8.first", "unicode/utf8.acceptRanges", "internal/bytealg.MaxLen"], apart := false, laid := [("unicode/utf8.acceptRanges", laid_unicode_utf8_acceptRanges), ("unicode/utf8.first", laid_unicode_utf8_first)] }
def AcctSaysSaid : Prop := acctSaysRow.holds Tryd.pinned (OpenSpec.ofChange acctSaysSpec)

/-- ITS FALSE NEIGHBOUR: 'it returns false'. Refute it at one input. -/
def acctSaysWrong : ChangeSpec := { name := "acctSays", fn := fun _ => fun
  | [d1, d2] => { results := [.lit (.bool false)], args := [d1, d2] }
  | _ => none }
def AcctSaysWrongFalsely : Prop := acctSaysRow.holds Tryd.pinned (OpenSpec.ofChange acctSaysWrong)

/-- 'tallaw.EntrySays': WHATEVER THE INPUT: true; the input reads as it did. -/
def entrySaysSpec : ChangeSpec := { name := "entrySays", fn := fun _ => fun
  | [d1, d2, d3] => { results := [.lit (.bool true)], args := [d1, d2, d3] }
  | _ => none }
def entrySaysRow : OpenClaim := { program := "ytdjdipehfnnhpaadoor", sum := "8bac68b0e36a3997b9badddf0927cbcc1a0c7bc0f416fc56b0b811b201551fba", func := "tallage/tallaw.EntrySays", spec := "entrySays", inPlace := ["internal/bytealg.IndexByteString", "internal/bytealg.IndexString"], unfollowed := true, recurses := true, named := ["unicode/utf8.first", "unicode/utf8.acceptRanges", "internal/bytealg.MaxLen"], apart := false, laid := [("unicode/utf8.acceptRanges", laid_unicode_utf8_acceptRanges), ("unicode/utf8.first", laid_unicode_utf8_first)] }
def EntrySaysSaid : Prop := entrySaysRow.holds Tryd.pinned (OpenSpec.ofChange entrySaysSpec)

/-- ITS FALSE NEIGHBOUR: 'it returns false'. Refute it at one input. -/
def entrySaysWrong : ChangeSpec := { name := "entrySays", fn := fun _ => fun
  | [d1, d2, d3] => { results := [.lit (.bool false)], args := [d1, d2, d3] }
  | _ => none }
def EntrySaysWrongFalsely : Prop := entrySaysRow.holds Tryd.pinned (OpenSpec.ofChange entrySaysWrong)

/-- 'tallaw.TrialSays': WHATEVER THE INPUT: true; the input reads as it did. -/
def trialSaysSpec : ChangeSpec := { name := "trialSays", fn := fun _ => fun
  | [d1, d2, d3] => { results := [.lit (.bool true)], args := [d1, d2, d3] }
  | _ => none }
def trialSaysRow : OpenClaim := { program := "ytdjdipehfnnhpaadoor", sum := "8bac68b0e36a3997b9badddf0927cbcc1a0c7bc0f416fc56b0b811b201551fba", func := "tallage/tallaw.TrialSays", spec := "trialSays", inPlace := ["internal/bytealg.abigen_runtime_cmpstring", "internal/bytealg.IndexByteString", "internal/bytealg.IndexString"], unfollowed := true, recurses := true, named := ["unicode/utf8.first", "unicode/utf8.acceptRanges", "internal/bytealg.MaxLen"], apart := false, laid := [("unicode/utf8.acceptRanges", laid_unicode_utf8_acceptRanges), ("unicode/utf8.first", laid_unicode_utf8_first)] }
def TrialSaysSaid : Prop := trialSaysRow.holds Tryd.pinned (OpenSpec.ofChange trialSaysSpec)

/-- ITS FALSE NEIGHBOUR: 'it returns false'. Refute it at one input. -/
def trialSaysWrong : ChangeSpec := { name := "trialSays", fn := fun _ => fun
  | [d1, d2, d3] => { results := [.lit (.bool false)], args := [d1, d2, d3] }
  | _ => none }
def TrialSaysWrongFalsely : Prop := trialSaysRow.holds Tryd.pinned (OpenSpec.ofChange trialSaysWrong)

/-- 'tallaw.BookTells': WHATEVER THE INPUT: true; the input reads as it did. -/
def bookTellsSpec : ChangeSpec := { name := "bookTells", fn := fun _ => fun
  | [d1, d2, d3] => { results := [.lit (.bool true)], args := [d1, d2, d3] }
  | _ => none }
def bookTellsRow : OpenClaim := { program := "ytdjdipehfnnhpaadoor", sum := "8bac68b0e36a3997b9badddf0927cbcc1a0c7bc0f416fc56b0b811b201551fba", func := "tallage/tallaw.BookTells", spec := "bookTells", inPlace := ["internal/bytealg.abigen_runtime_cmpstring", "internal/bytealg.IndexByteString", "internal/bytealg.IndexString"], unfollowed := true, recurses := true, named := ["unicode/utf8.first", "unicode/utf8.acceptRanges", "internal/bytealg.MaxLen"], apart := false, laid := [("unicode/utf8.acceptRanges", laid_unicode_utf8_acceptRanges), ("unicode/utf8.first", laid_unicode_utf8_first)] }
def BookTellsSaid : Prop := bookTellsRow.holds Tryd.pinned (OpenSpec.ofChange bookTellsSpec)

/-- ITS FALSE NEIGHBOUR: 'it returns false'. Refute it at one input. -/
def bookTellsWrong : ChangeSpec := { name := "bookTells", fn := fun _ => fun
  | [d1, d2, d3] => { results := [.lit (.bool false)], args := [d1, d2, d3] }
  | _ => none }
def BookTellsWrongFalsely : Prop := bookTellsRow.holds Tryd.pinned (OpenSpec.ofChange bookTellsWrong)

/-- 'tallaw.JobSays': WHATEVER THE INPUT: true; the input reads as it did. -/
def jobSaysSpec : ChangeSpec := { name := "jobSays", fn := fun _ => fun
  | [d1, d2] => { results := [.lit (.bool true)], args := [d1, d2] }
  | _ => none }
def jobSaysRow : OpenClaim := { program := "ytdjdipehfnnhpaadoor", sum := "8bac68b0e36a3997b9badddf0927cbcc1a0c7bc0f416fc56b0b811b201551fba", func := "tallage/tallaw.JobSays", spec := "jobSays", inPlace := ["internal/bytealg.IndexByteString", "internal/bytealg.IndexString"], unfollowed := true, recurses := true, named := ["internal/bytealg.MaxLen", "tallage/cal.lengths", "unicode/utf8.first", "unicode/utf8.acceptRanges"], apart := false, laid := [("tallage/cal.lengths", laid_tallage_cal_lengths), ("unicode/utf8.acceptRanges", laid_unicode_utf8_acceptRanges), ("unicode/utf8.first", laid_unicode_utf8_first)] }
def JobSaysSaid : Prop := jobSaysRow.holds Tryd.pinned (OpenSpec.ofChange jobSaysSpec)

/-- ITS FALSE NEIGHBOUR: 'it returns false'. Refute it at one input. -/
def jobSaysWrong : ChangeSpec := { name := "jobSays", fn := fun _ => fun
  | [d1, d2] => { results := [.lit (.bool false)], args := [d1, d2] }
  | _ => none }
def JobSaysWrongFalsely : Prop := jobSaysRow.holds Tryd.pinned (OpenSpec.ofChange jobSaysWrong)

/- THE SECOND FORM. 'bulk': how many values and letters a reading holds, each counted each time it is reached (what is shared counts as often as it is met; a slice's spare places count too). A statement '..UptoSaid' is the law's where the arguments, and the package variables that the reading takes, are together of bulk at most 1048576: NARROWER than '..Said'. Prove '..Said' where nothing that the law and all that it calls make is longer than what came in: it says more and counts as full. Else prove '..UptoSaid'. A law counts once. -/
mutual
def uptoBulk {H : Type} : DataW H → Nat
  | .lit (.string bytes) => bytes.length + 1
  | .lit _ => 1
  | .nil => 1
  | .ptr d => uptoBulk d + 1
  | .slice elems spare => uptoBulkAll elems + uptoBulkAll spare + 1
  | .agg parts => uptoBulkAll parts + 1
  | .iface _ d => uptoBulk d + 1
  | .map entries => uptoBulkEntries entries + 1
  | .held _ => 1
def uptoBulkAll {H : Type} : List (DataW H) → Nat
  | [] => 0
  | d :: r => uptoBulk d + uptoBulkAll r
def uptoBulkEntries {H : Type} : List (Lit × DataW H) → Nat
  | [] => 0
  | x :: r => uptoBulkEntry x + uptoBulkEntries r
def uptoBulkEntry {H : Type} : Lit × DataW H → Nat
  | (.string bytes, d) => bytes.length + uptoBulk d + 1
  | (_, d) => uptoBulk d + 1
 end
def uptoSmall : (H : Type) → List (DataW H) → Bool := fun _ ds => decide (uptoBulkAll ds ≤ 1048576)
def OpenSpec.upto (s : _root_.Go.ChangeSpec) : _root_.Go.OpenSpec := { _root_.Go.OpenSpec.ofChange s with cond := some uptoSmall }

/-- 'taltop.TopEarned', WHERE WHAT IT READS IS OF BULK AT MOST 1048576: true; the input reads as it did. -/
def topEarnedUptoRow : OpenClaim := { program := "ytdjdipehfnnhpaadoor", sum := "8bac68b0e36a3997b9badddf0927cbcc1a0c7bc0f416fc56b0b811b201551fba", func := "tallage/taltop.TopEarned", spec := "topEarned", inPlace := ["internal/bytealg.abigen_runtime_cmpstring", "slices.overlaps[tallage/api.Entry]"], unfollowed := true, recurses := true, named := ["tallage/cal.lengths"], apart := false, laid := [("tallage/cal.lengths", laid_tallage_cal_lengths)], narrowed := true }
def TopEarnedUptoSaid : Prop := topEarnedUptoRow.holds Tryd.pinned (OpenSpec.upto topEarnedSpec)

/-- 'tallaw.AcctSays', WHERE WHAT IT READS IS OF BULK AT MOST 1048576: true; the input reads as it did. -/
def acctSaysUptoRow : OpenClaim := { program := "ytdjdipehfnnhpaadoor", sum := "8bac68b0e36a3997b9badddf0927cbcc1a0c7bc0f416fc56b0b811b201551fba", func := "tallage/tallaw.AcctSays", spec := "acctSays", inPlace := ["internal/bytealg.IndexByteString", "internal/bytealg.IndexString"], unfollowed := true, recurses := true, named := ["unicode/utf8.first", "unicode/utf8.acceptRanges", "internal/bytealg.MaxLen"], apart := false, laid := [("unicode/utf8.acceptRanges", laid_unicode_utf8_acceptRanges), ("unicode/utf8.first", laid_unicode_utf8_first)], narrowed := true }
def AcctSaysUptoSaid : Prop := acctSaysUptoRow.holds Tryd.pinned (OpenSpec.upto acctSaysSpec)

/-- 'tallaw.EntrySays', WHERE WHAT IT READS IS OF BULK AT MOST 1048576: true; the input reads as it did. -/
def entrySaysUptoRow : OpenClaim := { program := "ytdjdipehfnnhpaadoor", sum := "8bac68b0e36a3997b9badddf0927cbcc1a0c7bc0f416fc56b0b811b201551fba", func := "tallage/tallaw.EntrySays", spec := "entrySays", inPlace := ["internal/bytealg.IndexByteString", "internal/bytealg.IndexString"], unfollowed := true, recurses := true, named := ["unicode/utf8.first", "unicode/utf8.acceptRanges", "internal/bytealg.MaxLen"], apart := false, laid := [("unicode/utf8.acceptRanges", laid_unicode_utf8_acceptRanges), ("unicode/utf8.first", laid_unicode_utf8_first)], narrowed := true }
def EntrySaysUptoSaid : Prop := entrySaysUptoRow.holds Tryd.pinned (OpenSpec.upto entrySaysSpec)

/-- 'tallaw.TrialSays', WHERE WHAT IT READS IS OF BULK AT MOST 1048576: true; the input reads as it did. -/
def trialSaysUptoRow : OpenClaim := { program := "ytdjdipehfnnhpaadoor", sum := "8bac68b0e36a3997b9badddf0927cbcc1a0c7bc0f416fc56b0b811b201551fba", func := "tallage/tallaw.TrialSays", spec := "trialSays", inPlace := ["internal/bytealg.abigen_runtime_cmpstring", "internal/bytealg.IndexByteString", "internal/bytealg.IndexString"], unfollowed := true, recurses := true, named := ["unicode/utf8.first", "unicode/utf8.acceptRanges", "internal/bytealg.MaxLen"], apart := false, laid := [("unicode/utf8.acceptRanges", laid_unicode_utf8_acceptRanges), ("unicode/utf8.first", laid_unicode_utf8_first)], narrowed := true }
def TrialSaysUptoSaid : Prop := trialSaysUptoRow.holds Tryd.pinned (OpenSpec.upto trialSaysSpec)

/-- 'tallaw.BookTells', WHERE WHAT IT READS IS OF BULK AT MOST 1048576: true; the input reads as it did. -/
def bookTellsUptoRow : OpenClaim := { program := "ytdjdipehfnnhpaadoor", sum := "8bac68b0e36a3997b9badddf0927cbcc1a0c7bc0f416fc56b0b811b201551fba", func := "tallage/tallaw.BookTells", spec := "bookTells", inPlace := ["internal/bytealg.abigen_runtime_cmpstring", "internal/bytealg.IndexByteString", "internal/bytealg.IndexString"], unfollowed := true, recurses := true, named := ["unicode/utf8.first", "unicode/utf8.acceptRanges", "internal/bytealg.MaxLen"], apart := false, laid := [("unicode/utf8.acceptRanges", laid_unicode_utf8_acceptRanges), ("unicode/utf8.first", laid_unicode_utf8_first)], narrowed := true }
def BookTellsUptoSaid : Prop := bookTellsUptoRow.holds Tryd.pinned (OpenSpec.upto bookTellsSpec)

/-- 'tallaw.JobSays', WHERE WHAT IT READS IS OF BULK AT MOST 1048576: true; the input reads as it did. -/
def jobSaysUptoRow : OpenClaim := { program := "ytdjdipehfnnhpaadoor", sum := "8bac68b0e36a3997b9badddf0927cbcc1a0c7bc0f416fc56b0b811b201551fba", func := "tallage/tallaw.JobSays", spec := "jobSays", inPlace := ["internal/bytealg.IndexByteString", "internal/bytealg.IndexString"], unfollowed := true, recurses := true, named := ["internal/bytealg.MaxLen", "tallage/cal.lengths", "unicode/utf8.first", "unicode/utf8.acceptRanges"], apart := false, laid := [("tallage/cal.lengths", laid_tallage_cal_lengths), ("unicode/utf8.acceptRanges", laid_unicode_utf8_acceptRanges), ("unicode/utf8.first", laid_unicode_utf8_first)], narrowed := true }
def JobSaysUptoSaid : Prop := jobSaysUptoRow.holds Tryd.pinned (OpenSpec.upto jobSaysSpec)

end Rows
end Go.Proofs.YtdjdipehfnnhpaaDoor
