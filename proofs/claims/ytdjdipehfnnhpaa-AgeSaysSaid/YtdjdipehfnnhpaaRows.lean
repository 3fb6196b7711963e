/-
  No cell of these rows narrows 'for every input' (looked for: loops, veiled, ifaces, maps, wideKeys, modest, calm, conditions, laid).
  DERIVED. THE GIVEN ROWS OF THIS SEAT. 4 by the template 'for every input the law returns true; each argument reads behind the call as it read before'; 0 by the template 'total and deterministic' (their statements: YtdjdipehfnnhpaaTotals.lean).
  GIVEN WITH THE SEED: the statements are not yours to turn. If you find one false, say at which input.
  Laid BY PROGRAM, IN A SANDBOX (cutbox-rows.mjs): the forced cells as the released guide's own fill.sh prints them over the translation 3ba7e1fc153172b0… (all of the seat's roots in one cut). By AI agents, Wed Nov 11 2026. No macro, syntax, notation, axiom, sorry.
-/
import Derived.Test.YtdjdipehfnnhpaaChecked
import GoSem.Claim
import GoSem.ClaimJoined
import GoSem.ClaimMapViews
import Derived.JoinedTies
import Derived.KernelRfl
namespace Go.Proofs.Ytdjdipehfnnhpaa
/- THE CELL 'sum', in the pinned program and in every row, IS THE sha256 OF THE DUMP (.gsa) THAT YtdjdipehfnnhpaaProg.lean LOADS. Nothing in Lean hashes anything: it is a label: what it is worth is what the hold of that sum in a sandbox is worth. -/
noncomputable def Try.pinned : Pinned := { name := "ytdjdipehfnnhpaa", sum := "3ba7e1fc153172b080c2f714394986f1b0a84112fca9a3843f4869785a72b334", checked := Try.checked }
namespace Rows
def none {H : Type} : Left H := { results := [], args := [] }

/-- 'taltop.TopOff': WHATEVER THE INPUT: true; the input reads as it did. -/
def topOffSpec : ChangeSpec := { name := "topOff", fn := fun _ => fun
  | [d1, d2, d3, d4, d5] => { results := [.lit (.bool true)], args := [d1, d2, d3, d4, d5] }
  | _ => none }
def topOffRow : OpenClaim := { program := "ytdjdipehfnnhpaa", sum := "3ba7e1fc153172b080c2f714394986f1b0a84112fca9a3843f4869785a72b334", func := "tallage/taltop.TopOff", spec := "topOff", inPlace := ["internal/bytealg.abigen_runtime_cmpstring", "slices.overlaps[tallage/api.Entry]"], unfollowed := true, recurses := true, apart := false }
def TopOffSaid : Prop := topOffRow.holds Try.pinned (OpenSpec.ofChange topOffSpec)

/-- ITS FALSE NEIGHBOUR: 'it returns false'. Refute it at one input. -/
def topOffWrong : ChangeSpec := { name := "topOff", fn := fun _ => fun
  | [d1, d2, d3, d4, d5] => { results := [.lit (.bool false)], args := [d1, d2, d3, d4, d5] }
  | _ => none }
def TopOffWrongFalsely : Prop := topOffRow.holds Try.pinned (OpenSpec.ofChange topOffWrong)

/-- 'taltop.TopTax': WHATEVER THE INPUT: true; the input reads as it did. -/
def topTaxSpec : ChangeSpec := { name := "topTax", fn := fun _ => fun
  | [d1, d2, d3] => { results := [.lit (.bool true)], args := [d1, d2, d3] }
  | _ => none }
def topTaxRow : OpenClaim := { program := "ytdjdipehfnnhpaa", sum := "3ba7e1fc153172b080c2f714394986f1b0a84112fca9a3843f4869785a72b334", func := "tallage/taltop.TopTax", spec := "topTax", inPlace := ["internal/bytealg.abigen_runtime_cmpstring", "slices.overlaps[tallage/api.Entry]"], unfollowed := true, recurses := true, apart := false }
def TopTaxSaid : Prop := topTaxRow.holds Try.pinned (OpenSpec.ofChange topTaxSpec)

/-- ITS FALSE NEIGHBOUR: 'it returns false'. Refute it at one input. -/
def topTaxWrong : ChangeSpec := { name := "topTax", fn := fun _ => fun
  | [d1, d2, d3] => { results := [.lit (.bool false)], args := [d1, d2, d3] }
  | _ => none }
def TopTaxWrongFalsely : Prop := topTaxRow.holds Try.pinned (OpenSpec.ofChange topTaxWrong)

/-- 'tallaw.TieSays': WHATEVER THE INPUT: true; the input reads as it did. -/
def tieSaysSpec : ChangeSpec := { name := "tieSays", fn := fun _ => fun
  | [d1, d2, d3] => { results := [.lit (.bool true)], args := [d1, d2, d3] }
  | _ => none }
def tieSaysRow : OpenClaim := { program := "ytdjdipehfnnhpaa", sum := "3ba7e1fc153172b080c2f714394986f1b0a84112fca9a3843f4869785a72b334", func := "tallage/tallaw.TieSays", spec := "tieSays", inPlace := ["slices.overlaps[int]"], unfollowed := true, recurses := true, apart := false }
def TieSaysSaid : Prop := tieSaysRow.holds Try.pinned (OpenSpec.ofChange tieSaysSpec)

/-- ITS FALSE NEIGHBOUR: 'it returns false'. Refute it at one input. -/
def tieSaysWrong : ChangeSpec := { name := "tieSays", fn := fun _ => fun
  | [d1, d2, d3] => { results := [.lit (.bool false)], args := [d1, d2, d3] }
  | _ => none }
def TieSaysWrongFalsely : Prop := tieSaysRow.holds Try.pinned (OpenSpec.ofChange tieSaysWrong)

/-- 'tallaw.AgeSays': WHATEVER THE INPUT: true; the input reads as it did. -/
def ageSaysSpec : ChangeSpec := { name := "ageSays", fn := fun _ => fun
  | [d1, d2, d3, d4] => { results := [.lit (.bool true)], args := [d1, d2, d3, d4] }
  | _ => none }
def ageSaysRow : OpenClaim := { program := "ytdjdipehfnnhpaa", sum := "3ba7e1fc153172b080c2f714394986f1b0a84112fca9a3843f4869785a72b334", func := "tallage/tallaw.AgeSays", spec := "ageSays", inPlace := ["slices.overlaps[int]"], unfollowed := true, recurses := true, apart := false }
def AgeSaysSaid : Prop := ageSaysRow.holds Try.pinned (OpenSpec.ofChange ageSaysSpec)

/-- ITS FALSE NEIGHBOUR: 'it returns false'. Refute it at one input. -/
def ageSaysWrong : ChangeSpec := { name := "ageSays", fn := fun _ => fun
  | [d1, d2, d3, d4] => { results := [.lit (.bool false)], args := [d1, d2, d3, d4] }
  | _ => none }
def AgeSaysWrongFalsely : Prop := ageSaysRow.holds Try.pinned (OpenSpec.ofChange ageSaysWrong)

/- THE SECOND FORM. 'bulk': how many values and letters a reading holds, each counted each time it is reached (what is shared counts as often as it is met; a slice's spare places count too). A statement '..UptoSaid' is the law's where the arguments, and the package variables that the reading takes, are together of bulk at most 1048576: NARROWER than '..Said'. Prove '..Said' where nothing that the law and all that it calls make is longer than what came in: it says more and counts as full. Else prove '..UptoSaid'. A law counts once. -/
mutual
def uptoBulk {H : Type} : DataW H → Nat
  | .lit (.string bytes) => bytes.length + 1
  | .lit _ => 1
  | .nil => 1
  | .ptr d => uptoBulk d + 1
  | .slice elems spare => uptoBulkAll elems + uptoBulkAll spare + 1
  | .agg parts => uptoBulkAll parts + 1
  | .iface _ d => uptoBulk d + 1
  | .map entries => uptoBulkEntries entries + 1
  | .held _ => 1
def uptoBulkAll {H : Type} : List (DataW H) → Nat
  | [] => 0
  | d :: r => uptoBulk d + uptoBulkAll r
def uptoBulkEntries {H : Type} : List (Lit × DataW H) → Nat
  | [] => 0
  | x :: r => uptoBulkEntry x + uptoBulkEntries r
def uptoBulkEntry {H : Type} : Lit × DataW H → Nat
  | (.string bytes, d) => bytes.length + uptoBulk d + 1
  | (_, d) => uptoBulk d + 1
 end
def uptoSmall : (H : Type) → List (DataW H) → Bool := fun _ ds => decide (uptoBulkAll ds ≤ 1048576)
def OpenSpec.upto (s : _root_.Go.ChangeSpec) : _root_.Go.OpenSpec := { _root_.Go.OpenSpec.ofChange s with cond := some uptoSmall }

/-- 'taltop.TopOff', WHERE WHAT IT READS IS OF BULK AT MOST 1048576: true; the input reads as it did. -/
def topOffUptoRow : OpenClaim := { program := "ytdjdipehfnnhpaa", sum := "3ba7e1fc153172b080c2f714394986f1b0a84112fca9a3843f4869785a72b334", func := "tallage/taltop.TopOff", spec := "topOff", inPlace := ["internal/bytealg.abigen_runtime_cmpstring", "slices.overlaps[tallage/api.Entry]"], unfollowed := true, recurses := true, apart := false, narrowed := true }
def TopOffUptoSaid : Prop := topOffUptoRow.holds Try.pinned (OpenSpec.upto topOffSpec)

/-- 'taltop.TopTax', WHERE WHAT IT READS IS OF BULK AT MOST 1048576: true; the input reads as it did. -/
def topTaxUptoRow : OpenClaim := { program := "ytdjdipehfnnhpaa", sum := "3ba7e1fc153172b080c2f714394986f1b0a84112fca9a3843f4869785a72b334", func := "tallage/taltop.TopTax", spec := "topTax", inPlace := ["internal/bytealg.abigen_runtime_cmpstring", "slices.overlaps[tallage/api.Entry]"], unfollowed := true, recurses := true, apart := false, narrowed := true }
def TopTaxUptoSaid : Prop := topTaxUptoRow.holds Try.pinned (OpenSpec.upto topTaxSpec)

/-- 'tallaw.TieSays', WHERE WHAT IT READS IS OF BULK AT MOST 1048576: true; the input reads as it did. -/
def tieSaysUptoRow : OpenClaim := { program := "ytdjdipehfnnhpaa", sum := "3ba7e1fc153172b080c2f714394986f1b0a84112fca9a3843f4869785a72b334", func := "tallage/tallaw.TieSays", spec := "tieSays", inPlace := ["slices.overlaps[int]"], unfollowed := true, recurses := true, apart := false, narrowed := true }
def TieSaysUptoSaid : Prop := tieSaysUptoRow.holds Try.pinned (OpenSpec.upto tieSaysSpec)

/-- 'tallaw.AgeSays', WHERE WHAT IT READS IS OF BULK AT MOST 1048576: true; the input reads as it did. -/
def ageSaysUptoRow : OpenClaim := { program := "ytdjdipehfnnhpaa", sum := "3ba7e1fc153172b080c2f714394986f1b0a84112fca9a3843f4869785a72b334", func := "tallage/tallaw.AgeSays", spec := "ageSays", inPlace := ["slices.overlaps[int]"], unfollowed := true, recurses := true, apart := false, narrowed := true }
def AgeSaysUptoSaid : Prop := ageSaysUptoRow.holds Try.pinned (OpenSpec.upto ageSaysSpec)

end Rows
end Go.Proofs.Ytdjdipehfnnhpaa
