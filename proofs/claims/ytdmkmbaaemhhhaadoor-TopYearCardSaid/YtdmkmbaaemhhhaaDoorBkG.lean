/-
  Books, run by the machine: the reference's Book.
-/
import Derived.Test.YtdmkmbaaemhhhaaDoorBkF
namespace Go.Proofs.YtdmkmbaaemhhhaaDoor
open Go Go.Ev Go.RowKit Go.Acc
def hasF : List V → Option (V × List Blk)
  | [.row 2 es, .str c] => (unAc es).map fun A => (.bool (hasA A c), [])
  | _ => none
theorem hasF_eq (A : List (ByteArray × Int)) (c : ByteArray) : hasF [.row 2 (A.map acV), .str c] = some (.bool (hasA A c), []) := by simp only [hasF, unAc_map, Option.map_some]
def rentryF : List V → Option (V × List Blk)
  | [.agg [.str key, .int .i64 day, .row 2 es]] => if key.size ≤ maxLen ∧ es.length ≤ maxLen then (unAc es).map fun l => (.int .i64 (enE key day l), []) else none
  | _ => none
theorem rentryF_eq {key : ByteArray} {day : Int} {l : List (ByteArray × Int)} (hk : key.size ≤ maxLen) (hl : l.length ≤ maxLen) : rentryF [.agg [.str key, .int .i64 day, .row 2 (l.map acV)]] = some (.int .i64 (enE key day l), []) := by
  simp only [rentryF, unAc_map, Option.map_some]
  exact if_pos ⟨hk, by rw [List.length_map]; exact hl⟩
def okEn (E : List En) : Prop := E.length ≤ maxLen ∧ ∀ x ∈ E, x.1.size ≤ maxLen ∧ x.2.2.length ≤ maxLen
end Go.Proofs.YtdmkmbaaemhhhaaDoor
