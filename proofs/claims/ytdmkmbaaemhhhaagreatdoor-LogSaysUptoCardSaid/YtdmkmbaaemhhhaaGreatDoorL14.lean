/-
  Steps of the proof of LogSays: AcF AcG.
-/
import Derived.Test.YtdmkmbaaemhhhaaGreatDoorL13
set_option linter.unusedVariables false
set_option linter.unusedSimpArgs false
section
namespace Go.Acc
open Go
end Go.Acc
namespace Go.Proofs.YtdmkmbaaemhhhaaGreatDoor
open Go Go.Ev Go.RowKit Go.Acc
set_option maxHeartbeats 4000000
def acV (p : ByteArray × Int) : V := .agg [.str p.1, .int .i64 p.2]
def unAc : List V → Option (List (ByteArray × Int))
 | [] => some []
 | .agg [.str c, .int .i64 k] :: l => (unAc l).map fun r => (c, k) :: r
 | _ => none
theorem unAc_map : ∀ l : List (ByteArray × Int), unAc (l.map acV) = some l
 | [] => rfl
 | (c, k) :: l => by simp only [List.map_cons, acV, unAc]; rw [unAc_map l]; rfl
theorem unAc_eq : ∀ {es : List V} {l : List (ByteArray × Int)}, unAc es = some l → es = l.map acV
 | [], l, h => by simp only [unAc, Option.some.injEq] at h; subst h; rfl
 | v :: es, l, h => by
  unfold unAc at h
  split at h
  ·rename_i heq; cases heq
  ·rename_i c k t heq
   cases heq
   simp only [Option.map_eq_some_iff] at h
   obtain ⟨r, hr, rfl⟩ := h
   rw [unAc_eq hr]
   rfl
  ·cases h
theorem acV_get {l : List (ByteArray × Int)} {k : Nat} {c : ByteArray} {n : Int} (h : l[k]? = some (c, n)) : (l.map acV)[k]? = some (.agg [.str c, .int .i64 n]) := by rw [List.getElem?_map, h]; rfl
end Go.Proofs.YtdmkmbaaemhhhaaGreatDoor
end
section
namespace Go.Acc
open Go
def isC (code : ByteArray) (p : ByteArray × Int) : Bool := decide (p.1 = code)
end Go.Acc
namespace Go.Proofs.YtdmkmbaaemhhhaaGreatDoor
open Go Go.Ev Go.RowKit Go.Acc
set_option maxHeartbeats 4000000
end Go.Proofs.YtdmkmbaaemhhhaaGreatDoor
end
