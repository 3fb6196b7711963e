/-
  EntrySays' law, run by the machine.
-/
import Derived.Test.YtdmkmbaaemhhhaaGreatDoorEnI
namespace Go.Proofs.YtdmkmbaaemhhhaaGreatDoor
open Go Go.Ev Go.RowKit Go.Acc
theorem key_a : keyOk' ⟨#[97]⟩ = true := by decide
theorem echeck_zero : echeckF [.agg [.str ByteArray.empty, .int .i64 0, .zero]] = some (.int .i64 3, []) := by
  have : enE ByteArray.empty 0 [] = 3 := by decide
  simp only [echeckF, rowAc, Option.map_some, this]
noncomputable def enPhi (xk : ByteArray) (xd : Int) (l : List (ByteArray × Int)) (key : ByteArray) : Phi := [(21, at1 [.agg [.str xk, .int .i64 xd, .row 2 (l.map acV)]] (.int .i64 (enE xk xd l), [])),
  (74, keyF), (57, at1 [.str key] (.bool (keyOk' key), [])), (29, echeckF), (13, sameF)]
theorem enPhi_ok {J : World → Prop} (hJ : Stable J) (xk : ByteArray) (xd : Int) (l : List (ByteArray × Int)) (key : ByteArray) (h1 : xk.size ≤ maxLen) (h2 : l.length ≤ maxLen) (h3 : key.size ≤ maxLen) : PhiOk Tryz.prog J (enPhi xk xd l key) :=
  ⟨at1_snd (rentry_sound hJ xk xd l h1 h2), key_snd hJ, at1_snd (rkey_sound hJ key h3), echeck_snd hJ, same_snd hJ, trivial⟩
end Go.Proofs.YtdmkmbaaemhhhaaGreatDoor
