/-
  Steps of the proof of LogSays: PoG PoH.
-/
import Derived.Test.YtdmkmbaaemhhhaaGreatDoorL19
import Derived.Test.YtdmkmbaaemhhhaaGreatDoorL18
import Derived.Test.YtdmkmbaaemhhhaaGreatDoorL09
import Derived.Laws.CopyRow
import Derived.Lib.AppendZeros
import Derived.Lib.AppendZerosOnto
import Derived.Deep.AppendSrc
import Derived.Laws.Externs
import Derived.Laws.IdiomCopy
import Derived.Lib.Walk
import Derived.Shelf.RegionOpenPlain
import Derived.WalkKit
set_option linter.unusedVariables false
set_option linter.unusedSimpArgs false
section
namespace Go.Ev
open Go Go.RowKit
theorem take_zero {P : Program} {J : World → Prop} {f : FuncId} {T : TypeId} {sz : Nat} {as1 es' : List V} (hJJ : Stable J) (hpos : 0 < sz) (h : TakeAt P J f T sz [] as1 es') (hd : ∀ a ∈ as1, V.data a = true) : SoundAt P J f (.zero :: as1) (.vec 0) [.vec T sz es'] := by
 refine ⟨h.1, fun w ok vals hJ hok hlen hrel => ?_⟩
 match vals, hlen with
 | sv0 :: vals', hlen =>
  have h0 := hrel 0 _ sv0 rfl rfl
  cases h0
  have hI : Inv ok w.heap.size w (fun _ => none) (fun _ => none) := ⟨Nat.le_refl _, (fun b k hk => by cases hk), (fun b sv hr => by cases hr), (fun b b' sv sv' g h1 => by cases h1)⟩
  have hR := RoQ.all hI
  refine (h.2 w w.heap.size (fun g => g < w.heap.size) (okAt ok w.heap.size (fun _ => none) w) (.slice none 0 0) vals' (fun w' hb => hJJ w w' hJ hb) (Nat.le_refl _) (fun g hg => ⟨hg, by simp [own]⟩) (fun g hg => okAt_lt (Nat.le_refl _) hg) rfl hpos ⟨[], rfl, by simp, by simp, by simp, .inl ⟨none, rfl, rfl⟩⟩ (by simpa using hlen) fun j c u hc hu => ?_).mono ?_
  ·have hx := hrel (j + 1) c u (by simpa using hc) (by simpa using hu)
   have hc' := hd c (List.mem_of_getElem? hc)
   refine tk_rel hI hR (v := c) (.ro (hx.mono fun g hg => ⟨.inl ⟨hok g hg, hg⟩, rfl⟩)) ?_
   cases c <;> simp_all [tk1, V.data]
  ·rintro e w' ⟨sv', rfl, hb, hkeep, hsz, hown', hone, hO⟩
   have key : ∀ b sv, one 0 sv' b = some sv → b = 0 ∧ sv = sv' := by
    intro b sv hs
    unfold Ev.one at hs
    split at hs
    ·rename_i e; simp at hs; exact ⟨e, hs.symm⟩
    ·cases hs
   refine ⟨sv', one 0 sv', rfl, hb, ⟨hb.size, ?_, ?_, ?_⟩, .vec 0 sv' (by simp [one]) hone⟩
   ·intro b k hk
    match b with
    | 0 =>
     simp at hk
     subst hk
     refine ⟨sv', by simp [one], hpos, hO.mono (fun g hg => ⟨?_, rfl⟩) fun _ _ => rfl⟩
     rcases hg with h | ⟨h1, h2, _⟩
     ·exact .inl h
     ·omega
    | b + 1 => simp at hk
   ·intro b sv hs
    obtain ⟨rfl, rfl⟩ := key b sv hs
    exact ⟨_, rfl⟩
   ·intro b b' sv s2 g h1 h2 _ _
    rw [(key b sv h1).1, (key b' s2 h2).1]
end Go.Ev
namespace Go.Proofs.YtdmkmbaaemhhhaaGreatDoor
open Go Go.Ev Go.RowKit Go.Acc
set_option maxHeartbeats 4000000
end Go.Proofs.YtdmkmbaaemhhhaaGreatDoor
end
section
namespace Go.Proofs.YtdmkmbaaemhhhaaGreatDoor
open Go Go.Ev Go.RowKit Go.Acc
set_option maxHeartbeats 4000000
theorem enW_mk (k : ByteArray) (d : Int) (l : List (ByteArray × Int)) : enW (k, d, l) = .agg [.str k, .int .i64 d, .row 2 (l.map acV)] := rfl
end Go.Proofs.YtdmkmbaaemhhhaaGreatDoor
end
