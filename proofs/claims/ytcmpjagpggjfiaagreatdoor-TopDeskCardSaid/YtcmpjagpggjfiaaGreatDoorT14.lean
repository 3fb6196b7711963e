/-
  The machine's contracts of the smallest functions: within, Money, Rate of talref; errors of fractions.
-/
import Derived.Test.YtcmpjagpggjfiaaGreatDoorT12
namespace Go.Proofs.YtcmpjagpggjfiaaGreatDoor
open Go Go.Ev
noncomputable def at1 (a : List V) (r : V × List Ev.Blk) : List V → Option (V × List Ev.Blk) := fun x => open Classical in if x = a then some r else none
theorem at1_eq (a : List V) (r : V × List Ev.Blk) : at1 a r a = some r := by unfold at1; rw [if_pos rfl]
theorem at1_snd {P : Program} {J : World → Prop} {f : FuncId} {a : List V} {r : V} {bs : List Ev.Blk} (h : SoundAt P J f a r bs) : Snd P J f (at1 a (r, bs)) := by
 intro args r' bs' h'
 unfold at1 at h'
 split at h'
 ·rename_i he
  obtain ⟨rfl, rfl⟩ := some_pair h'
  rw [he]; exact h
 ·cases h'
theorem get_map {α : Type} (f : α → V) (l : List α) (k : Nat) (x : α) (h : l[k]? = some x) : (l.map f)[k]? = some (f x) := by simp [h]
def moneyF : List V → Option (V × List Ev.Blk)
 | [.int .i64 x] => some (.bool (decide (-1000000000000 ≤ x ∧ x ≤ 1000000000000)), [])
 | _ => none
theorem moneyF_eq (x : Int) : moneyF [.int .i64 x] = some (.bool (decide (-1000000000000 ≤ x ∧ x ≤ 1000000000000)), []) := rfl
end Go.Proofs.YtcmpjagpggjfiaaGreatDoor
