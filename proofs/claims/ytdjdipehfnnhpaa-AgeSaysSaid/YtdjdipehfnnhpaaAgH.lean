/-
  The law of what is owed, run by the machine.
-/
import Derived.Test.YtdjdipehfnnhpaaAgG
namespace Go.Proofs.Ytdjdipehfnnhpaa
open Go Go.Ev Go.RowKit Go.Tie Go.Spl Go.Srt Go.Lib
def w0 (today : Int) (b : List Int) : Int := if 0 ≤ today ∧ today ≤ 292193 then (if 40 < b.length then 2 else 0) else 1
theorem agesE_eq {l : List It} (h : itE l = 0) (today : Int) (b : List Int) : agesE l today b = bdF (w0 today b) b b.length := by
  unfold agesE
  rw [if_pos h]
  have key : ∀ w : Int, w ≠ 0 → bdF w b b.length = w := fun w hw => by
    have := bdF_fin (e0 := w) (l := b) (k := 0) (n := b.length) (Nat.zero_le _) hw
    rw [this]; rfl
  unfold w0
  split
  · split
    · rw [key 2 (by omega)]
    · rfl
  · rw [key 1 (by omega)]
theorem w0_day {today : Int} {b : List Int} (h : ¬ (0 ≤ today ∧ today ≤ 292193)) : w0 today b = 1 := by unfold w0; rw [if_neg h]
theorem w0_large {today : Int} {b : List Int} (h : 0 ≤ today ∧ today ≤ 292193) (h2 : 40 < b.length) : w0 today b = 2 := by unfold w0; rw [if_pos h, if_pos h2]
theorem w0_ok {today : Int} {b : List Int} (h : 0 ≤ today ∧ today ≤ 292193) (h2 : ¬ 40 < b.length) : w0 today b = 0 := by unfold w0; rw [if_pos h, if_neg h2]
/-- what of the amount -/
def AmtC (a : Int) : Prop := (¬ a < 0 ∧ ¬ 1000000000000 < a) ∨ (¬ a < 0 ∧ 1000000000000 < a) ∨ a < 0
theorem rpayx {J : World → Prop} (hJ : Stable J) (l : List It) (a : Int) (e : itE l = 0) : ∃ F : List V → Option (V × List Blk), (payE l a = 0 → F [.row 2 (l.map itV), .int .i64 a] = some (.tup [.row 2 ((payL l a).map itV), .int .i64 (payN l a)], [])) ∧ Snd Try.prog J 30 F := by
  by_cases h : 0 ≤ a ∧ a ≤ 1000000000000
  · exact ⟨at1 _ (_, []), fun _ => at1_eq _ _, at1_snd (rpay_sound hJ l a e h)⟩
  · exact ⟨fun _ => none, fun h' => by unfold payE at h'; rw [if_pos e, if_neg h] at h'; omega, fun args r bs h => by cases h⟩
end Go.Proofs.Ytdjdipehfnnhpaa
