/-
  Entries, run by the machine: what is turned.
-/
import Derived.Test.YtdmkmbaaemhhhaaDoorEnH
namespace Go.Acc
open Go
theorem lnE_ok : ∀ (l : List (ByteArray × Int)) (seen : List ByteArray), lnE seen l = 0 → ∀ x ∈ l, -1000000000000 ≤ x.2 ∧ x.2 ≤ 1000000000000
  | [], _, _ => by simp
  | (c, n) :: l, seen, h => by
    unfold lnE at h
    by_cases h1 : codeOk c = false
    · rw [if_pos h1] at h; omega
    rw [if_neg h1] at h
    by_cases h2 : ¬ ((-1000000000000 ≤ n ∧ n ≤ 1000000000000) ∧ n ≠ 0)
    · rw [if_pos h2] at h; omega
    rw [if_neg h2] at h
    by_cases h3 : hasC c seen = true
    · rw [if_pos h3] at h; omega
    rw [if_neg h3] at h
    intro x hx
    rcases List.mem_cons.1 hx with rfl | hx
    · exact (Decidable.not_not.1 h2).1
    · exact lnE_ok l _ h x hx
theorem lnChk_ok {l : List (ByteArray × Int)} (h : lnChk l = 0) : 2 ≤ l.length ∧ l.length ≤ 12 ∧ ∀ x ∈ l, -1000000000000 ≤ x.2 ∧ x.2 ≤ 1000000000000 := by
  unfold lnChk at h
  by_cases h1 : 12 < l.length
  · rw [if_pos h1] at h; omega
  rw [if_neg h1] at h
  by_cases h2 : lnE [] l = 0
  · rw [if_neg (fun hh => hh h2)] at h
    by_cases h3 : l.length < 2 ∨ lnSum l l.length ≠ 0
    · rw [if_pos h3] at h; omega
    · exact ⟨by omega, by omega, lnE_ok l [] h2⟩
  · rw [if_pos h2] at h; exact absurd h h2
theorem enE_ok {key : ByteArray} {day : Int} {l : List (ByteArray × Int)} (h : enE key day l = 0) : lnChk l = 0 := by
  unfold enE at h
  by_cases h1 : keyOk' key = false
  · rw [if_pos h1] at h; omega
  rw [if_neg h1] at h
  by_cases h2 : ¬ (0 ≤ day ∧ day ≤ 292193)
  · rw [if_pos h2] at h; omega
  rw [if_neg h2] at h
  exact h
end Go.Acc
namespace Go.Proofs.YtdmkmbaaemhhhaaDoor
open Go Go.Ev Go.RowKit Go.Acc
theorem turnL_step {l : List (ByteArray × Int)} {k : Nat} {c : ByteArray} {n : Int} (h : l[k]? = some (c, n)) : turnL (l.take (k + 1)) = turnL (l.take k) ++ [(c, 0 - n)] := by
  obtain ⟨hk, he⟩ := List.getElem?_eq_some_iff.1 h
  unfold turnL
  rw [List.take_succ_eq_append_getElem hk, he, List.map_append]
  rfl
end Go.Proofs.YtdmkmbaaemhhhaaDoor
