/-
  Rows that are filled one by one.
-/
import Derived.Test.YtdmkmbaaemhhhaaEvB
namespace Go.Proofs.Ytdmkmbaaemhhhaa
open Go Go.Ev
set_option linter.unusedSimpArgs false
set_option linter.unusedVariables false
/-! ### rows that are filled one by one -/
def fillL {α : Type} (d : α) (f : Nat → α) (n k : Nat) : List α := (List.range n).map fun i => if i < k then f i else d
theorem fillL_zero {α : Type} (d : α) (f : Nat → α) (n : Nat) : fillL d f n 0 = List.replicate n d := by
  apply List.ext_getElem?
  intro i
  by_cases h : i < n <;> simp [fillL, h, List.getElem?_replicate]
theorem fillL_len {α : Type} (d : α) (f : Nat → α) (n k : Nat) : (fillL d f n k).length = n := by simp [fillL]
theorem fillL_set {α : Type} (d : α) (f : Nat → α) {n k : Nat} : (fillL d f n k).set k (f k) = fillL d f n (k + 1) := by
  apply List.ext_getElem?
  intro i
  rw [List.getElem?_set]
  by_cases e : k = i
  · subst e
    rw [if_pos rfl, fillL_len]
    by_cases hn : k < n
    · rw [if_pos hn]; simp [fillL, hn]
    · rw [if_neg hn]; simp [fillL, hn]
  · rw [if_neg e]
    by_cases hn : i < n
    · have : (i < k + 1) ↔ (i < k) := by omega
      simp [fillL, hn, this]
    · simp [fillL, hn]
theorem fillL_end {α : Type} (d : α) (f : Nat → α) (n : Nat) : fillL d f n n = (List.range n).map f := by
  unfold fillL
  exact List.map_congr_left fun i hi => by rw [List.mem_range] at hi; rw [if_pos hi]
theorem fillL_at {α : Type} (d : α) (f : Nat → α) {n k i : Nat} (h : i < n) (hk : ¬ i < k) : (fillL d f n k)[i]? = some d := by simp [fillL, h, hk]
theorem fillL_map {α β : Type} (g : α → β) (d : α) (f : Nat → α) (n k : Nat) : (fillL d f n k).map g = fillL (g d) (fun i => g (f i)) n k := by
  unfold fillL
  rw [List.map_map]
  exact List.map_congr_left fun i _ => by simp only [Function.comp]; split <;> rfl
end Go.Proofs.Ytdmkmbaaemhhhaa
