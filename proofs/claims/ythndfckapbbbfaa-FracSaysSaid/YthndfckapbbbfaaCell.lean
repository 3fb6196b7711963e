/-
  Cells of worlds written out: of the block that is made last, of the elder ones.
-/
import Derived.Test.YthndfckapbbbfaaBase
namespace Go.Proofs.Ythndfckapbbbfaa
open Go.RowKit
theorem cellN {w : World} {b : Nat} (v : Value) (t : TypeId) (h : b = w.heap.size) : (w.alloc (.cells #[v] t)).cell? ⟨b, 0, none⟩ = some v := by
  subst h
  simp
theorem cellO {w : World} {b : Nat} (o : Obj) {i : Nat} (h : b < w.heap.size) : (w.alloc o).cell? ⟨b, i, none⟩ = w.cell? ⟨b, i, none⟩ := ((Below.refl w.heap.size w).alloc (Nat.le_refl _) o).cell (p := ⟨b, i, none⟩) h
theorem frozenO {w : World} {b : Nat} (o : Obj) {i : Nat} (h : b < w.heap.size) : (w.alloc o).frozen? ⟨b, i, none⟩ = w.frozen? ⟨b, i, none⟩ := ((Below.refl w.heap.size w).alloc (Nat.le_refl _) o).frozen (p := ⟨b, i, none⟩) h
theorem cell3 {w : World} {a b c : Value} {t t' t'' : TypeId} :
    (((w.alloc (.cells #[a] t)).alloc (.cells #[b] t')).alloc (.cells #[c] t'')).cell? ⟨w.heap.size, 0, none⟩ = some a ∧
    (((w.alloc (.cells #[a] t)).alloc (.cells #[b] t')).alloc (.cells #[c] t'')).cell? ⟨w.heap.size + 1, 0, none⟩ = some b ∧
    (((w.alloc (.cells #[a] t)).alloc (.cells #[b] t')).alloc (.cells #[c] t'')).cell? ⟨w.heap.size + 2, 0, none⟩ = some c := by
  refine ⟨?_, ?_, ?_⟩
  · rw [cellO _ (by simp; omega), cellO _ (by simp), cellN _ _ rfl]
  · rw [cellO _ (by simp), cellN _ _ (by simp)]
  · exact cellN _ _ (by simp)
end Go.Proofs.Ythndfckapbbbfaa
