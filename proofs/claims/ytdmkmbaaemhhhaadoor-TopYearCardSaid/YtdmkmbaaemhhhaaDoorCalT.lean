/-
  Contracts of the references: Months, Of at no date, Euro.
-/
import Derived.Test.YtdmkmbaaemhhhaaDoorCalS
namespace Go.Proofs.YtdmkmbaaemhhhaaDoor
open Go.RowKit
set_option linter.unusedVariables false
theorem Cal.add_go (a b k : Int) (a0 : 0 ≤ a) (hab : a ≤ b) (b1 : b ≤ 292193) (h0 : 0 ≤ k) (h1 : k < Cal.months a b) : 0 ≤ Cal.add a (k + 1) ∧ Cal.add a (k + 1) ≤ b := by
  obtain ⟨s1, s2, s3⟩ := Cal.months_step a b k a0 hab b1 h0 h1
  obtain ⟨f1, f2, f3, f4, f5⟩ := Cal.day_fm a a0 (by omega)
  unfold Cal.add
  rw [if_pos ⟨s1, s2⟩]
  have := Cal.num_bd _ _ _ (Cal.vld_mon _ _ s1 s2 f3)
  exact ⟨this.1, s3⟩
theorem Cal.add_end (a b : Int) (a0 : 0 ≤ a) (hab : a ≤ b) (b1 : b ≤ 292193) : Cal.add a (Cal.months a b + 1) < 0 ∨ b < Cal.add a (Cal.months a b + 1) := by
  obtain ⟨m0, m1, m2, m3⟩ := Cal.months_is a b a0 hab b1
  unfold Cal.add
  split
  · right; rw [show Cal.mon a + (Cal.months a b + 1) = Cal.mon a + Cal.months a b + 1 by omega]; exact m3
  · left; omega
end Go.Proofs.YtdmkmbaaemhhhaaDoor
