/-
  Plain law: rounding of a quotient (no program in sight).
-/
/-! Rounding: what is computed, in plain numbers. -/
namespace Go.Proofs.YtdmkmbaaemhhhaaGreatDoor.Rnd
theorem low {n d : Int} (hd : 1 ≤ d) : 0 ≤ n % d ∧ n % d < d := ⟨Int.emod_nonneg _ (by omega), Int.emod_lt_of_pos _ (by omega)⟩
end Go.Proofs.YtdmkmbaaemhhhaaGreatDoor.Rnd
