/-
  Contract: slices.Equal of two rows of the call's own that hold the same ints returns true.
-/
import Derived.Test.YthndfckapbbbfaaLineA
namespace Go.Proofs.Ythndfckapbbbfaa
open Go.RowKit
set_option linter.unusedVariables false
theorem own_form {w : World} {base : Nat} {v : Value} {xs : List Int} (h : OwnI w base v xs) :
    ∃ A c, v = .slice A xs.length c ∧ (0 < xs.length → ∃ g, A = some ⟨g, 0, none⟩ ∧ ∀ j, j < xs.length → w.cell? ⟨g, j, none⟩ = some (.int .i64 (xs.getD j 0))) := by
  have h0 := h
  rcases h.2 with ⟨rfl, hz⟩ | ⟨g, cap, cur, rfl, _⟩
  · exact ⟨none, 0, by rw [hz], fun hp => by omega⟩
  · refine ⟨some ⟨g, 0, none⟩, cap, rfl, fun hp => ⟨g, rfl, fun j hj => ?_⟩⟩
    have := World.ownsRow.cellAt h0 j (by omega)
    rw [this]
    simp [List.getD, hj]
set_option maxHeartbeats 1600000 in
theorem eqI_same (xs : List Int) (v1 v2 : Value) (b1 b2 : Nat) (w : World) (h1 : OwnI w b1 v1 xs) (h2 : OwnI w b2 v2 xs) (hl : xs.length ≤ 1000000) :
    Calls Try.prog 25 #[v1, v2] w fun e w' => e = .returned (.bool true) ∧ ∃ k, w' = w.drewN k := by
  obtain ⟨A, c, rfl, f1⟩ := own_form h1
  obtain ⟨B, d, rfl, f2⟩ := own_form h2
  clear h1 h2
  generalize hn : xs.length = n at *
  have F1 := Lib.hid f1
  have F2 := Lib.hid f2
  clear f1 f2
  have HN := Lib.hid hn
  clear hn
  go_enter Try.func25, Try.ntmps25
  go_wp2
  go_loopw [13] (fun i wr => ∃ k j : Nat, i = .int .i64 k ∧ k ≤ n ∧ wr = w.drewN j) (fun i _ => n - (intOf i).toNat)
  case atStart => exact ⟨0, 0, rfl, by omega, rfl⟩
  case round =>
    obtain ⟨k, j, rfl, hk, rfl⟩ := hrel
    by_cases hlt : k < n
    · obtain ⟨g1, rfl, c1⟩ := F1.out (by omega)
      obtain ⟨g2, rfl, c2⟩ := F2.out (by omega)
      have d1 := c1 k hlt
      have d2 := c2 k hlt
      clear c1 c2
      generalize xs.getD k 0 = x at d1 d2
      have hk0 : (0 : Int) ≤ (k : Int) := by omega
      have hk1 : (k : Int) < (n : Int) := by omega
      go_wp2_with fail
      go_quiet (fail)
      subst_vars
      go_wp2
      go_roundw
      case rel => exact ⟨k + 1, _, by go_num, by omega, rfl⟩
      case measure => simp [intOf]; omega
    · obtain rfl : k = n := by omega
      go_wp2
      go_ret
      exact ⟨rfl, _, rfl⟩
end Go.Proofs.Ythndfckapbbbfaa
