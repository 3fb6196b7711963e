/-
  The walk of CountSays: it returns true. Condition: the table of the months' lengths reads as laid ('Tab').
-/
import Derived.Test.YthndfckapbbbfaaDoorCountA
namespace Go.Proofs.YthndfckapbbbfaaDoor
open Go.RowKit
set_option linter.unusedVariables false
set_option maxHeartbeats 1600000 in
theorem walkCountSays (way : Int) (_w0 : (Lit.int .i64 way).wf = true) (a : Int) (_w1 : (Lit.int .i64 a).wf = true) (b : Int) (_w2 : (Lit.int .i64 b).wf = true) (w : World) (ht : Tab w) :
    Calls Tryd.prog 3 #[.int .i64 way, .int .i64 a, .int .i64 b] w fun e w' => e = .returned (.bool true) ∧ Below w.heap.size w w' := by
  by_cases hv : okC way a b
  · have bo := between_ok way a b w ht hv
    obtain ⟨v0, v1, a0, ab, b1⟩ := hv
    have e1 := inB_t a0 (show a ≤ 292193 by omega)
    have e2 := inB_t (show 0 ≤ b by omega) b1
    have hw : way = 0 ∨ way = 1 ∨ way = 2 := by omega
    rcases hw with rfl | rfl | rfl
    · have B := Lib.hid (show Calls Tryd.prog 7 #[.int .i64 0, .int .i64 a, .int .i64 b] w fun e w' => e = .returned (.tuple #[.agg #[.int .i64 (b - a), .int .i64 360], .int .i64 0]) ∧ Below w.heap.size w w' from bo)
      clear bo ht
      go_enter Tryd.func3, Tryd.ntmps3
      go_wp2_with (first
        | (go_at_call 7; refine B.out.mono ?_; rintro e w1 ⟨rfl, hb1⟩)
        | (go_at_call 8; refine (rday_any _ _).mono ?_; rintro e w' ⟨rfl, rfl⟩))
      go_ret
      exact ⟨rfl, Below.alloc (Below.alloc hb1 hb1.size _) (by have := hb1.size; simp; omega) _⟩
    · have B := Lib.hid (show Calls Tryd.prog 7 #[.int .i64 1, .int .i64 a, .int .i64 b] w fun e w' => e = .returned (.tuple #[.agg #[.int .i64 (b - a), .int .i64 365], .int .i64 0]) ∧ Below w.heap.size w w' from bo)
      clear bo ht
      go_enter Tryd.func3, Tryd.ntmps3
      go_wp2_with (first
        | (go_at_call 7; refine B.out.mono ?_; rintro e w1 ⟨rfl, hb1⟩)
        | (go_at_call 8; refine (rday_any _ _).mono ?_; rintro e w' ⟨rfl, rfl⟩))
      go_ret
      exact ⟨rfl, Below.alloc (Below.alloc hb1 hb1.size _) (by have := hb1.size; simp; omega) _⟩
    · have B := Lib.hid (show Calls Tryd.prog 7 #[.int .i64 2, .int .i64 a, .int .i64 b] w fun e w' => e = .returned (.tuple #[.agg #[.int .i64 (Cal.euro b - Cal.euro a), .int .i64 360], .int .i64 0]) ∧ Below w.heap.size w w' from bo)
      clear bo ht
      go_enter Tryd.func3, Tryd.ntmps3
      go_wp2_with (first
        | (go_at_call 7; refine B.out.mono ?_; rintro e w1 ⟨rfl, hb1⟩)
        | (go_at_call 8; refine (rday_any _ _).mono ?_; rintro e w' ⟨rfl, rfl⟩)
        | (go_at_call 9; refine (euro_any _ _ _ a0 (by omega) (by omega) b1).mono ?_; rintro e w2 ⟨rfl, hb2⟩
           have z2 := hb2.size
           simp only [World.size_alloc] at z2
           have k0 : w2.cell? ⟨w1.heap.size, 0, none⟩ = some (.int .i64 (Cal.euro b - Cal.euro a)) := (hb2.cell (p := ⟨w1.heap.size, 0, none⟩) (by simp; omega)).trans (by simp)
           have k1 : w2.cell? ⟨w1.heap.size, 1, none⟩ = some (.int .i64 360) := (hb2.cell (p := ⟨w1.heap.size, 1, none⟩) (by simp; omega)).trans (by simp)
           have k2 : w2.cell? ⟨w1.heap.size + 1, 0, none⟩ = some (.int .i64 (b - a)) := (hb2.cell (p := ⟨w1.heap.size + 1, 0, none⟩) (by simp)).trans (by simp)
           have k3 : w2.cell? ⟨w1.heap.size + 1, 1, none⟩ = some (.int .i64 360) := (hb2.cell (p := ⟨w1.heap.size + 1, 1, none⟩) (by simp)).trans (by simp)
           have f0 : w2.frozen? ⟨w1.heap.size + 1, 0, none⟩ = false := (hb2.frozen (p := ⟨w1.heap.size + 1, 0, none⟩) (by simp)).trans (by simp)
           have hB : Below w.heap.size w w2 := below_via (Below.alloc (Below.alloc hb1 hb1.size _) (by have := hb1.size; simp; omega) _) (by have := hb1.size; simp; omega) hb2))
      go_ret
      refine ⟨rfl, ?_⟩
      have z1 := hb1.size
      go_grown
  · have B := Lib.hid (between_bad way a b w hv)
    clear ht
    by_cases hw : 0 ≤ way ∧ way ≤ 2
    · by_cases ha : 0 ≤ a ∧ a ≤ 292193
      · have e1 := inB_t ha.1 ha.2
        by_cases hb : 0 ≤ b ∧ b ≤ 292193
        · have e2 := inB_t hb.1 hb.2
          have hl : b < a := by unfold okC at hv; omega
          clear hv
          go_enter Tryd.func3, Tryd.ntmps3
          go_wp2_with (first
            | (go_at_call 7; refine B.out.mono ?_; rintro e w1 ⟨rfl, hb1⟩)
            | (go_at_call 8; refine (rday_any _ _).mono ?_; rintro e w' ⟨rfl, rfl⟩))
          go_ret
          exact ⟨rfl, Below.alloc hb1 hb1.size _⟩
        · have e2 : inB b 0 292193 = false := inB_f (by omega)
          clear hv hb
          go_enter Tryd.func3, Tryd.ntmps3
          go_wp2_with (first
            | (go_at_call 7; refine B.out.mono ?_; rintro e w1 ⟨rfl, hb1⟩)
            | (go_at_call 8; refine (rday_any _ _).mono ?_; rintro e w' ⟨rfl, rfl⟩))
          go_ret
          exact ⟨rfl, Below.alloc hb1 hb1.size _⟩
      · have e1 : inB a 0 292193 = false := inB_f (by omega)
        clear hv ha
        go_enter Tryd.func3, Tryd.ntmps3
        go_wp2_with (first
          | (go_at_call 7; refine B.out.mono ?_; rintro e w1 ⟨rfl, hb1⟩)
          | (go_at_call 8; refine (rday_any _ _).mono ?_; rintro e w' ⟨rfl, rfl⟩))
        go_ret
        exact ⟨rfl, Below.alloc hb1 hb1.size _⟩
    · have hw' : way < 0 ∨ 2 < way := by omega
      clear hv hw
      rcases hw' with hw' | hw'
      all_goals
        go_enter Tryd.func3, Tryd.ntmps3
        go_wp2_with (first
          | (go_at_call 7; refine B.out.mono ?_; rintro e w1 ⟨rfl, hb1⟩)
          | (go_at_call 8; refine (rday_any _ _).mono ?_; rintro e w' ⟨rfl, rfl⟩))
        go_ret
        exact ⟨rfl, Below.alloc hb1 hb1.size _⟩
end Go.Proofs.YthndfckapbbbfaaDoor
