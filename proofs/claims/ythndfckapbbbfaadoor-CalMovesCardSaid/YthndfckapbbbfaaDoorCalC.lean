/-
  Contracts: cal.Months. Condition: the table of the months' lengths reads as laid ('Tab').
-/
import Derived.Test.YthndfckapbbbfaaDoorCalB
namespace Go.Proofs.YthndfckapbbbfaaDoor
open Go.RowKit
set_option linter.unusedVariables false
set_option maxHeartbeats 1600000 in
theorem months_ok (a b : Int) (w : World) (ht : Tab w) (h0 : 0 ≤ a) (h1 : a ≤ b) (h2 : b ≤ 292193) :
    Calls Tryd.prog 17 #[.int .i64 a, .int .i64 b] w fun e w' => e = .returned (.tuple #[.int .i64 (Cal.months a b), .int .i64 0]) ∧ Below w.heap.size w w' := by
  have b1 := inB_t h0 (show a ≤ 292193 by omega)
  have b2 := inB_t (show 0 ≤ b by omega) h2
  obtain ⟨⟨y1, y2, m1, m2, d1, d2⟩, _⟩ := Cal.date_ok a h0 (by omega)
  obtain ⟨⟨y3, y4, m3, m4, d3, d4⟩, _⟩ := Cal.date_ok b (by omega) h2
  have M := Lib.hid (show Cal.months a b = if b < Cal.ofMon (Cal.mon b) (Cal.dD a) then Cal.mon b - Cal.mon a - 1 else Cal.mon b - Cal.mon a from rfl)
  obtain ⟨k0, k1⟩ := Cal.mon_bd b (by omega) h2
  obtain ⟨k2, k3⟩ := Cal.mon_bd a (by omega) (by omega)
  obtain ⟨e0, e1⟩ : 0 ≤ Cal.ofMon (Cal.mon b) (Cal.dD a) ∧ Cal.ofMon (Cal.mon b) (Cal.dD a) ≤ 292193 := Cal.num_bd _ _ _ (Cal.vld_mon _ _ k0 k1 d1)
  have em : 12 * (Cal.dY b - Cal.dY a) + Cal.dM b - Cal.dM a = Cal.mon b - Cal.mon a := by unfold Cal.mon; omega
  have tc : ∀ (w : World), Tab w → Calls Tryd.prog 15 #[.int .i64 a, .int .i64 (12 * (Cal.dY b - Cal.dY a) + Cal.dM b - Cal.dM a)] w fun e w' => e = .returned (.tuple #[.int .i64 (Cal.ofMon (Cal.mon b) (Cal.dD a)), .int .i64 0]) ∧ Below w.heap.size w w' := by
    intro w ht
    have t := add_ok a (Cal.mon b - Cal.mon a) w ht h0 (by omega) (by omega) (by omega) (by omega) (by omega)
    rw [show Cal.mon a + (Cal.mon b - Cal.mon a) = Cal.mon b by omega] at t
    rw [em]
    exact t
  have C := Lib.hid tc
  have E := Lib.hid em
  have T := Lib.hid ht
  clear ht tc em k0 k1 k2 k3
  by_cases hc : b < Cal.ofMon (Cal.mon b) (Cal.dD a)
  all_goals
    go_enter Tryd.func17, Tryd.ntmps17
    go_wp2_with (first
      | (go_at_call 29; refine (is_any _ _).mono ?_; rintro e w' ⟨rfl, rfl⟩)
      | (go_at_call_of 30 (Value.int IntKind.i64 a); refine (plain_any _ _ T.out h0 (by omega)).mono ?_; rintro e w1 ⟨rfl, hb1⟩)
      | (go_at_call_of 30 (Value.int IntKind.i64 b); refine (plain_any _ _ (T.out.below hb1) (by omega) h2).mono ?_; rintro e w2 ⟨rfl, hb2⟩)
      | (go_at_call 15; refine (C.out _ (Tab.alloc (Tab.alloc ((T.out.below hb1).below hb2) _) _)).mono ?_; rintro e w3 ⟨rfl, hb3⟩))
    go_ret2
    refine ⟨?_, below_via (Below.alloc (Below.alloc (below_via hb1 hb1.size hb2) (Nat.le_trans hb1.size hb2.size) _) (by have := hb1.size; have := hb2.size; simp; omega) _) (by have := hb1.size; have := hb2.size; simp; omega) hb3⟩
    have em := E.out
    rw [M.out]
    first
      | (rw [if_pos (by omega), ← em]; rfl)
      | (rw [if_neg (by omega), ← em]; rfl)
theorem months_bad (a b : Int) (w : World) (h : ¬ (0 ≤ a ∧ a ≤ b ∧ b ≤ 292193)) :
    Calls Tryd.prog 17 #[.int .i64 a, .int .i64 b] w fun e w' => e = .returned (.tuple #[.int .i64 0, .int .i64 1]) ∧ w = w' := by
  by_cases ha : 0 ≤ a ∧ a ≤ 292193
  · have b1 := inB_t ha.1 ha.2
    by_cases hb : 0 ≤ b ∧ b ≤ 292193
    · have b2 := inB_t hb.1 hb.2
      have hl : b < a := by omega
      clear h
      go_enter Tryd.func17, Tryd.ntmps17
      go_wp2_with (go_at_call 29; refine (is_any _ _).mono ?_; rintro e w' ⟨rfl, rfl⟩)
      go_ret2
      exact ⟨rfl, rfl⟩
    · have b2 : inB b 0 292193 = false := inB_f (by omega)
      clear h hb
      go_enter Tryd.func17, Tryd.ntmps17
      go_wp2_with (go_at_call 29; refine (is_any _ _).mono ?_; rintro e w' ⟨rfl, rfl⟩)
      go_ret2
      exact ⟨rfl, rfl⟩
  · have b1 : inB a 0 292193 = false := inB_f (by omega)
    clear h ha
    go_enter Tryd.func17, Tryd.ntmps17
    go_wp2_with (go_at_call 29; refine (is_any _ _).mono ?_; rintro e w' ⟨rfl, rfl⟩)
    go_ret2
    exact ⟨rfl, rfl⟩
end Go.Proofs.YthndfckapbbbfaaDoor
