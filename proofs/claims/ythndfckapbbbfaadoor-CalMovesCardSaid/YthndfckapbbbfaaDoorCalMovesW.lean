/-
  The walk of CalMoves: it returns true. Condition: the table of the months' lengths reads as laid ('Tab').
-/
import Derived.Test.YthndfckapbbbfaaDoorCalC
import Derived.Test.YthndfckapbbbfaaDoorCalT
namespace Go.Proofs.YthndfckapbbbfaaDoor
open Go.RowKit
set_option linter.unusedVariables false
theorem Cal.last0 : Cal.last 0 = 30 := by decide

set_option maxHeartbeats 1600000 in
theorem cm_no (n k b : Int) (w : World) (ht : Tab w) (hn : n < 0 ∨ 292193 < n) :
    Calls Tryd.prog 5 #[.int .i64 n, .int .i64 k, .int .i64 b] w fun e w' => e = .returned (.bool true) ∧ Below w.heap.size w w' := by
  have T := Lib.hid ht
  clear ht
  have l0 := Cal.last0
  have e1 := inB_f hn
  go_enter Tryd.func5, Tryd.ntmps5
  go_wp2_with (first
    | (go_at_call 15; refine (add_bad _ _ _ (by omega)).mono ?_; rintro e w' ⟨rfl, rfl⟩)
    | (go_at_call_of 16 (Value.int IntKind.i64 n); refine (last_bad _ _ hn).mono ?_; rintro e w' ⟨rfl, rfl⟩)
    | (go_at_call 17; refine (months_bad _ _ _ (by omega)).mono ?_; rintro e w' ⟨rfl, rfl⟩)
    | (go_at_call_of 16 (Value.int IntKind.i64 0); refine (last_ok 0 _ T.out (by omega) (by omega)).mono ?_; rintro e v1 ⟨rfl, hw1⟩)
    | (go_at_call 8; refine (rday_any _ _).mono ?_; rintro e w' ⟨rfl, rfl⟩))
  all_goals
    go_ret
    exact ⟨rfl, (below_via (Below.refl w.heap.size w) ((Below.refl w.heap.size w)).size hw1)⟩

set_option maxHeartbeats 1600000 in
theorem cm_bok_ok (n k b : Int) (w : World) (ht : Tab w) (h0 : 0 ≤ n) (h1 : n ≤ 292193) (k0 : -9600 ≤ k) (k1 : k ≤ 9600) (s0 : 0 ≤ Cal.mon n + k) (s1 : Cal.mon n + k < 9600) (hb0 : n ≤ b) (hb1 : b ≤ 292193) :
    Calls Tryd.prog 5 #[.int .i64 n, .int .i64 k, .int .i64 b] w fun e w' => e = .returned (.bool true) ∧ Below w.heap.size w w' := by
  have T := Lib.hid ht
  clear ht
  have l0 := Cal.last0
  have e1 := inB_t h0 h1
  have D := Cal.day_fm n h0 h1
  have nb := Cal.num_bd _ _ _ (Cal.vld_mon _ _ s0 s1 D.2.2.1)
  have ea : Cal.add n k = Cal.ofMon (Cal.mon n + k) (Cal.dD n) := by unfold Cal.add; rw [if_pos ⟨s0, s1⟩]
  have ra : ∀ w, Calls Tryd.prog 20 #[.int .i64 n, .int .i64 k] w fun e w' => e = .returned (.int .i64 (Cal.ofMon (Cal.mon n + k) (Cal.dD n))) ∧ Below w.heap.size w w' := by
    intro w; have t := radd_any n k w h0 h1 k0 k1; rwa [ea] at t
  have ao := fun w ht => add_ok n k w ht h0 h1 k0 k1 s0 s1
  have nb1 : 0 ≤ Cal.ofMon (Cal.mon n + k) (Cal.dD n) := nb.1
  generalize Cal.ofMon (Cal.mon n + k) (Cal.dD n) = X at *
  have RA := Lib.hid ra
  have AO := Lib.hid ao
  clear D nb ea ra ao s0 s1
  have e2 := inB_t (show 0 ≤ b by omega) hb1

  go_enter Tryd.func5, Tryd.ntmps5
  go_wp2_with (first
    | (go_at_call 15; refine (AO.out _ T.out).mono ?_; rintro e v1 ⟨rfl, hw1⟩)
    | (go_at_call_of 16 (Value.int IntKind.i64 n); refine (last_ok n _ (T.out.below hw1) h0 h1).mono ?_; rintro e v2 ⟨rfl, hw2⟩)
    | (go_at_call 17; refine (months_ok _ _ _ ((T.out.below hw1).below hw2) h0 hb0 hb1).mono ?_; rintro e v3 ⟨rfl, hw3⟩)
    | (go_at_call_of 16 (Value.int IntKind.i64 0); refine (last_ok 0 _ (((T.out.below hw1).below hw2).below hw3) (by omega) (by omega)).mono ?_; rintro e v4 ⟨rfl, hw4⟩)
    | (go_at_call 8; refine (rday_any _ _).mono ?_; rintro e w' ⟨rfl, rfl⟩)
    | (go_at_call 18; refine (rlast_any _ _ h0 h1).mono ?_; rintro e v5 ⟨rfl, hw5⟩)
    | (go_at_call 19; refine (rmonths_any _ _ _ h0 hb0 hb1).mono ?_; rintro e v6 ⟨rfl, hw6⟩)
    | (go_at_call 20; refine (RA.out _).mono ?_; rintro e v7 ⟨rfl, hw7⟩))
  all_goals
    go_ret
    exact ⟨rfl, (below_via (below_via (below_via (below_via (below_via (below_via (below_via (Below.refl w.heap.size w) ((Below.refl w.heap.size w)).size hw1) ((below_via (Below.refl w.heap.size w) ((Below.refl w.heap.size w)).size hw1)).size hw2) ((below_via (below_via (Below.refl w.heap.size w) ((Below.refl w.heap.size w)).size hw1) ((below_via (Below.refl w.heap.size w) ((Below.refl w.heap.size w)).size hw1)).size hw2)).size hw3) ((below_via (below_via (below_via (Below.refl w.heap.size w) ((Below.refl w.heap.size w)).size hw1) ((below_via (Below.refl w.heap.size w) ((Below.refl w.heap.size w)).size hw1)).size hw2) ((below_via (below_via (Below.refl w.heap.size w) ((Below.refl w.heap.size w)).size hw1) ((below_via (Below.refl w.heap.size w) ((Below.refl w.heap.size w)).size hw1)).size hw2)).size hw3)).size hw4) ((below_via (below_via (below_via (below_via (Below.refl w.heap.size w) ((Below.refl w.heap.size w)).size hw1) ((below_via (Below.refl w.heap.size w) ((Below.refl w.heap.size w)).size hw1)).size hw2) ((below_via (below_via (Below.refl w.heap.size w) ((Below.refl w.heap.size w)).size hw1) ((below_via (Below.refl w.heap.size w) ((Below.refl w.heap.size w)).size hw1)).size hw2)).size hw3) ((below_via (below_via (below_via (Below.refl w.heap.size w) ((Below.refl w.heap.size w)).size hw1) ((below_via (Below.refl w.heap.size w) ((Below.refl w.heap.size w)).size hw1)).size hw2) ((below_via (below_via (Below.refl w.heap.size w) ((Below.refl w.heap.size w)).size hw1) ((below_via (Below.refl w.heap.size w) ((Below.refl w.heap.size w)).size hw1)).size hw2)).size hw3)).size hw4)).size hw5) ((below_via (below_via (below_via (below_via (below_via (Below.refl w.heap.size w) ((Below.refl w.heap.size w)).size hw1) ((below_via (Below.refl w.heap.size w) ((Below.refl w.heap.size w)).size hw1)).size hw2) ((below_via (below_via (Below.refl w.heap.size w) ((Below.refl w.heap.size w)).size hw1) ((below_via (Below.refl w.heap.size w) ((Below.refl w.heap.size w)).size hw1)).size hw2)).size hw3) ((below_via (below_via (below_via (Below.refl w.heap.size w) ((Below.refl w.heap.size w)).size hw1) ((below_via (Below.refl w.heap.size w) ((Below.refl w.heap.size w)).size hw1)).size hw2) ((below_via (below_via (Below.refl w.heap.size w) ((Below.refl w.heap.size w)).size hw1) ((below_via (Below.refl w.heap.size w) ((Below.refl w.heap.size w)).size hw1)).size hw2)).size hw3)).size hw4) ((below_via (below_via (below_via (below_via (Below.refl w.heap.size w) ((Below.refl w.heap.size w)).size hw1) ((below_via (Below.refl w.heap.size w) ((Below.refl w.heap.size w)).size hw1)).size hw2) ((below_via (below_via (Below.refl w.heap.size w) ((Below.refl w.heap.size w)).size hw1) ((below_via (Below.refl w.heap.size w) ((Below.refl w.heap.size w)).size hw1)).size hw2)).size hw3) ((below_via (below_via (below_via (Below.refl w.heap.size w) ((Below.refl w.heap.size w)).size hw1) ((below_via (Below.refl w.heap.size w) ((Below.refl w.heap.size w)).size hw1)).size hw2) ((below_via (below_via (Below.refl w.heap.size w) ((Below.refl w.heap.size w)).size hw1) ((below_via (Below.refl w.heap.size w) ((Below.refl w.heap.size w)).size hw1)).size hw2)).size hw3)).size hw4)).size hw5)).size hw6) ((below_via (below_via (below_via (below_via (below_via (below_via (Below.refl w.heap.size w) ((Below.refl w.heap.size w)).size hw1) ((below_via (Below.refl w.heap.size w) ((Below.refl w.heap.size w)).size hw1)).size hw2) ((below_via (below_via (Below.refl w.heap.size w) ((Below.refl w.heap.size w)).size hw1) ((below_via (Below.refl w.heap.size w) ((Below.refl w.heap.size w)).size hw1)).size hw2)).size hw3) ((below_via (below_via (below_via (Below.refl w.heap.size w) ((Below.refl w.heap.size w)).size hw1) ((below_via (Below.refl w.heap.size w) ((Below.refl w.heap.size w)).size hw1)).size hw2) ((below_via (below_via (Below.refl w.heap.size w) ((Below.refl w.heap.size w)).size hw1) ((below_via (Below.refl w.heap.size w) ((Below.refl w.heap.size w)).size hw1)).size hw2)).size hw3)).size hw4) ((below_via (below_via (below_via (below_via (Below.refl w.heap.size w) ((Below.refl w.heap.size w)).size hw1) ((below_via (Below.refl w.heap.size w) ((Below.refl w.heap.size w)).size hw1)).size hw2) ((below_via (below_via (Below.refl w.heap.size w) ((Below.refl w.heap.size w)).size hw1) ((below_via (Below.refl w.heap.size w) ((Below.refl w.heap.size w)).size hw1)).size hw2)).size hw3) ((below_via (below_via (below_via (Below.refl w.heap.size w) ((Below.refl w.heap.size w)).size hw1) ((below_via (Below.refl w.heap.size w) ((Below.refl w.heap.size w)).size hw1)).size hw2) ((below_via (below_via (Below.refl w.heap.size w) ((Below.refl w.heap.size w)).size hw1) ((below_via (Below.refl w.heap.size w) ((Below.refl w.heap.size w)).size hw1)).size hw2)).size hw3)).size hw4)).size hw5) ((below_via (below_via (below_via (below_via (below_via (Below.refl w.heap.size w) ((Below.refl w.heap.size w)).size hw1) ((below_via (Below.refl w.heap.size w) ((Below.refl w.heap.size w)).size hw1)).size hw2) ((below_via (below_via (Below.refl w.heap.size w) ((Below.refl w.heap.size w)).size hw1) ((below_via (Below.refl w.heap.size w) ((Below.refl w.heap.size w)).size hw1)).size hw2)).size hw3) ((below_via (below_via (below_via (Below.refl w.heap.size w) ((Below.refl w.heap.size w)).size hw1) ((below_via (Below.refl w.heap.size w) ((Below.refl w.heap.size w)).size hw1)).size hw2) ((below_via (below_via (Below.refl w.heap.size w) ((Below.refl w.heap.size w)).size hw1) ((below_via (Below.refl w.heap.size w) ((Below.refl w.heap.size w)).size hw1)).size hw2)).size hw3)).size hw4) ((below_via (below_via (below_via (below_via (Below.refl w.heap.size w) ((Below.refl w.heap.size w)).size hw1) ((below_via (Below.refl w.heap.size w) ((Below.refl w.heap.size w)).size hw1)).size hw2) ((below_via (below_via (Below.refl w.heap.size w) ((Below.refl w.heap.size w)).size hw1) ((below_via (Below.refl w.heap.size w) ((Below.refl w.heap.size w)).size hw1)).size hw2)).size hw3) ((below_via (below_via (below_via (Below.refl w.heap.size w) ((Below.refl w.heap.size w)).size hw1) ((below_via (Below.refl w.heap.size w) ((Below.refl w.heap.size w)).size hw1)).size hw2) ((below_via (below_via (Below.refl w.heap.size w) ((Below.refl w.heap.size w)).size hw1) ((below_via (Below.refl w.heap.size w) ((Below.refl w.heap.size w)).size hw1)).size hw2)).size hw3)).size hw4)).size hw5)).size hw6)).size hw7)⟩

set_option maxHeartbeats 1600000 in
theorem cm_bok_large (n k b : Int) (w : World) (ht : Tab w) (h0 : 0 ≤ n) (h1 : n ≤ 292193) (k0 : -9600 ≤ k) (k1 : k ≤ 9600) (s : Cal.mon n + k < 0 ∨ 9600 ≤ Cal.mon n + k) (hb0 : n ≤ b) (hb1 : b ≤ 292193) :
    Calls Tryd.prog 5 #[.int .i64 n, .int .i64 k, .int .i64 b] w fun e w' => e = .returned (.bool true) ∧ Below w.heap.size w w' := by
  have T := Lib.hid ht
  clear ht
  have l0 := Cal.last0
  have e1 := inB_t h0 h1
  have ea : Cal.add n k = -1 := by unfold Cal.add; rw [if_neg (by omega)]
  have ra : ∀ w, Calls Tryd.prog 20 #[.int .i64 n, .int .i64 k] w fun e w' => e = .returned (.int .i64 (-1)) ∧ Below w.heap.size w w' := by
    intro w; have t := radd_any n k w h0 h1 k0 k1; rwa [ea] at t
  have ao := fun w ht => add_large n k w ht h0 h1 k0 k1 s
  have RA := Lib.hid ra
  have AO := Lib.hid ao
  clear ea ra ao s
  have e2 := inB_t (show 0 ≤ b by omega) hb1

  go_enter Tryd.func5, Tryd.ntmps5
  go_wp2_with (first
    | (go_at_call 15; refine (AO.out _ T.out).mono ?_; rintro e v1 ⟨rfl, hw1⟩)
    | (go_at_call_of 16 (Value.int IntKind.i64 n); refine (last_ok n _ (T.out.below hw1) h0 h1).mono ?_; rintro e v2 ⟨rfl, hw2⟩)
    | (go_at_call 17; refine (months_ok _ _ _ ((T.out.below hw1).below hw2) h0 hb0 hb1).mono ?_; rintro e v3 ⟨rfl, hw3⟩)
    | (go_at_call_of 16 (Value.int IntKind.i64 0); refine (last_ok 0 _ (((T.out.below hw1).below hw2).below hw3) (by omega) (by omega)).mono ?_; rintro e v4 ⟨rfl, hw4⟩)
    | (go_at_call 8; refine (rday_any _ _).mono ?_; rintro e w' ⟨rfl, rfl⟩)
    | (go_at_call 18; refine (rlast_any _ _ h0 h1).mono ?_; rintro e v5 ⟨rfl, hw5⟩)
    | (go_at_call 19; refine (rmonths_any _ _ _ h0 hb0 hb1).mono ?_; rintro e v6 ⟨rfl, hw6⟩)
    | (go_at_call 20; refine (RA.out _).mono ?_; rintro e v7 ⟨rfl, hw7⟩))
  all_goals
    go_ret
    exact ⟨rfl, (below_via (below_via (below_via (below_via (below_via (below_via (below_via (Below.refl w.heap.size w) ((Below.refl w.heap.size w)).size hw1) ((below_via (Below.refl w.heap.size w) ((Below.refl w.heap.size w)).size hw1)).size hw2) ((below_via (below_via (Below.refl w.heap.size w) ((Below.refl w.heap.size w)).size hw1) ((below_via (Below.refl w.heap.size w) ((Below.refl w.heap.size w)).size hw1)).size hw2)).size hw3) ((below_via (below_via (below_via (Below.refl w.heap.size w) ((Below.refl w.heap.size w)).size hw1) ((below_via (Below.refl w.heap.size w) ((Below.refl w.heap.size w)).size hw1)).size hw2) ((below_via (below_via (Below.refl w.heap.size w) ((Below.refl w.heap.size w)).size hw1) ((below_via (Below.refl w.heap.size w) ((Below.refl w.heap.size w)).size hw1)).size hw2)).size hw3)).size hw4) ((below_via (below_via (below_via (below_via (Below.refl w.heap.size w) ((Below.refl w.heap.size w)).size hw1) ((below_via (Below.refl w.heap.size w) ((Below.refl w.heap.size w)).size hw1)).size hw2) ((below_via (below_via (Below.refl w.heap.size w) ((Below.refl w.heap.size w)).size hw1) ((below_via (Below.refl w.heap.size w) ((Below.refl w.heap.size w)).size hw1)).size hw2)).size hw3) ((below_via (below_via (below_via (Below.refl w.heap.size w) ((Below.refl w.heap.size w)).size hw1) ((below_via (Below.refl w.heap.size w) ((Below.refl w.heap.size w)).size hw1)).size hw2) ((below_via (below_via (Below.refl w.heap.size w) ((Below.refl w.heap.size w)).size hw1) ((below_via (Below.refl w.heap.size w) ((Below.refl w.heap.size w)).size hw1)).size hw2)).size hw3)).size hw4)).size hw5) ((below_via (below_via (below_via (below_via (below_via (Below.refl w.heap.size w) ((Below.refl w.heap.size w)).size hw1) ((below_via (Below.refl w.heap.size w) ((Below.refl w.heap.size w)).size hw1)).size hw2) ((below_via (below_via (Below.refl w.heap.size w) ((Below.refl w.heap.size w)).size hw1) ((below_via (Below.refl w.heap.size w) ((Below.refl w.heap.size w)).size hw1)).size hw2)).size hw3) ((below_via (below_via (below_via (Below.refl w.heap.size w) ((Below.refl w.heap.size w)).size hw1) ((below_via (Below.refl w.heap.size w) ((Below.refl w.heap.size w)).size hw1)).size hw2) ((below_via (below_via (Below.refl w.heap.size w) ((Below.refl w.heap.size w)).size hw1) ((below_via (Below.refl w.heap.size w) ((Below.refl w.heap.size w)).size hw1)).size hw2)).size hw3)).size hw4) ((below_via (below_via (below_via (below_via (Below.refl w.heap.size w) ((Below.refl w.heap.size w)).size hw1) ((below_via (Below.refl w.heap.size w) ((Below.refl w.heap.size w)).size hw1)).size hw2) ((below_via (below_via (Below.refl w.heap.size w) ((Below.refl w.heap.size w)).size hw1) ((below_via (Below.refl w.heap.size w) ((Below.refl w.heap.size w)).size hw1)).size hw2)).size hw3) ((below_via (below_via (below_via (Below.refl w.heap.size w) ((Below.refl w.heap.size w)).size hw1) ((below_via (Below.refl w.heap.size w) ((Below.refl w.heap.size w)).size hw1)).size hw2) ((below_via (below_via (Below.refl w.heap.size w) ((Below.refl w.heap.size w)).size hw1) ((below_via (Below.refl w.heap.size w) ((Below.refl w.heap.size w)).size hw1)).size hw2)).size hw3)).size hw4)).size hw5)).size hw6) ((below_via (below_via (below_via (below_via (below_via (below_via (Below.refl w.heap.size w) ((Below.refl w.heap.size w)).size hw1) ((below_via (Below.refl w.heap.size w) ((Below.refl w.heap.size w)).size hw1)).size hw2) ((below_via (below_via (Below.refl w.heap.size w) ((Below.refl w.heap.size w)).size hw1) ((below_via (Below.refl w.heap.size w) ((Below.refl w.heap.size w)).size hw1)).size hw2)).size hw3) ((below_via (below_via (below_via (Below.refl w.heap.size w) ((Below.refl w.heap.size w)).size hw1) ((below_via (Below.refl w.heap.size w) ((Below.refl w.heap.size w)).size hw1)).size hw2) ((below_via (below_via (Below.refl w.heap.size w) ((Below.refl w.heap.size w)).size hw1) ((below_via (Below.refl w.heap.size w) ((Below.refl w.heap.size w)).size hw1)).size hw2)).size hw3)).size hw4) ((below_via (below_via (below_via (below_via (Below.refl w.heap.size w) ((Below.refl w.heap.size w)).size hw1) ((below_via (Below.refl w.heap.size w) ((Below.refl w.heap.size w)).size hw1)).size hw2) ((below_via (below_via (Below.refl w.heap.size w) ((Below.refl w.heap.size w)).size hw1) ((below_via (Below.refl w.heap.size w) ((Below.refl w.heap.size w)).size hw1)).size hw2)).size hw3) ((below_via (below_via (below_via (Below.refl w.heap.size w) ((Below.refl w.heap.size w)).size hw1) ((below_via (Below.refl w.heap.size w) ((Below.refl w.heap.size w)).size hw1)).size hw2) ((below_via (below_via (Below.refl w.heap.size w) ((Below.refl w.heap.size w)).size hw1) ((below_via (Below.refl w.heap.size w) ((Below.refl w.heap.size w)).size hw1)).size hw2)).size hw3)).size hw4)).size hw5) ((below_via (below_via (below_via (below_via (below_via (Below.refl w.heap.size w) ((Below.refl w.heap.size w)).size hw1) ((below_via (Below.refl w.heap.size w) ((Below.refl w.heap.size w)).size hw1)).size hw2) ((below_via (below_via (Below.refl w.heap.size w) ((Below.refl w.heap.size w)).size hw1) ((below_via (Below.refl w.heap.size w) ((Below.refl w.heap.size w)).size hw1)).size hw2)).size hw3) ((below_via (below_via (below_via (Below.refl w.heap.size w) ((Below.refl w.heap.size w)).size hw1) ((below_via (Below.refl w.heap.size w) ((Below.refl w.heap.size w)).size hw1)).size hw2) ((below_via (below_via (Below.refl w.heap.size w) ((Below.refl w.heap.size w)).size hw1) ((below_via (Below.refl w.heap.size w) ((Below.refl w.heap.size w)).size hw1)).size hw2)).size hw3)).size hw4) ((below_via (below_via (below_via (below_via (Below.refl w.heap.size w) ((Below.refl w.heap.size w)).size hw1) ((below_via (Below.refl w.heap.size w) ((Below.refl w.heap.size w)).size hw1)).size hw2) ((below_via (below_via (Below.refl w.heap.size w) ((Below.refl w.heap.size w)).size hw1) ((below_via (Below.refl w.heap.size w) ((Below.refl w.heap.size w)).size hw1)).size hw2)).size hw3) ((below_via (below_via (below_via (Below.refl w.heap.size w) ((Below.refl w.heap.size w)).size hw1) ((below_via (Below.refl w.heap.size w) ((Below.refl w.heap.size w)).size hw1)).size hw2) ((below_via (below_via (Below.refl w.heap.size w) ((Below.refl w.heap.size w)).size hw1) ((below_via (Below.refl w.heap.size w) ((Below.refl w.heap.size w)).size hw1)).size hw2)).size hw3)).size hw4)).size hw5)).size hw6)).size hw7)⟩

set_option maxHeartbeats 1600000 in
theorem cm_bok_bad (n k b : Int) (w : World) (ht : Tab w) (h0 : 0 ≤ n) (h1 : n ≤ 292193) (s : k < -9600 ∨ 9600 < k) (hb0 : n ≤ b) (hb1 : b ≤ 292193) :
    Calls Tryd.prog 5 #[.int .i64 n, .int .i64 k, .int .i64 b] w fun e w' => e = .returned (.bool true) ∧ Below w.heap.size w w' := by
  have T := Lib.hid ht
  clear ht
  have l0 := Cal.last0
  have e1 := inB_t h0 h1
  have e2 := inB_t (show 0 ≤ b by omega) hb1

  go_enter Tryd.func5, Tryd.ntmps5
  go_wp2_with (first
    | (go_at_call 15; refine (add_bad _ _ _ (by omega)).mono ?_; rintro e w' ⟨rfl, rfl⟩)
    | (go_at_call_of 16 (Value.int IntKind.i64 n); refine (last_ok n _ T.out h0 h1).mono ?_; rintro e v1 ⟨rfl, hw1⟩)
    | (go_at_call 17; refine (months_ok _ _ _ (T.out.below hw1) h0 hb0 hb1).mono ?_; rintro e v2 ⟨rfl, hw2⟩)
    | (go_at_call_of 16 (Value.int IntKind.i64 0); refine (last_ok 0 _ ((T.out.below hw1).below hw2) (by omega) (by omega)).mono ?_; rintro e v3 ⟨rfl, hw3⟩)
    | (go_at_call 8; refine (rday_any _ _).mono ?_; rintro e w' ⟨rfl, rfl⟩)
    | (go_at_call 18; refine (rlast_any _ _ h0 h1).mono ?_; rintro e v4 ⟨rfl, hw4⟩)
    | (go_at_call 19; refine (rmonths_any _ _ _ h0 hb0 hb1).mono ?_; rintro e v5 ⟨rfl, hw5⟩))
  all_goals
    go_ret
    exact ⟨rfl, (below_via (below_via (below_via (below_via (below_via (Below.refl w.heap.size w) ((Below.refl w.heap.size w)).size hw1) ((below_via (Below.refl w.heap.size w) ((Below.refl w.heap.size w)).size hw1)).size hw2) ((below_via (below_via (Below.refl w.heap.size w) ((Below.refl w.heap.size w)).size hw1) ((below_via (Below.refl w.heap.size w) ((Below.refl w.heap.size w)).size hw1)).size hw2)).size hw3) ((below_via (below_via (below_via (Below.refl w.heap.size w) ((Below.refl w.heap.size w)).size hw1) ((below_via (Below.refl w.heap.size w) ((Below.refl w.heap.size w)).size hw1)).size hw2) ((below_via (below_via (Below.refl w.heap.size w) ((Below.refl w.heap.size w)).size hw1) ((below_via (Below.refl w.heap.size w) ((Below.refl w.heap.size w)).size hw1)).size hw2)).size hw3)).size hw4) ((below_via (below_via (below_via (below_via (Below.refl w.heap.size w) ((Below.refl w.heap.size w)).size hw1) ((below_via (Below.refl w.heap.size w) ((Below.refl w.heap.size w)).size hw1)).size hw2) ((below_via (below_via (Below.refl w.heap.size w) ((Below.refl w.heap.size w)).size hw1) ((below_via (Below.refl w.heap.size w) ((Below.refl w.heap.size w)).size hw1)).size hw2)).size hw3) ((below_via (below_via (below_via (Below.refl w.heap.size w) ((Below.refl w.heap.size w)).size hw1) ((below_via (Below.refl w.heap.size w) ((Below.refl w.heap.size w)).size hw1)).size hw2) ((below_via (below_via (Below.refl w.heap.size w) ((Below.refl w.heap.size w)).size hw1) ((below_via (Below.refl w.heap.size w) ((Below.refl w.heap.size w)).size hw1)).size hw2)).size hw3)).size hw4)).size hw5)⟩

set_option maxHeartbeats 1600000 in
theorem cm_bbad_ok_in (n k b : Int) (w : World) (ht : Tab w) (h0 : 0 ≤ n) (h1 : n ≤ 292193) (k0 : -9600 ≤ k) (k1 : k ≤ 9600) (s0 : 0 ≤ Cal.mon n + k) (s1 : Cal.mon n + k < 9600) (e2 : inB b 0 292193 = true) (hb : b < n) :
    Calls Tryd.prog 5 #[.int .i64 n, .int .i64 k, .int .i64 b] w fun e w' => e = .returned (.bool true) ∧ Below w.heap.size w w' := by
  have T := Lib.hid ht
  clear ht
  have l0 := Cal.last0
  have e1 := inB_t h0 h1
  have D := Cal.day_fm n h0 h1
  have nb := Cal.num_bd _ _ _ (Cal.vld_mon _ _ s0 s1 D.2.2.1)
  have ea : Cal.add n k = Cal.ofMon (Cal.mon n + k) (Cal.dD n) := by unfold Cal.add; rw [if_pos ⟨s0, s1⟩]
  have ra : ∀ w, Calls Tryd.prog 20 #[.int .i64 n, .int .i64 k] w fun e w' => e = .returned (.int .i64 (Cal.ofMon (Cal.mon n + k) (Cal.dD n))) ∧ Below w.heap.size w w' := by
    intro w; have t := radd_any n k w h0 h1 k0 k1; rwa [ea] at t
  have ao := fun w ht => add_ok n k w ht h0 h1 k0 k1 s0 s1
  have nb1 : 0 ≤ Cal.ofMon (Cal.mon n + k) (Cal.dD n) := nb.1
  generalize Cal.ofMon (Cal.mon n + k) (Cal.dD n) = X at *
  have RA := Lib.hid ra
  have AO := Lib.hid ao
  clear D nb ea ra ao s0 s1

  go_enter Tryd.func5, Tryd.ntmps5
  go_wp2_with (first
    | (go_at_call 15; refine (AO.out _ T.out).mono ?_; rintro e v1 ⟨rfl, hw1⟩)
    | (go_at_call_of 16 (Value.int IntKind.i64 n); refine (last_ok n _ (T.out.below hw1) h0 h1).mono ?_; rintro e v2 ⟨rfl, hw2⟩)
    | (go_at_call 17; refine (months_bad _ _ _ (by omega)).mono ?_; rintro e w' ⟨rfl, rfl⟩)
    | (go_at_call_of 16 (Value.int IntKind.i64 0); refine (last_ok 0 _ ((T.out.below hw1).below hw2) (by omega) (by omega)).mono ?_; rintro e v3 ⟨rfl, hw3⟩)
    | (go_at_call 8; refine (rday_any _ _).mono ?_; rintro e w' ⟨rfl, rfl⟩)
    | (go_at_call 18; refine (rlast_any _ _ h0 h1).mono ?_; rintro e v4 ⟨rfl, hw4⟩)
    | (go_at_call 20; refine (RA.out _).mono ?_; rintro e v5 ⟨rfl, hw5⟩))
  all_goals
    go_ret
    exact ⟨rfl, (below_via (below_via (below_via (below_via (below_via (Below.refl w.heap.size w) ((Below.refl w.heap.size w)).size hw1) ((below_via (Below.refl w.heap.size w) ((Below.refl w.heap.size w)).size hw1)).size hw2) ((below_via (below_via (Below.refl w.heap.size w) ((Below.refl w.heap.size w)).size hw1) ((below_via (Below.refl w.heap.size w) ((Below.refl w.heap.size w)).size hw1)).size hw2)).size hw3) ((below_via (below_via (below_via (Below.refl w.heap.size w) ((Below.refl w.heap.size w)).size hw1) ((below_via (Below.refl w.heap.size w) ((Below.refl w.heap.size w)).size hw1)).size hw2) ((below_via (below_via (Below.refl w.heap.size w) ((Below.refl w.heap.size w)).size hw1) ((below_via (Below.refl w.heap.size w) ((Below.refl w.heap.size w)).size hw1)).size hw2)).size hw3)).size hw4) ((below_via (below_via (below_via (below_via (Below.refl w.heap.size w) ((Below.refl w.heap.size w)).size hw1) ((below_via (Below.refl w.heap.size w) ((Below.refl w.heap.size w)).size hw1)).size hw2) ((below_via (below_via (Below.refl w.heap.size w) ((Below.refl w.heap.size w)).size hw1) ((below_via (Below.refl w.heap.size w) ((Below.refl w.heap.size w)).size hw1)).size hw2)).size hw3) ((below_via (below_via (below_via (Below.refl w.heap.size w) ((Below.refl w.heap.size w)).size hw1) ((below_via (Below.refl w.heap.size w) ((Below.refl w.heap.size w)).size hw1)).size hw2) ((below_via (below_via (Below.refl w.heap.size w) ((Below.refl w.heap.size w)).size hw1) ((below_via (Below.refl w.heap.size w) ((Below.refl w.heap.size w)).size hw1)).size hw2)).size hw3)).size hw4)).size hw5)⟩

set_option maxHeartbeats 1600000 in
theorem cm_bbad_ok_out (n k b : Int) (w : World) (ht : Tab w) (h0 : 0 ≤ n) (h1 : n ≤ 292193) (k0 : -9600 ≤ k) (k1 : k ≤ 9600) (s0 : 0 ≤ Cal.mon n + k) (s1 : Cal.mon n + k < 9600) (e2 : inB b 0 292193 = false) (hb : ¬ (n ≤ b ∧ b ≤ 292193)) :
    Calls Tryd.prog 5 #[.int .i64 n, .int .i64 k, .int .i64 b] w fun e w' => e = .returned (.bool true) ∧ Below w.heap.size w w' := by
  have T := Lib.hid ht
  clear ht
  have l0 := Cal.last0
  have e1 := inB_t h0 h1
  have D := Cal.day_fm n h0 h1
  have nb := Cal.num_bd _ _ _ (Cal.vld_mon _ _ s0 s1 D.2.2.1)
  have ea : Cal.add n k = Cal.ofMon (Cal.mon n + k) (Cal.dD n) := by unfold Cal.add; rw [if_pos ⟨s0, s1⟩]
  have ra : ∀ w, Calls Tryd.prog 20 #[.int .i64 n, .int .i64 k] w fun e w' => e = .returned (.int .i64 (Cal.ofMon (Cal.mon n + k) (Cal.dD n))) ∧ Below w.heap.size w w' := by
    intro w; have t := radd_any n k w h0 h1 k0 k1; rwa [ea] at t
  have ao := fun w ht => add_ok n k w ht h0 h1 k0 k1 s0 s1
  have nb1 : 0 ≤ Cal.ofMon (Cal.mon n + k) (Cal.dD n) := nb.1
  generalize Cal.ofMon (Cal.mon n + k) (Cal.dD n) = X at *
  have RA := Lib.hid ra
  have AO := Lib.hid ao
  clear D nb ea ra ao s0 s1

  go_enter Tryd.func5, Tryd.ntmps5
  go_wp2_with (first
    | (go_at_call 15; refine (AO.out _ T.out).mono ?_; rintro e v1 ⟨rfl, hw1⟩)
    | (go_at_call_of 16 (Value.int IntKind.i64 n); refine (last_ok n _ (T.out.below hw1) h0 h1).mono ?_; rintro e v2 ⟨rfl, hw2⟩)
    | (go_at_call 17; refine (months_bad _ _ _ (by omega)).mono ?_; rintro e w' ⟨rfl, rfl⟩)
    | (go_at_call_of 16 (Value.int IntKind.i64 0); refine (last_ok 0 _ ((T.out.below hw1).below hw2) (by omega) (by omega)).mono ?_; rintro e v3 ⟨rfl, hw3⟩)
    | (go_at_call 8; refine (rday_any _ _).mono ?_; rintro e w' ⟨rfl, rfl⟩)
    | (go_at_call 18; refine (rlast_any _ _ h0 h1).mono ?_; rintro e v4 ⟨rfl, hw4⟩)
    | (go_at_call 20; refine (RA.out _).mono ?_; rintro e v5 ⟨rfl, hw5⟩))
  all_goals
    go_ret
    exact ⟨rfl, (below_via (below_via (below_via (below_via (below_via (Below.refl w.heap.size w) ((Below.refl w.heap.size w)).size hw1) ((below_via (Below.refl w.heap.size w) ((Below.refl w.heap.size w)).size hw1)).size hw2) ((below_via (below_via (Below.refl w.heap.size w) ((Below.refl w.heap.size w)).size hw1) ((below_via (Below.refl w.heap.size w) ((Below.refl w.heap.size w)).size hw1)).size hw2)).size hw3) ((below_via (below_via (below_via (Below.refl w.heap.size w) ((Below.refl w.heap.size w)).size hw1) ((below_via (Below.refl w.heap.size w) ((Below.refl w.heap.size w)).size hw1)).size hw2) ((below_via (below_via (Below.refl w.heap.size w) ((Below.refl w.heap.size w)).size hw1) ((below_via (Below.refl w.heap.size w) ((Below.refl w.heap.size w)).size hw1)).size hw2)).size hw3)).size hw4) ((below_via (below_via (below_via (below_via (Below.refl w.heap.size w) ((Below.refl w.heap.size w)).size hw1) ((below_via (Below.refl w.heap.size w) ((Below.refl w.heap.size w)).size hw1)).size hw2) ((below_via (below_via (Below.refl w.heap.size w) ((Below.refl w.heap.size w)).size hw1) ((below_via (Below.refl w.heap.size w) ((Below.refl w.heap.size w)).size hw1)).size hw2)).size hw3) ((below_via (below_via (below_via (Below.refl w.heap.size w) ((Below.refl w.heap.size w)).size hw1) ((below_via (Below.refl w.heap.size w) ((Below.refl w.heap.size w)).size hw1)).size hw2) ((below_via (below_via (Below.refl w.heap.size w) ((Below.refl w.heap.size w)).size hw1) ((below_via (Below.refl w.heap.size w) ((Below.refl w.heap.size w)).size hw1)).size hw2)).size hw3)).size hw4)).size hw5)⟩

theorem cm_bbad_ok (n k b : Int) (w : World) (ht : Tab w) (h0 : 0 ≤ n) (h1 : n ≤ 292193) (k0 : -9600 ≤ k) (k1 : k ≤ 9600) (s0 : 0 ≤ Cal.mon n + k) (s1 : Cal.mon n + k < 9600) (hb : ¬ (n ≤ b ∧ b ≤ 292193)) :
    Calls Tryd.prog 5 #[.int .i64 n, .int .i64 k, .int .i64 b] w fun e w' => e = .returned (.bool true) ∧ Below w.heap.size w w' := by
  by_cases hd : 0 ≤ b ∧ b ≤ 292193
  · exact cm_bbad_ok_in n k b w ht h0 h1 k0 k1 s0 s1 (inB_t hd.1 hd.2) (by omega)
  · exact cm_bbad_ok_out n k b w ht h0 h1 k0 k1 s0 s1 (inB_f (by omega)) hb

set_option maxHeartbeats 1600000 in
theorem cm_bbad_large_in (n k b : Int) (w : World) (ht : Tab w) (h0 : 0 ≤ n) (h1 : n ≤ 292193) (k0 : -9600 ≤ k) (k1 : k ≤ 9600) (s : Cal.mon n + k < 0 ∨ 9600 ≤ Cal.mon n + k) (e2 : inB b 0 292193 = true) (hb : b < n) :
    Calls Tryd.prog 5 #[.int .i64 n, .int .i64 k, .int .i64 b] w fun e w' => e = .returned (.bool true) ∧ Below w.heap.size w w' := by
  have T := Lib.hid ht
  clear ht
  have l0 := Cal.last0
  have e1 := inB_t h0 h1
  have ea : Cal.add n k = -1 := by unfold Cal.add; rw [if_neg (by omega)]
  have ra : ∀ w, Calls Tryd.prog 20 #[.int .i64 n, .int .i64 k] w fun e w' => e = .returned (.int .i64 (-1)) ∧ Below w.heap.size w w' := by
    intro w; have t := radd_any n k w h0 h1 k0 k1; rwa [ea] at t
  have ao := fun w ht => add_large n k w ht h0 h1 k0 k1 s
  have RA := Lib.hid ra
  have AO := Lib.hid ao
  clear ea ra ao s

  go_enter Tryd.func5, Tryd.ntmps5
  go_wp2_with (first
    | (go_at_call 15; refine (AO.out _ T.out).mono ?_; rintro e v1 ⟨rfl, hw1⟩)
    | (go_at_call_of 16 (Value.int IntKind.i64 n); refine (last_ok n _ (T.out.below hw1) h0 h1).mono ?_; rintro e v2 ⟨rfl, hw2⟩)
    | (go_at_call 17; refine (months_bad _ _ _ (by omega)).mono ?_; rintro e w' ⟨rfl, rfl⟩)
    | (go_at_call_of 16 (Value.int IntKind.i64 0); refine (last_ok 0 _ ((T.out.below hw1).below hw2) (by omega) (by omega)).mono ?_; rintro e v3 ⟨rfl, hw3⟩)
    | (go_at_call 8; refine (rday_any _ _).mono ?_; rintro e w' ⟨rfl, rfl⟩)
    | (go_at_call 18; refine (rlast_any _ _ h0 h1).mono ?_; rintro e v4 ⟨rfl, hw4⟩)
    | (go_at_call 20; refine (RA.out _).mono ?_; rintro e v5 ⟨rfl, hw5⟩))
  all_goals
    go_ret
    exact ⟨rfl, (below_via (below_via (below_via (below_via (below_via (Below.refl w.heap.size w) ((Below.refl w.heap.size w)).size hw1) ((below_via (Below.refl w.heap.size w) ((Below.refl w.heap.size w)).size hw1)).size hw2) ((below_via (below_via (Below.refl w.heap.size w) ((Below.refl w.heap.size w)).size hw1) ((below_via (Below.refl w.heap.size w) ((Below.refl w.heap.size w)).size hw1)).size hw2)).size hw3) ((below_via (below_via (below_via (Below.refl w.heap.size w) ((Below.refl w.heap.size w)).size hw1) ((below_via (Below.refl w.heap.size w) ((Below.refl w.heap.size w)).size hw1)).size hw2) ((below_via (below_via (Below.refl w.heap.size w) ((Below.refl w.heap.size w)).size hw1) ((below_via (Below.refl w.heap.size w) ((Below.refl w.heap.size w)).size hw1)).size hw2)).size hw3)).size hw4) ((below_via (below_via (below_via (below_via (Below.refl w.heap.size w) ((Below.refl w.heap.size w)).size hw1) ((below_via (Below.refl w.heap.size w) ((Below.refl w.heap.size w)).size hw1)).size hw2) ((below_via (below_via (Below.refl w.heap.size w) ((Below.refl w.heap.size w)).size hw1) ((below_via (Below.refl w.heap.size w) ((Below.refl w.heap.size w)).size hw1)).size hw2)).size hw3) ((below_via (below_via (below_via (Below.refl w.heap.size w) ((Below.refl w.heap.size w)).size hw1) ((below_via (Below.refl w.heap.size w) ((Below.refl w.heap.size w)).size hw1)).size hw2) ((below_via (below_via (Below.refl w.heap.size w) ((Below.refl w.heap.size w)).size hw1) ((below_via (Below.refl w.heap.size w) ((Below.refl w.heap.size w)).size hw1)).size hw2)).size hw3)).size hw4)).size hw5)⟩

set_option maxHeartbeats 1600000 in
theorem cm_bbad_large_out (n k b : Int) (w : World) (ht : Tab w) (h0 : 0 ≤ n) (h1 : n ≤ 292193) (k0 : -9600 ≤ k) (k1 : k ≤ 9600) (s : Cal.mon n + k < 0 ∨ 9600 ≤ Cal.mon n + k) (e2 : inB b 0 292193 = false) (hb : ¬ (n ≤ b ∧ b ≤ 292193)) :
    Calls Tryd.prog 5 #[.int .i64 n, .int .i64 k, .int .i64 b] w fun e w' => e = .returned (.bool true) ∧ Below w.heap.size w w' := by
  have T := Lib.hid ht
  clear ht
  have l0 := Cal.last0
  have e1 := inB_t h0 h1
  have ea : Cal.add n k = -1 := by unfold Cal.add; rw [if_neg (by omega)]
  have ra : ∀ w, Calls Tryd.prog 20 #[.int .i64 n, .int .i64 k] w fun e w' => e = .returned (.int .i64 (-1)) ∧ Below w.heap.size w w' := by
    intro w; have t := radd_any n k w h0 h1 k0 k1; rwa [ea] at t
  have ao := fun w ht => add_large n k w ht h0 h1 k0 k1 s
  have RA := Lib.hid ra
  have AO := Lib.hid ao
  clear ea ra ao s

  go_enter Tryd.func5, Tryd.ntmps5
  go_wp2_with (first
    | (go_at_call 15; refine (AO.out _ T.out).mono ?_; rintro e v1 ⟨rfl, hw1⟩)
    | (go_at_call_of 16 (Value.int IntKind.i64 n); refine (last_ok n _ (T.out.below hw1) h0 h1).mono ?_; rintro e v2 ⟨rfl, hw2⟩)
    | (go_at_call 17; refine (months_bad _ _ _ (by omega)).mono ?_; rintro e w' ⟨rfl, rfl⟩)
    | (go_at_call_of 16 (Value.int IntKind.i64 0); refine (last_ok 0 _ ((T.out.below hw1).below hw2) (by omega) (by omega)).mono ?_; rintro e v3 ⟨rfl, hw3⟩)
    | (go_at_call 8; refine (rday_any _ _).mono ?_; rintro e w' ⟨rfl, rfl⟩)
    | (go_at_call 18; refine (rlast_any _ _ h0 h1).mono ?_; rintro e v4 ⟨rfl, hw4⟩)
    | (go_at_call 20; refine (RA.out _).mono ?_; rintro e v5 ⟨rfl, hw5⟩))
  all_goals
    go_ret
    exact ⟨rfl, (below_via (below_via (below_via (below_via (below_via (Below.refl w.heap.size w) ((Below.refl w.heap.size w)).size hw1) ((below_via (Below.refl w.heap.size w) ((Below.refl w.heap.size w)).size hw1)).size hw2) ((below_via (below_via (Below.refl w.heap.size w) ((Below.refl w.heap.size w)).size hw1) ((below_via (Below.refl w.heap.size w) ((Below.refl w.heap.size w)).size hw1)).size hw2)).size hw3) ((below_via (below_via (below_via (Below.refl w.heap.size w) ((Below.refl w.heap.size w)).size hw1) ((below_via (Below.refl w.heap.size w) ((Below.refl w.heap.size w)).size hw1)).size hw2) ((below_via (below_via (Below.refl w.heap.size w) ((Below.refl w.heap.size w)).size hw1) ((below_via (Below.refl w.heap.size w) ((Below.refl w.heap.size w)).size hw1)).size hw2)).size hw3)).size hw4) ((below_via (below_via (below_via (below_via (Below.refl w.heap.size w) ((Below.refl w.heap.size w)).size hw1) ((below_via (Below.refl w.heap.size w) ((Below.refl w.heap.size w)).size hw1)).size hw2) ((below_via (below_via (Below.refl w.heap.size w) ((Below.refl w.heap.size w)).size hw1) ((below_via (Below.refl w.heap.size w) ((Below.refl w.heap.size w)).size hw1)).size hw2)).size hw3) ((below_via (below_via (below_via (Below.refl w.heap.size w) ((Below.refl w.heap.size w)).size hw1) ((below_via (Below.refl w.heap.size w) ((Below.refl w.heap.size w)).size hw1)).size hw2) ((below_via (below_via (Below.refl w.heap.size w) ((Below.refl w.heap.size w)).size hw1) ((below_via (Below.refl w.heap.size w) ((Below.refl w.heap.size w)).size hw1)).size hw2)).size hw3)).size hw4)).size hw5)⟩

theorem cm_bbad_large (n k b : Int) (w : World) (ht : Tab w) (h0 : 0 ≤ n) (h1 : n ≤ 292193) (k0 : -9600 ≤ k) (k1 : k ≤ 9600) (s : Cal.mon n + k < 0 ∨ 9600 ≤ Cal.mon n + k) (hb : ¬ (n ≤ b ∧ b ≤ 292193)) :
    Calls Tryd.prog 5 #[.int .i64 n, .int .i64 k, .int .i64 b] w fun e w' => e = .returned (.bool true) ∧ Below w.heap.size w w' := by
  by_cases hd : 0 ≤ b ∧ b ≤ 292193
  · exact cm_bbad_large_in n k b w ht h0 h1 k0 k1 s (inB_t hd.1 hd.2) (by omega)
  · exact cm_bbad_large_out n k b w ht h0 h1 k0 k1 s (inB_f (by omega)) hb

set_option maxHeartbeats 1600000 in
theorem cm_bbad_bad_in (n k b : Int) (w : World) (ht : Tab w) (h0 : 0 ≤ n) (h1 : n ≤ 292193) (s : k < -9600 ∨ 9600 < k) (e2 : inB b 0 292193 = true) (hb : b < n) :
    Calls Tryd.prog 5 #[.int .i64 n, .int .i64 k, .int .i64 b] w fun e w' => e = .returned (.bool true) ∧ Below w.heap.size w w' := by
  have T := Lib.hid ht
  clear ht
  have l0 := Cal.last0
  have e1 := inB_t h0 h1

  go_enter Tryd.func5, Tryd.ntmps5
  go_wp2_with (first
    | (go_at_call 15; refine (add_bad _ _ _ (by omega)).mono ?_; rintro e w' ⟨rfl, rfl⟩)
    | (go_at_call_of 16 (Value.int IntKind.i64 n); refine (last_ok n _ T.out h0 h1).mono ?_; rintro e v1 ⟨rfl, hw1⟩)
    | (go_at_call 17; refine (months_bad _ _ _ (by omega)).mono ?_; rintro e w' ⟨rfl, rfl⟩)
    | (go_at_call_of 16 (Value.int IntKind.i64 0); refine (last_ok 0 _ (T.out.below hw1) (by omega) (by omega)).mono ?_; rintro e v2 ⟨rfl, hw2⟩)
    | (go_at_call 8; refine (rday_any _ _).mono ?_; rintro e w' ⟨rfl, rfl⟩)
    | (go_at_call 18; refine (rlast_any _ _ h0 h1).mono ?_; rintro e v3 ⟨rfl, hw3⟩))
  all_goals
    go_ret
    exact ⟨rfl, (below_via (below_via (below_via (Below.refl w.heap.size w) ((Below.refl w.heap.size w)).size hw1) ((below_via (Below.refl w.heap.size w) ((Below.refl w.heap.size w)).size hw1)).size hw2) ((below_via (below_via (Below.refl w.heap.size w) ((Below.refl w.heap.size w)).size hw1) ((below_via (Below.refl w.heap.size w) ((Below.refl w.heap.size w)).size hw1)).size hw2)).size hw3)⟩

set_option maxHeartbeats 1600000 in
theorem cm_bbad_bad_out (n k b : Int) (w : World) (ht : Tab w) (h0 : 0 ≤ n) (h1 : n ≤ 292193) (s : k < -9600 ∨ 9600 < k) (e2 : inB b 0 292193 = false) (hb : ¬ (n ≤ b ∧ b ≤ 292193)) :
    Calls Tryd.prog 5 #[.int .i64 n, .int .i64 k, .int .i64 b] w fun e w' => e = .returned (.bool true) ∧ Below w.heap.size w w' := by
  have T := Lib.hid ht
  clear ht
  have l0 := Cal.last0
  have e1 := inB_t h0 h1

  go_enter Tryd.func5, Tryd.ntmps5
  go_wp2_with (first
    | (go_at_call 15; refine (add_bad _ _ _ (by omega)).mono ?_; rintro e w' ⟨rfl, rfl⟩)
    | (go_at_call_of 16 (Value.int IntKind.i64 n); refine (last_ok n _ T.out h0 h1).mono ?_; rintro e v1 ⟨rfl, hw1⟩)
    | (go_at_call 17; refine (months_bad _ _ _ (by omega)).mono ?_; rintro e w' ⟨rfl, rfl⟩)
    | (go_at_call_of 16 (Value.int IntKind.i64 0); refine (last_ok 0 _ (T.out.below hw1) (by omega) (by omega)).mono ?_; rintro e v2 ⟨rfl, hw2⟩)
    | (go_at_call 8; refine (rday_any _ _).mono ?_; rintro e w' ⟨rfl, rfl⟩)
    | (go_at_call 18; refine (rlast_any _ _ h0 h1).mono ?_; rintro e v3 ⟨rfl, hw3⟩))
  all_goals
    go_ret
    exact ⟨rfl, (below_via (below_via (below_via (Below.refl w.heap.size w) ((Below.refl w.heap.size w)).size hw1) ((below_via (Below.refl w.heap.size w) ((Below.refl w.heap.size w)).size hw1)).size hw2) ((below_via (below_via (Below.refl w.heap.size w) ((Below.refl w.heap.size w)).size hw1) ((below_via (Below.refl w.heap.size w) ((Below.refl w.heap.size w)).size hw1)).size hw2)).size hw3)⟩

theorem cm_bbad_bad (n k b : Int) (w : World) (ht : Tab w) (h0 : 0 ≤ n) (h1 : n ≤ 292193) (s : k < -9600 ∨ 9600 < k) (hb : ¬ (n ≤ b ∧ b ≤ 292193)) :
    Calls Tryd.prog 5 #[.int .i64 n, .int .i64 k, .int .i64 b] w fun e w' => e = .returned (.bool true) ∧ Below w.heap.size w w' := by
  by_cases hd : 0 ≤ b ∧ b ≤ 292193
  · exact cm_bbad_bad_in n k b w ht h0 h1 s (inB_t hd.1 hd.2) (by omega)
  · exact cm_bbad_bad_out n k b w ht h0 h1 s (inB_f (by omega)) hb

theorem walkCalMoves (n : Int) (_w0 : (Lit.int .i64 n).wf = true) (k : Int) (_w1 : (Lit.int .i64 k).wf = true) (b : Int) (_w2 : (Lit.int .i64 b).wf = true) (w : World) (ht : Tab w) :
    Calls Tryd.prog 5 #[.int .i64 n, .int .i64 k, .int .i64 b] w fun e w' => e = .returned (.bool true) ∧ Below w.heap.size w w' := by
  by_cases hn : 0 ≤ n ∧ n ≤ 292193
  · obtain ⟨h0, h1⟩ := hn
    by_cases hb : n ≤ b ∧ b ≤ 292193
    · by_cases hk : -9600 ≤ k ∧ k ≤ 9600
      · by_cases hs : 0 ≤ Cal.mon n + k ∧ Cal.mon n + k < 9600
        · exact cm_bok_ok n k b w ht h0 h1 hk.1 hk.2 hs.1 hs.2 hb.1 hb.2
        · exact cm_bok_large n k b w ht h0 h1 hk.1 hk.2 (by omega) hb.1 hb.2
      · exact cm_bok_bad n k b w ht h0 h1 (by omega) hb.1 hb.2
    · by_cases hk : -9600 ≤ k ∧ k ≤ 9600
      · by_cases hs : 0 ≤ Cal.mon n + k ∧ Cal.mon n + k < 9600
        · exact cm_bbad_ok n k b w ht h0 h1 hk.1 hk.2 hs.1 hs.2 hb
        · exact cm_bbad_large n k b w ht h0 h1 hk.1 hk.2 (by omega) hb
      · exact cm_bbad_bad n k b w ht h0 h1 (by omega) hb
  · exact cm_no n k b w ht (by omega)
end Go.Proofs.YthndfckapbbbfaaDoor
