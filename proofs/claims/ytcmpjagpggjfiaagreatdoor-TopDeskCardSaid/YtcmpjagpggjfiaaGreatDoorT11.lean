/-
  Contracts of package cal: Of, Date, Weekday, Add, Last, Months. Condition: the table of the months' lengths reads as laid ('Tab').
-/
import Derived.Test.YtcmpjagpggjfiaaGreatDoorT09
import Derived.StillTailTactics
set_option linter.unusedVariables false
namespace Go.Proofs.YtcmpjagpggjfiaaGreatDoor
open Go.RowKit
set_option maxHeartbeats 400000 in
theorem date_ok (n : Int) (w : World) (ht : Tab w) (h0 : 0 ≤ n) (h1 : n ≤ 292193) :
  Calls Tryz.prog 70 #[.int .i64 n] w fun e w' => e = .returned (.tuple #[.agg #[.int .i64 (Cal.dY n), .int .i64 (Cal.dM n), .int .i64 (Cal.dD n)], .int .i64 0]) ∧ Below w.heap.size w w' := by
 have b := inB_t h0 h1
 have T := Lib.hid (ht.alloc (.cells #[.int .i64 0, .int .i64 0, .int .i64 0] 102))
 clear ht
 go_enter Tryz.func70, Tryz.ntmps70
 go_wp2_with (first
  | (go_at_call 38; refine (is_any _ _).mono ?_; rintro e w' ⟨rfl, rfl⟩)
  | (go_at_call 115; refine (plain_any _ _ T.out h0 h1).mono ?_; rintro e w1 ⟨rfl, hb⟩; obtain ⟨hc, hf⟩ := bcell hb; have z := hb.size; simp at z))
 have k0 : w1.cell? ⟨w.heap.size, 0, none⟩ = some (.int .i64 0) := by rw [hc _ _ (by simp)]; simp
 have k1 : w1.cell? ⟨w.heap.size, 1, none⟩ = some (.int .i64 0) := by rw [hc _ _ (by simp)]; simp
 have k2 : w1.cell? ⟨w.heap.size, 2, none⟩ = some (.int .i64 0) := by rw [hc _ _ (by simp)]; simp
 refine bodyPost_ret (v := .tuple #[.agg #[.int .i64 (Cal.dY n), .int .i64 (Cal.dM n), .int .i64 (Cal.dD n)], .int .i64 0]) (by simp [results, Tryz.results70, go_sem, k0, k1, k2]) rfl ⟨rfl, ?_⟩
 exact (((below_via ((Below.refl _ _).alloc (Nat.le_refl _) _) (by simp) hb).setCell (by simp) _).setCell (by simp) _).setCell (by simp) _
theorem still_left {P : Program} {f : FuncId} {args : Array Value} {w : World} {v : Value} (h : Calls P f args w fun e w' => e = .returned v ∧ w = w') : Calls P f args w fun e w' => e = .returned v ∧ w' = w :=
 h.mono fun _ _ ⟨he, hw⟩ => ⟨he, hw.symm⟩
set_option maxRecDepth 20000 in
set_option maxHeartbeats 1600000 in
theorem add_ok (n k : Int) (w : World) (ht : Tab w) (h0 : 0 ≤ n) (h1 : n ≤ 292193) (k0 : -9600 ≤ k) (k1 : k ≤ 9600) (h2 : 0 ≤ Cal.mon n + k) (h3 : Cal.mon n + k < 9600) :
  Calls Tryz.prog 49 #[.int .i64 n, .int .i64 k] w fun e w' => e = .returned (.tuple #[.int .i64 (Cal.ofMon (Cal.mon n + k) (Cal.dD n)), .int .i64 0]) ∧ Below w.heap.size w w' := by
 have b := inB_t h0 h1
 obtain ⟨⟨y1, y2, m1, m2, d1, d2⟩, _⟩ := Cal.date_ok n h0 h1
 have lb := Cal.len_bd (Cal.dY n) (Cal.dM n)
 have T := Lib.hid ht
 clear ht
 unfold Cal.mon at h2 h3
 go_enter Tryz.func49, Tryz.ntmps49
 go_wp2_with (first
  | (go_at_call 38; refine (is_any _ _).mono ?_; rintro e w' ⟨rfl, rfl⟩)
  | (go_at_call 115; refine (plain_any _ _ T.out h0 h1).mono ?_; rintro e w1 ⟨rfl, hb⟩))
 have TT := Lib.hid (Tab.drew (Tab.alloc (T.out.below hb) (.cells #[.int .i64 (1600 + (12 * (Cal.dY n - 1600) + Cal.dM n - 1 + k) / 12), .int .i64 (1 + (12 * (Cal.dY n - 1600) + Cal.dM n - 1 + k) % 12), .int .i64 (Cal.dD n)] 102)))
 refine wp_region_still_tail 9 (by kernel_rfl) (by kernel_rfl) ?_
 simp only [List.take_succ_cons, List.take_zero, List.drop_succ_cons, List.drop_zero]
 change wpStill _ _ (World.drew (World.alloc w1 _)) (fun a' => wpList _ _ _ _ a' (World.drew (World.alloc w1 _))) _ _
 repeat still_step
 still_call (still_left (length_any _ _ _ TT.out (by omega) (by omega) (by omega) (by omega)))
 repeat still_step
 refine wpStill_nil ?_
 clear TT
 have lb2 := Cal.len_bd (1600 + (12 * (Cal.dY n - 1600) + Cal.dM n - 1 + k) / 12) (1 + (12 * (Cal.dY n - 1600) + Cal.dM n - 1 + k) % 12)
 go_wp2_with (go_at_call 114; refine (of_any _ _ _ _ (Tab.drew (Tab.alloc (T.out.below hb) _)) (by omega) (by omega) (by omega) (by omega) (by omega) (by omega)).mono ?_; rintro e w3 ⟨rfl, hb3⟩)
 all_goals
  go_ret2
  refine ⟨?_, below_via (Below.drew (Below.alloc hb hb.size _)) (by have := hb.size; simp; omega) hb3⟩
  unfold Cal.ofMon Cal.mon
  first
   | (rw [Int.min_eq_left (by omega)]; rfl)
   | (rw [Int.min_eq_right (by omega)]; rfl)
theorem add_large (n k : Int) (w : World) (ht : Tab w) (h0 : 0 ≤ n) (h1 : n ≤ 292193) (k0 : -9600 ≤ k) (k1 : k ≤ 9600) (h2 : Cal.mon n + k < 0 ∨ 9600 ≤ Cal.mon n + k) :
  Calls Tryz.prog 49 #[.int .i64 n, .int .i64 k] w fun e w' => e = .returned (.tuple #[.int .i64 0, .int .i64 2]) ∧ Below w.heap.size w w' := by
 have b := inB_t h0 h1
 obtain ⟨⟨y1, y2, m1, m2, d1, d2⟩, _⟩ := Cal.date_ok n h0 h1
 have T := Lib.hid ht
 clear ht
 unfold Cal.mon at h2
 rcases h2 with h2 | h2
 all_goals
  go_enter Tryz.func49, Tryz.ntmps49
  go_wp2_with (first
   | (go_at_call 38; refine (is_any _ _).mono ?_; rintro e w' ⟨rfl, rfl⟩)
   | (go_at_call 115; refine (plain_any _ _ T.out h0 h1).mono ?_; rintro e w1 ⟨rfl, hb⟩))
  go_ret2
  exact ⟨rfl, Below.alloc hb hb.size _⟩
end Go.Proofs.YtcmpjagpggjfiaaGreatDoor
