/-
  Contracts of package cal: Of, Date, Weekday, Add, Last, Months. Condition: the table of the months' lengths reads as laid ('Tab').
-/
import Derived.Test.YthndfckapbbbfaaDoorCalA
import Derived.StillTailTactics
namespace Go.Proofs.YthndfckapbbbfaaDoor
open Go.RowKit
set_option linter.unusedVariables false
set_option maxHeartbeats 400000 in
theorem date_ok (n : Int) (w : World) (ht : Tab w) (h0 : 0 ≤ n) (h1 : n ≤ 292193) :
    Calls Tryd.prog 11 #[.int .i64 n] w fun e w' => e = .returned (.tuple #[.agg #[.int .i64 (Cal.dY n), .int .i64 (Cal.dM n), .int .i64 (Cal.dD n)], .int .i64 0]) ∧ Below w.heap.size w w' := by
  have b := inB_t h0 h1
  have T := Lib.hid (ht.alloc (.cells #[.int .i64 0, .int .i64 0, .int .i64 0] 31))
  clear ht
  go_enter Tryd.func11, Tryd.ntmps11
  go_wp2_with (first
    | (go_at_call 29; refine (is_any _ _).mono ?_; rintro e w' ⟨rfl, rfl⟩)
    | (go_at_call 30; refine (plain_any _ _ T.out h0 h1).mono ?_; rintro e w1 ⟨rfl, hb⟩; obtain ⟨hc, hf⟩ := bcell hb; have z := hb.size; simp at z))
  have k0 : w1.cell? ⟨w.heap.size, 0, none⟩ = some (.int .i64 0) := by rw [hc _ _ (by simp)]; simp
  have k1 : w1.cell? ⟨w.heap.size, 1, none⟩ = some (.int .i64 0) := by rw [hc _ _ (by simp)]; simp
  have k2 : w1.cell? ⟨w.heap.size, 2, none⟩ = some (.int .i64 0) := by rw [hc _ _ (by simp)]; simp
  refine bodyPost_ret (v := .tuple #[.agg #[.int .i64 (Cal.dY n), .int .i64 (Cal.dM n), .int .i64 (Cal.dD n)], .int .i64 0]) (by simp [results, Tryd.results11, go_sem, k0, k1, k2]) rfl ⟨rfl, ?_⟩
  exact (((below_via ((Below.refl _ _).alloc (Nat.le_refl _) _) (by simp) hb).setCell (by simp) _).setCell (by simp) _).setCell (by simp) _
theorem date_bad (n : Int) (w : World) (h : n < 0 ∨ 292193 < n) :
    Calls Tryd.prog 11 #[.int .i64 n] w fun e w' => e = .returned (.tuple #[.agg #[.int .i64 0, .int .i64 0, .int .i64 0], .int .i64 1]) ∧ Below w.heap.size w w' := by
  have b := inB_f h
  clear h
  go_enter Tryd.func11, Tryd.ntmps11
  go_wp2_with (go_at_call 29; refine (is_any _ _).mono ?_; rintro e w' ⟨rfl, rfl⟩)
  refine bodyPost_ret (v := .tuple #[.agg #[.int .i64 0, .int .i64 0, .int .i64 0], .int .i64 1]) (by simp [results, Tryd.results11, go_sem]) rfl ⟨rfl, ?_⟩
  exact (Below.refl _ _).alloc (Nat.le_refl _) _
theorem weekday_ok (n : Int) (w : World) (h0 : 0 ≤ n) (h1 : n ≤ 292193) :
    Calls Tryd.prog 12 #[.int .i64 n] w fun e w' => e = .returned (.tuple #[.int .i64 ((n + 6) % 7), .int .i64 0]) ∧ w = w' := by
  have b := inB_t h0 h1
  go_enter Tryd.func12, Tryd.ntmps12
  go_wp2_with (go_at_call 29; refine (is_any _ _).mono ?_; rintro e w' ⟨rfl, rfl⟩)
  go_ret2
  exact ⟨rfl, rfl⟩
theorem weekday_bad (n : Int) (w : World) (h : n < 0 ∨ 292193 < n) :
    Calls Tryd.prog 12 #[.int .i64 n] w fun e w' => e = .returned (.tuple #[.int .i64 0, .int .i64 1]) ∧ w = w' := by
  have b := inB_f h
  clear h
  go_enter Tryd.func12, Tryd.ntmps12
  go_wp2_with (go_at_call 29; refine (is_any _ _).mono ?_; rintro e w' ⟨rfl, rfl⟩)
  go_ret2
  exact ⟨rfl, rfl⟩
set_option maxHeartbeats 800000 in
theorem cof_ok (y m d : Int) (w : World) (ht : Tab w) (hv : Cal.vld y m d) :
    Calls Tryd.prog 10 #[.agg #[.int .i64 y, .int .i64 m, .int .i64 d]] w fun e w' => e = .returned (.tuple #[.int .i64 (Cal.num y m d), .int .i64 0]) ∧ Below w.heap.size w w' := by
  obtain ⟨y1, y2, m1, m2, d1, d2⟩ := hv
  have lb := Cal.len_bd y m
  have e1 : decide (y < 1600) = false := by simp; omega
  have e2 : decide (2399 < y) = false := by simp; omega
  have e3 : decide (m < 1) = false := by simp; omega
  have e4 : decide (12 < m) = false := by simp; omega
  have e5 : decide (d < 1) = false := by simp; omega
  have e6 : decide (Cal.len y m < d) = false := by simp; omega
  have T := Lib.hid (ht.alloc (.cells #[.int .i64 y, .int .i64 m, .int .i64 d] 31))
  clear ht
  go_enter Tryd.func10, Tryd.ntmps10
  go_wp2_with fail
  go_quiet ((go_at_call 33; exact quiet_left (length_any _ _ _ (T.out.drewN _) (by omega) (by omega) (by omega) (by omega))))
  subst_vars
  go_wp2_with (go_at_call 34; refine (of_any _ _ _ _ (T.out.drewN _) y1 y2 m1 m2 (by omega) (by omega)).mono ?_; rintro e w1 ⟨rfl, hb⟩)
  go_ret2
  exact ⟨rfl, below_via (below_drewN ((Below.refl _ _).alloc (Nat.le_refl _) _) _) (by simp) hb⟩
set_option maxHeartbeats 800000 in
theorem cof_bad0 (y m d : Int) (w : World) (ht : Tab w)  (hc : y < 1600) :
    Calls Tryd.prog 10 #[.agg #[.int .i64 y, .int .i64 m, .int .i64 d]] w fun e w' => e = .returned (.tuple #[.int .i64 0, .int .i64 1]) ∧ Below w.heap.size w w' := by
  have T := Lib.hid (ht.alloc (.cells #[.int .i64 y, .int .i64 m, .int .i64 d] 31))
  clear ht
  go_enter Tryd.func10, Tryd.ntmps10
  go_wp2_with fail
  go_quiet (fail)
  subst_vars
  go_wp2
  go_ret2
  exact ⟨rfl, below_drewN ((Below.refl _ _).alloc (Nat.le_refl _) _) _⟩
set_option maxHeartbeats 800000 in
theorem cof_bad1 (y m d : Int) (w : World) (ht : Tab w) (n0 : ¬ y < 1600) (hc : 2399 < y) :
    Calls Tryd.prog 10 #[.agg #[.int .i64 y, .int .i64 m, .int .i64 d]] w fun e w' => e = .returned (.tuple #[.int .i64 0, .int .i64 1]) ∧ Below w.heap.size w w' := by
  have e1 : decide (y < 1600) = false := by simp; omega
  have T := Lib.hid (ht.alloc (.cells #[.int .i64 y, .int .i64 m, .int .i64 d] 31))
  clear ht
  go_enter Tryd.func10, Tryd.ntmps10
  go_wp2_with fail
  go_quiet (fail)
  subst_vars
  go_wp2
  go_ret2
  exact ⟨rfl, below_drewN ((Below.refl _ _).alloc (Nat.le_refl _) _) _⟩
set_option maxHeartbeats 800000 in
theorem cof_bad2 (y m d : Int) (w : World) (ht : Tab w) (n0 : ¬ y < 1600) (n1 : ¬ 2399 < y) (hc : m < 1) :
    Calls Tryd.prog 10 #[.agg #[.int .i64 y, .int .i64 m, .int .i64 d]] w fun e w' => e = .returned (.tuple #[.int .i64 0, .int .i64 1]) ∧ Below w.heap.size w w' := by
  have e1 : decide (y < 1600) = false := by simp; omega
  have e2 : decide (2399 < y) = false := by simp; omega
  have T := Lib.hid (ht.alloc (.cells #[.int .i64 y, .int .i64 m, .int .i64 d] 31))
  clear ht
  go_enter Tryd.func10, Tryd.ntmps10
  go_wp2_with fail
  go_quiet (fail)
  subst_vars
  go_wp2
  go_ret2
  exact ⟨rfl, below_drewN ((Below.refl _ _).alloc (Nat.le_refl _) _) _⟩
set_option maxHeartbeats 800000 in
theorem cof_bad3 (y m d : Int) (w : World) (ht : Tab w) (n0 : ¬ y < 1600) (n1 : ¬ 2399 < y) (n2 : ¬ m < 1) (hc : 12 < m) :
    Calls Tryd.prog 10 #[.agg #[.int .i64 y, .int .i64 m, .int .i64 d]] w fun e w' => e = .returned (.tuple #[.int .i64 0, .int .i64 1]) ∧ Below w.heap.size w w' := by
  have e1 : decide (y < 1600) = false := by simp; omega
  have e2 : decide (2399 < y) = false := by simp; omega
  have e3 : decide (m < 1) = false := by simp; omega
  have T := Lib.hid (ht.alloc (.cells #[.int .i64 y, .int .i64 m, .int .i64 d] 31))
  clear ht
  go_enter Tryd.func10, Tryd.ntmps10
  go_wp2_with fail
  go_quiet (fail)
  subst_vars
  go_wp2
  go_ret2
  exact ⟨rfl, below_drewN ((Below.refl _ _).alloc (Nat.le_refl _) _) _⟩
set_option maxHeartbeats 800000 in
theorem cof_bad4 (y m d : Int) (w : World) (ht : Tab w) (n0 : ¬ y < 1600) (n1 : ¬ 2399 < y) (n2 : ¬ m < 1) (n3 : ¬ 12 < m) (hc : d < 1) :
    Calls Tryd.prog 10 #[.agg #[.int .i64 y, .int .i64 m, .int .i64 d]] w fun e w' => e = .returned (.tuple #[.int .i64 0, .int .i64 1]) ∧ Below w.heap.size w w' := by
  have e1 : decide (y < 1600) = false := by simp; omega
  have e2 : decide (2399 < y) = false := by simp; omega
  have e3 : decide (m < 1) = false := by simp; omega
  have e4 : decide (12 < m) = false := by simp; omega
  have T := Lib.hid (ht.alloc (.cells #[.int .i64 y, .int .i64 m, .int .i64 d] 31))
  clear ht
  go_enter Tryd.func10, Tryd.ntmps10
  go_wp2_with fail
  go_quiet (fail)
  subst_vars
  go_wp2
  go_ret2
  exact ⟨rfl, below_drewN ((Below.refl _ _).alloc (Nat.le_refl _) _) _⟩
set_option maxHeartbeats 800000 in
theorem cof_bad5 (y m d : Int) (w : World) (ht : Tab w) (n0 : ¬ y < 1600) (n1 : ¬ 2399 < y) (n2 : ¬ m < 1) (n3 : ¬ 12 < m) (n4 : ¬ d < 1) (hc : Cal.len y m < d) :
    Calls Tryd.prog 10 #[.agg #[.int .i64 y, .int .i64 m, .int .i64 d]] w fun e w' => e = .returned (.tuple #[.int .i64 0, .int .i64 1]) ∧ Below w.heap.size w w' := by
  have e1 : decide (y < 1600) = false := by simp; omega
  have e2 : decide (2399 < y) = false := by simp; omega
  have e3 : decide (m < 1) = false := by simp; omega
  have e4 : decide (12 < m) = false := by simp; omega
  have e5 : decide (d < 1) = false := by simp; omega
  have lb := Cal.len_bd y m
  have T := Lib.hid (ht.alloc (.cells #[.int .i64 y, .int .i64 m, .int .i64 d] 31))
  clear ht
  go_enter Tryd.func10, Tryd.ntmps10
  go_wp2_with fail
  go_quiet ((go_at_call 33; exact quiet_left (length_any _ _ _ (T.out.drewN _) (by omega) (by omega) (by omega) (by omega))))
  subst_vars
  go_wp2
  go_ret2
  exact ⟨rfl, below_drewN ((Below.refl _ _).alloc (Nat.le_refl _) _) _⟩
theorem cof_bad (y m d : Int) (w : World) (ht : Tab w) (hv : ¬ Cal.vld y m d) :
    Calls Tryd.prog 10 #[.agg #[.int .i64 y, .int .i64 m, .int .i64 d]] w fun e w' => e = .returned (.tuple #[.int .i64 0, .int .i64 1]) ∧ Below w.heap.size w w' := by
  by_cases c0 : y < 1600
  · exact cof_bad0 y m d w ht c0
  by_cases c1 : 2399 < y
  · exact cof_bad1 y m d w ht c0 c1
  by_cases c2 : m < 1
  · exact cof_bad2 y m d w ht c0 c1 c2
  by_cases c3 : 12 < m
  · exact cof_bad3 y m d w ht c0 c1 c2 c3
  by_cases c4 : d < 1
  · exact cof_bad4 y m d w ht c0 c1 c2 c3 c4
  by_cases c5 : Cal.len y m < d
  · exact cof_bad5 y m d w ht c0 c1 c2 c3 c4 c5
  · exact absurd ⟨by omega, by omega, by omega, by omega, by omega, by omega⟩ hv
theorem still_left {P : Program} {f : FuncId} {args : Array Value} {w : World} {v : Value} (h : Calls P f args w fun e w' => e = .returned v ∧ w = w') : Calls P f args w fun e w' => e = .returned v ∧ w' = w :=
  h.mono fun _ _ ⟨he, hw⟩ => ⟨he, hw.symm⟩
set_option maxHeartbeats 1600000 in
theorem add_ok (n k : Int) (w : World) (ht : Tab w) (h0 : 0 ≤ n) (h1 : n ≤ 292193) (k0 : -9600 ≤ k) (k1 : k ≤ 9600) (h2 : 0 ≤ Cal.mon n + k) (h3 : Cal.mon n + k < 9600) :
    Calls Tryd.prog 15 #[.int .i64 n, .int .i64 k] w fun e w' => e = .returned (.tuple #[.int .i64 (Cal.ofMon (Cal.mon n + k) (Cal.dD n)), .int .i64 0]) ∧ Below w.heap.size w w' := by
  have b := inB_t h0 h1
  obtain ⟨⟨y1, y2, m1, m2, d1, d2⟩, _⟩ := Cal.date_ok n h0 h1
  have lb := Cal.len_bd (Cal.dY n) (Cal.dM n)
  have T := Lib.hid ht
  clear ht
  unfold Cal.mon at h2 h3
  go_enter Tryd.func15, Tryd.ntmps15
  go_wp2_with (first
    | (go_at_call 29; refine (is_any _ _).mono ?_; rintro e w' ⟨rfl, rfl⟩)
    | (go_at_call 30; refine (plain_any _ _ T.out h0 h1).mono ?_; rintro e w1 ⟨rfl, hb⟩))
  have TT := Lib.hid (Tab.drew (Tab.alloc (T.out.below hb) (.cells #[.int .i64 (1600 + (12 * (Cal.dY n - 1600) + Cal.dM n - 1 + k) / 12), .int .i64 (1 + (12 * (Cal.dY n - 1600) + Cal.dM n - 1 + k) % 12), .int .i64 (Cal.dD n)] 31)))
  refine wp_region_still_tail 9 (by kernel_rfl) (by kernel_rfl) ?_
  simp only [List.take_succ_cons, List.take_zero, List.drop_succ_cons, List.drop_zero]
  change wpStill _ _ (World.drew (World.alloc w1 _)) (fun a' => wpList _ _ _ _ a' (World.drew (World.alloc w1 _))) _ _
  repeat still_step
  still_call (still_left (length_any _ _ _ TT.out (by omega) (by omega) (by omega) (by omega)))
  repeat still_step
  refine wpStill_nil ?_
  clear TT
  have lb2 := Cal.len_bd (1600 + (12 * (Cal.dY n - 1600) + Cal.dM n - 1 + k) / 12) (1 + (12 * (Cal.dY n - 1600) + Cal.dM n - 1 + k) % 12)
  go_wp2_with (go_at_call 34; refine (of_any _ _ _ _ (Tab.drew (Tab.alloc (T.out.below hb) _)) (by omega) (by omega) (by omega) (by omega) (by omega) (by omega)).mono ?_; rintro e w3 ⟨rfl, hb3⟩)
  all_goals
    go_ret2
    refine ⟨?_, below_via (Below.drew (Below.alloc hb hb.size _)) (by have := hb.size; simp; omega) hb3⟩
    unfold Cal.ofMon Cal.mon
    first
      | (rw [Int.min_eq_left (by omega)]; rfl)
      | (rw [Int.min_eq_right (by omega)]; rfl)
theorem add_large (n k : Int) (w : World) (ht : Tab w) (h0 : 0 ≤ n) (h1 : n ≤ 292193) (k0 : -9600 ≤ k) (k1 : k ≤ 9600) (h2 : Cal.mon n + k < 0 ∨ 9600 ≤ Cal.mon n + k) :
    Calls Tryd.prog 15 #[.int .i64 n, .int .i64 k] w fun e w' => e = .returned (.tuple #[.int .i64 0, .int .i64 2]) ∧ Below w.heap.size w w' := by
  have b := inB_t h0 h1
  obtain ⟨⟨y1, y2, m1, m2, d1, d2⟩, _⟩ := Cal.date_ok n h0 h1
  have T := Lib.hid ht
  clear ht
  unfold Cal.mon at h2
  rcases h2 with h2 | h2
  all_goals
    go_enter Tryd.func15, Tryd.ntmps15
    go_wp2_with (first
      | (go_at_call 29; refine (is_any _ _).mono ?_; rintro e w' ⟨rfl, rfl⟩)
      | (go_at_call 30; refine (plain_any _ _ T.out h0 h1).mono ?_; rintro e w1 ⟨rfl, hb⟩))
    go_ret2
    exact ⟨rfl, Below.alloc hb hb.size _⟩
theorem add_bad (n k : Int) (w : World) (h : n < 0 ∨ 292193 < n ∨ k < -9600 ∨ 9600 < k) :
    Calls Tryd.prog 15 #[.int .i64 n, .int .i64 k] w fun e w' => e = .returned (.tuple #[.int .i64 0, .int .i64 1]) ∧ w = w' := by
  by_cases hn : 0 ≤ n ∧ n ≤ 292193
  · have b := inB_t hn.1 hn.2
    have hk : k < -9600 ∨ 9600 < k := by omega
    clear h hn
    rcases hk with hk | hk
    all_goals
      go_enter Tryd.func15, Tryd.ntmps15
      go_wp2_with (go_at_call 29; refine (is_any _ _).mono ?_; rintro e w' ⟨rfl, rfl⟩)
      go_ret2
      exact ⟨rfl, rfl⟩
  · have b : inB n 0 292193 = false := inB_f (by omega)
    clear h hn
    go_enter Tryd.func15, Tryd.ntmps15
    go_wp2_with (go_at_call 29; refine (is_any _ _).mono ?_; rintro e w' ⟨rfl, rfl⟩)
    go_ret2
    exact ⟨rfl, rfl⟩
set_option maxHeartbeats 800000 in
theorem last_ok (n : Int) (w : World) (ht : Tab w) (h0 : 0 ≤ n) (h1 : n ≤ 292193) :
    Calls Tryd.prog 16 #[.int .i64 n] w fun e w' => e = .returned (.tuple #[.int .i64 (Cal.last n), .int .i64 0]) ∧ Below w.heap.size w w' := by
  have b := inB_t h0 h1
  obtain ⟨⟨y1, y2, m1, m2, d1, d2⟩, _⟩ := Cal.date_ok n h0 h1
  have lb := Cal.len_bd (Cal.dY n) (Cal.dM n)
  have T := Lib.hid ht
  clear ht
  go_enter Tryd.func16, Tryd.ntmps16
  go_wp2_with (first
    | (go_at_call 29; refine (is_any _ _).mono ?_; rintro e w' ⟨rfl, rfl⟩)
    | (go_at_call 30; refine (plain_any _ _ T.out h0 h1).mono ?_; rintro e w1 ⟨rfl, hb⟩)
    | (go_at_call 33; refine (length_any _ _ _ (Tab.alloc (T.out.below hb) _) (by omega) (by omega) (by omega) (by omega)).mono ?_; rintro e w' ⟨rfl, rfl⟩)
    | (go_at_call 34; refine (of_any _ _ _ _ (Tab.alloc (T.out.below hb) _) (by omega) (by omega) (by omega) (by omega) (by omega) (by omega)).mono ?_; rintro e w3 ⟨rfl, hb3⟩))
  go_ret2
  exact ⟨rfl, below_via (Below.alloc hb hb.size _) (by have := hb.size; simp; omega) hb3⟩
theorem last_bad (n : Int) (w : World) (h : n < 0 ∨ 292193 < n) :
    Calls Tryd.prog 16 #[.int .i64 n] w fun e w' => e = .returned (.tuple #[.int .i64 0, .int .i64 1]) ∧ w = w' := by
  have b := inB_f h
  clear h
  go_enter Tryd.func16, Tryd.ntmps16
  go_wp2_with (go_at_call 29; refine (is_any _ _).mono ?_; rintro e w' ⟨rfl, rfl⟩)
  go_ret2
  exact ⟨rfl, rfl⟩
end Go.Proofs.YthndfckapbbbfaaDoor
