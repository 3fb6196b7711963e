/-
  Contracts of package cal's inner functions: leap, length, years, of, Is, Plain. Condition: the table of the months' lengths reads as laid ('Tab').
-/
import Derived.Test.YtdmkmbaaemhhhaaDoorBase
import Derived.Test.YtdmkmbaaemhhhaaDoorCal
namespace Go.Proofs.YtdmkmbaaemhhhaaDoor
open Go.RowKit
/-- the table of the months' lengths holds what it is laid with -/
def Tab (w : World) : Prop := ∀ i : Nat, i < 13 → w.cell? ⟨0, i, none⟩ = some (.int .i64 (([0, 31, 28, 31, 30, 31, 30, 31, 31, 30, 31, 30, 31] : List Int).getD i 0))
theorem cell_lt {w : World} {b o : Nat} {v : Value} (h : w.cell? ⟨b, o, none⟩ = some v) : b < w.heap.size := by
  rcases Nat.lt_or_ge b w.heap.size with h1 | h1
  · exact h1
  · exfalso; simp [World.cell?, Array.getElem?_eq_none h1] at h
theorem Tab.lt {w : World} (h : Tab w) : 0 < w.heap.size := by
  have := h 0 (by omega)
  exact cell_lt this
theorem Tab.below {w w' : World} (h : Tab w) (hb : Below w.heap.size w w') : Tab w' := fun i hi => (hb.cell (p := ⟨0, i, none⟩) h.lt).trans (h i hi)
theorem Tab.below' {B : Nat} {w w' : World} (h : Tab w) (hb : Below B w w') (hB : w.heap.size ≤ B) : Tab w' := h.below (hb.mono hB)
theorem Tab.drewN {w : World} (h : Tab w) (n : Nat) : Tab (w.drewN n) := h
theorem Tab.drew {w : World} (h : Tab w) : Tab w.drew := h
theorem Tab.alloc {w : World} (h : Tab w) (o : Obj) : Tab (w.alloc o) := h.below ((Below.refl _ _).alloc (Nat.le_refl _) o)
theorem leap_any (y : Int) (w : World) (h0 : 0 ≤ y) (h1 : y ≤ 10000) :
    Calls Tryd.prog 90 #[.int .i64 y] w fun e w' => e = .returned (.bool (Cal.lp y == 1)) ∧ w = w' := by
  go_enter Tryd.func90, Tryd.ntmps90
  go_wp2
  all_goals
    go_ret
    refine ⟨ret_bool ?_, rfl⟩
    unfold Cal.lp
    rw [Bool.eq_iff_iff]
    simp
    try omega
theorem years_any (y : Int) (w : World) (h0 : 1600 ≤ y) (h1 : y ≤ 10000) :
    Calls Tryd.prog 89 #[.int .i64 y] w fun e w' => e = .returned (.int .i64 (Cal.yrs y)) ∧ w = w' := by
  go_enter Tryd.func89, Tryd.ntmps89
  go_wp2
  go_ret
  exact ⟨ret_int (by unfold Cal.yrs; omega), rfl⟩
theorem len_tab (y m : Int) (h1 : 1 ≤ m) (h2 : m ≤ 12) (h : ¬ (m = 2 ∧ Cal.lp y = 1)) : (([0, 31, 28, 31, 30, 31, 30, 31, 31, 30, 31, 30, 31] : List Int).getD m.toNat 0) = Cal.len y m := by
  have hl := Cal.lp_01 y
  have hm : m = 1 ∨ m = 2 ∨ m = 3 ∨ m = 4 ∨ m = 5 ∨ m = 6 ∨ m = 7 ∨ m = 8 ∨ m = 9 ∨ m = 10 ∨ m = 11 ∨ m = 12 := by omega
  rcases hm with rfl | rfl | rfl | rfl | rfl | rfl | rfl | rfl | rfl | rfl | rfl | rfl <;> simp [Cal.len] <;> omega
theorem length_any (y m : Int) (w : World) (ht : Tab w) (h0 : 0 ≤ y) (h1 : y ≤ 10000) (h2 : 1 ≤ m) (h3 : m ≤ 12) :
    Calls Tryd.prog 55 #[.int .i64 y, .int .i64 m] w fun e w' => e = .returned (.int .i64 (Cal.len y m)) ∧ w = w' := by
  have hc := ht m.toNat (by omega)
  have T := Lib.hid ht
  clear ht
  by_cases hm : m = 2
  · subst hm
    by_cases hl : Cal.lp y = 1
    · have b : (Cal.lp y == 1) = true := by simp [hl]
      clear hc
      have L : Cal.len y 2 = 29 := by unfold Cal.len; rw [if_pos rfl, hl]; rfl
      rw [L]
      clear hl L
      go_enter Tryd.func55, Tryd.ntmps55
      go_wp2_with (go_at_call 90; refine (leap_any _ _ h0 h1).mono ?_; rintro e w' ⟨rfl, rfl⟩)
      go_ret
      exact ⟨rfl, rfl⟩
    · have b : (Cal.lp y == 1) = false := by simp [hl]
      have L : Cal.len y 2 = 28 := by unfold Cal.len; rw [if_pos rfl]; have := Cal.lp_01 y; omega
      rw [L]
      clear hl L
      simp at hc
      go_enter Tryd.func55, Tryd.ntmps55
      go_wp2_with (go_at_call 90; refine (leap_any _ _ h0 h1).mono ?_; rintro e w' ⟨rfl, rfl⟩)
      go_ret
      exact ⟨rfl, rfl⟩
  · rw [len_tab y m h2 h3 (by omega)] at hc
    have b : (m == 2) = false := by simpa using hm
    clear hm
    have L := Cal.len_bd y m
    go_enter Tryd.func55, Tryd.ntmps55
    go_wp2_with (go_at_call 90; fail)
    go_ret
    exact ⟨rfl, rfl⟩
theorem is_any (x : Int) (w : World) :
    Calls Tryd.prog 21 #[.int .i64 x] w fun e w' => e = .returned (.bool (inB x 0 292193)) ∧ w = w' := by
  go_enter Tryd.func21, Tryd.ntmps21
  go_wp2
  all_goals
    go_ret
    refine ⟨ret_bool ?_, rfl⟩
    first
      | (symm; exact inB_f (by omega))
      | (unfold inB; simp [*])
set_option maxHeartbeats 800000 in
theorem of_any (y m d : Int) (w : World) (ht : Tab w) (hy0 : 1600 ≤ y) (hy1 : y ≤ 2399) (hm0 : 1 ≤ m) (hm1 : m ≤ 12) (hd0 : -1000 ≤ d) (hd1 : d ≤ 1000) :
    Calls Tryd.prog 56 #[.agg #[.int .i64 y, .int .i64 m, .int .i64 d]] w fun e w' => e = .returned (.int .i64 (Cal.num y m d)) ∧ Below w.heap.size w w' := by
  have yb := Cal.yrs_bd y hy0 (by omega)
  have T := Lib.hid (ht.alloc (.cells #[.int .i64 y, .int .i64 m, .int .i64 d] 94))
  clear ht
  go_enter Tryd.func56, Tryd.ntmps56
  go_wp2_with (go_at_call 89; refine (years_any _ _ hy0 (by omega)).mono ?_; rintro e w' ⟨rfl, rfl⟩)
  go_loop [3, 4] (fun n k => ∃ j : Int, 1 ≤ j ∧ j ≤ m ∧ k = .int .i64 j ∧ n = .int .i64 (Cal.yrs y + Cal.cum y j)) (fun _ k => (12 - intOf k).toNat)
  case atStart => exact ⟨1, by omega, by omega, rfl, by simp [Cal.cum]⟩
  case round =>
    obtain ⟨j, hj1, hj2, rfl, rfl⟩ := hrel
    have cb := Cal.cum_bd y j hj1 (by omega)
    have lb := Cal.len_bd y j
    by_cases hlt : j < m
    · have cs := Cal.cum_succ y j hj1 (by omega)
      have CS := Lib.hid cs
      clear cs
      go_wp2_with (go_at_call 55; refine (length_any _ _ _ T.out (by omega) (by omega) (by omega) (by omega)).mono ?_; rintro e w' ⟨rfl, rfl⟩)
      go_round
      case rel => exact ⟨j + 1, by omega, by omega, rfl, by rw [CS.out]; go_num⟩
      case measure => simp [intOf]; omega
    · obtain rfl : j = m := by omega
      go_wp2
      go_ret
      exact ⟨ret_int (by unfold Cal.num; omega), (Below.refl _ _).alloc (Nat.le_refl _) _⟩
set_option maxHeartbeats 1600000 in
theorem plain_any (n : Int) (w : World) (ht : Tab w) (h0 : 0 ≤ n) (h1 : n ≤ 292193) :
    Calls Tryd.prog 54 #[.int .i64 n] w fun e w' => e = .returned (.agg #[.int .i64 (Cal.dY n), .int .i64 (Cal.dM n), .int .i64 (Cal.dD n)]) ∧ Below w.heap.size w w' := by
  have T := Lib.hid (ht.alloc (.cells #[.int .i64 0, .int .i64 0, .int .i64 0] 94))
  clear ht
  go_enter Tryd.func54, Tryd.ntmps54
  go_wp2
  go_loop [3] (fun t => ∃ y : Int, 1600 ≤ y ∧ y ≤ 2399 ∧ Cal.yrs y ≤ n ∧ t = .int .i64 y) (fun t => (2400 - intOf t).toNat)
  case atStart => exact ⟨_, by omega, by omega, by unfold Cal.yrs; omega, rfl⟩
  case round =>
    obtain ⟨y, hy1, hy2, hy3, rfl⟩ := hrel
    have yb := Cal.yrs_bd y hy1 (by omega)
    have ys := Cal.yrs_succ y
    have yb2 := Cal.yrs_bd (y + 1) (by omega) (by omega)
    by_cases hc : Cal.yrs (y + 1) ≤ n
    · have h2400 : y ≠ 2399 := by
        rintro rfl
        have : Cal.yrs (2399 + 1) = 292194 := rfl
        omega
      clear ys
      go_wp2_with (go_at_call 89; refine (years_any _ _ (by omega) (by omega)).mono ?_; rintro e w' ⟨rfl, rfl⟩)
      go_round
      case rel => exact ⟨y + 1, by omega, by omega, hc, rfl⟩
      case measure => simp [intOf]; omega
    · have hz : n < Cal.yrs (y + 1) := by omega
      have hz2 : n < Cal.yrs y + 365 + Cal.lp y := by omega
      have hl := Cal.lp_01 y
      clear hc ys
      go_wp2_with (go_at_call 89; refine (years_any _ _ (by omega) (by omega)).mono ?_; rintro e w' ⟨rfl, rfl⟩)
      go_loop [0, 4] (fun r k => ∃ m : Int, 1 ≤ m ∧ m ≤ 12 ∧ k = .int .i64 m ∧ 0 ≤ n - Cal.yrs y - Cal.cum y m ∧ r = .int .i64 (n - Cal.yrs y - Cal.cum y m)) (fun _ k => (12 - intOf k).toNat)
      case atStart => exact ⟨1, by omega, by omega, rfl, by simp [Cal.cum]; omega, by simp [Cal.cum]⟩
      case round =>
        obtain ⟨m, hm1, hm2, rfl, hr, rfl⟩ := hrel
        have cb := Cal.cum_bd y m hm1 hm2
        have db := Cal.len_bd y m
        have cs := Cal.cum_succ y m hm1 hm2
        by_cases hd : Cal.len y m ≤ n - Cal.yrs y - Cal.cum y m
        · have hm : m ≠ 12 := by
            rintro rfl
            have h13 : Cal.cum y (12 + 1) = 365 + Cal.lp y := rfl
            omega
          have CS := Lib.hid cs
          clear cs
          go_wp2_with (go_at_call 55; refine (length_any _ _ _ T.out (by omega) (by omega) (by omega) (by omega)).mono ?_; rintro e w' ⟨rfl, rfl⟩)
          go_round
          case rel => exact ⟨m + 1, by omega, by omega, rfl, by rw [CS.out]; omega, by rw [CS.out]; go_num⟩
          case measure => simp [intOf]; omega
        · have hv : n - Cal.yrs y - Cal.cum y m < Cal.len y m := by omega
          have E := Lib.hid (Cal.plain_end n y m hy1 hy2 hm1 hm2 hr hv)
          clear cs hd
          go_wp2_with (go_at_call 55; refine (length_any _ _ _ T.out (by omega) (by omega) (by omega) (by omega)).mono ?_; rintro e w' ⟨rfl, rfl⟩)
          obtain ⟨e1, e2, e3⟩ := E.out
          refine bodyPost_ret (v := .agg #[.int .i64 y, .int .i64 m, .int .i64 (n - Cal.yrs y - Cal.cum y m + 1)]) (by simp [results, Tryd.results54, go_sem]) rfl ⟨?_, ?_⟩
          · rw [e1, e2, e3]
          · exact (Below.refl _ _).alloc (Nat.le_refl _) _
end Go.Proofs.YtdmkmbaaemhhhaaDoor
