/-
  Steps of the proof of TopDesk: Rounded CalA CalS.
-/
import Derived.Test.YtcmpjagpggjfiaaGreatDoorT03
import Derived.Test.YtcmpjagpggjfiaaGreatDoorT08
set_option linter.unusedVariables false
section
namespace Go.Proofs.YtcmpjagpggjfiaaGreatDoor
open Go.RowKit
set_option maxHeartbeats 400000 in
theorem rounded0 (n d : Int) (w : World) (hn0 : -4000000000000000000 ≤ n) (hn1 : n ≤ 4000000000000000000) (hd0 : 1 ≤ d) (hd1 : d ≤ 4000000000000000000) :
  Calls Tryz.prog 123 #[.int .i64 n, .int .i64 d, .int .i64 0] w fun e w' => e = .returned (.int .i64 (Rnd.rnd n d 0)) ∧ ∃ k, w' = w.drewN k := by
 obtain ⟨hq0, hq1⟩ := Rnd.tdiv_bd n d hn0 hn1
 obtain ⟨hr0, hr1⟩ := Rnd.tmod_bd n hd0
 have T := Lib.hid (Rnd.trunc (n := n) hd0)
 go_enter Tryz.func123, Tryz.ntmps123
 go_wp2_with fail
 go_quiet (fail)
 go_wp2
 all_goals
  go_ret
  refine ⟨ret_int ?_, _, rfl⟩
  obtain ⟨t1, t2⟩ := T.out
  clear T
  rw [Rnd.rnd0]
  omega
set_option maxHeartbeats 400000 in
theorem rounded1 (n d : Int) (w : World) (hn0 : -4000000000000000000 ≤ n) (hn1 : n ≤ 4000000000000000000) (hd0 : 1 ≤ d) (hd1 : d ≤ 4000000000000000000) :
  Calls Tryz.prog 123 #[.int .i64 n, .int .i64 d, .int .i64 1] w fun e w' => e = .returned (.int .i64 (Rnd.rnd n d 1)) ∧ ∃ k, w' = w.drewN k := by
 obtain ⟨hq0, hq1⟩ := Rnd.tdiv_bd n d hn0 hn1
 obtain ⟨hr0, hr1⟩ := Rnd.tmod_bd n hd0
 have T := Lib.hid (Rnd.trunc (n := n) hd0)
 go_enter Tryz.func123, Tryz.ntmps123
 go_wp2_with fail
 go_quiet (fail)
 go_wp2
 all_goals
  go_ret
  refine ⟨ret_int ?_, _, rfl⟩
  obtain ⟨t1, t2⟩ := T.out
  clear T
  rw [Rnd.rnd1]
  split <;> omega
set_option maxHeartbeats 400000 in
theorem rounded2 (n d : Int) (w : World) (hn0 : -4000000000000000000 ≤ n) (hn1 : n ≤ 4000000000000000000) (hd0 : 1 ≤ d) (hd1 : d ≤ 4000000000000000000) :
  Calls Tryz.prog 123 #[.int .i64 n, .int .i64 d, .int .i64 2] w fun e w' => e = .returned (.int .i64 (Rnd.rnd n d 2)) ∧ ∃ k, w' = w.drewN k := by
 obtain ⟨hq0, hq1⟩ := Rnd.tdiv_bd n d hn0 hn1
 obtain ⟨hr0, hr1⟩ := Rnd.tmod_bd n hd0
 have T := Lib.hid (Rnd.trunc (n := n) hd0)
 go_enter Tryz.func123, Tryz.ntmps123
 go_wp2_with fail
 go_quiet (fail)
 go_wp2
 all_goals
  go_ret
  refine ⟨ret_int ?_, _, rfl⟩
  obtain ⟨t1, t2⟩ := T.out
  clear T
  rw [Rnd.rnd2]
  split <;> omega
set_option maxHeartbeats 400000 in
theorem rounded3 (n d : Int) (w : World) (hn0 : -4000000000000000000 ≤ n) (hn1 : n ≤ 4000000000000000000) (hd0 : 1 ≤ d) (hd1 : d ≤ 4000000000000000000) :
  Calls Tryz.prog 123 #[.int .i64 n, .int .i64 d, .int .i64 3] w fun e w' => e = .returned (.int .i64 (Rnd.rnd n d 3)) ∧ ∃ k, w' = w.drewN k := by
 obtain ⟨hq0, hq1⟩ := Rnd.tdiv_bd n d hn0 hn1
 obtain ⟨hr0, hr1⟩ := Rnd.tmod_bd n hd0
 have T := Lib.hid (Rnd.trunc (n := n) hd0)
 go_enter Tryz.func123, Tryz.ntmps123
 go_wp2_with fail
 go_quiet (fail)
 go_wp2
 all_goals
  go_ret
  refine ⟨ret_int ?_, _, rfl⟩
  obtain ⟨t1, t2⟩ := T.out
  clear T
  try simp only [bne_iff_ne, ne_eq, bne_eq_false_iff_eq] at *
  rw [Rnd.rnd3]
  have m1 := Rnd.tmod2 (n.tdiv d)
  have m2 := Rnd.tmod2 (n.tdiv d - 1)
  split <;> omega
theorem rounded_any (n d way : Int) (w : World) (hn0 : -4000000000000000000 ≤ n) (hn1 : n ≤ 4000000000000000000) (hd0 : 1 ≤ d) (hd1 : d ≤ 4000000000000000000) (h0 : 0 ≤ way) (h3 : way ≤ 3) :
  Calls Tryz.prog 123 #[.int .i64 n, .int .i64 d, .int .i64 way] w fun e w' => e = .returned (.int .i64 (Rnd.rnd n d way)) ∧ ∃ k, w' = w.drewN k := by
 have : way = 0 ∨ way = 1 ∨ way = 2 ∨ way = 3 := by omega
 rcases this with rfl | rfl | rfl | rfl
 ·exact rounded0 n d w hn0 hn1 hd0 hd1
 ·exact rounded1 n d w hn0 hn1 hd0 hd1
 ·exact rounded2 n d w hn0 hn1 hd0 hd1
 ·exact rounded3 n d w hn0 hn1 hd0 hd1
end Go.Proofs.YtcmpjagpggjfiaaGreatDoor
end
section
namespace Go.Proofs.YtcmpjagpggjfiaaGreatDoor
open Go.RowKit
def Tab (w : World) : Prop := ∀ i : Nat, i < 13 → w.cell? ⟨1, i, none⟩ = some (.int .i64 (([0, 31, 28, 31, 30, 31, 30, 31, 31, 30, 31, 30, 31] : List Int).getD i 0))
theorem cell_lt {w : World} {b o : Nat} {v : Value} (h : w.cell? ⟨b, o, none⟩ = some v) : b < w.heap.size := by
 rcases Nat.lt_or_ge b w.heap.size with h1 | h1
 ·exact h1
 ·exfalso; simp [World.cell?, Array.getElem?_eq_none h1] at h
theorem Tab.lt {w : World} (h : Tab w) : 1 < w.heap.size := by
 have := h 0 (by omega)
 exact cell_lt this
theorem Tab.below {w w' : World} (h : Tab w) (hb : Below w.heap.size w w') : Tab w' := fun i hi => (hb.cell (p := ⟨1, i, none⟩) h.lt).trans (h i hi)
theorem Tab.drew {w : World} (h : Tab w) : Tab w.drew := h
theorem Tab.alloc {w : World} (h : Tab w) (o : Obj) : Tab (w.alloc o) := h.below ((Below.refl _ _).alloc (Nat.le_refl _) o)
theorem leap_any (y : Int) (w : World) (h0 : 0 ≤ y) (h1 : y ≤ 10000) :
  Calls Tryz.prog 165 #[.int .i64 y] w fun e w' => e = .returned (.bool (Cal.lp y == 1)) ∧ w = w' := by
 go_enter Tryz.func165, Tryz.ntmps165
 go_wp2
 all_goals
  go_ret
  refine ⟨ret_bool ?_, rfl⟩
  unfold Cal.lp
  rw [Bool.eq_iff_iff]
  simp
  try omega
theorem years_any (y : Int) (w : World) (h0 : 1600 ≤ y) (h1 : y ≤ 10000) :
  Calls Tryz.prog 166 #[.int .i64 y] w fun e w' => e = .returned (.int .i64 (Cal.yrs y)) ∧ w = w' := by
 go_enter Tryz.func166, Tryz.ntmps166
 go_wp2
 go_ret
 exact ⟨ret_int (by unfold Cal.yrs; omega), rfl⟩
theorem len_tab (y m : Int) (h1 : 1 ≤ m) (h2 : m ≤ 12) (h : ¬ (m = 2 ∧ Cal.lp y = 1)) : (([0, 31, 28, 31, 30, 31, 30, 31, 31, 30, 31, 30, 31] : List Int).getD m.toNat 0) = Cal.len y m := by
 have hl := Cal.lp_01 y
 have hm : m = 1 ∨ m = 2 ∨ m = 3 ∨ m = 4 ∨ m = 5 ∨ m = 6 ∨ m = 7 ∨ m = 8 ∨ m = 9 ∨ m = 10 ∨ m = 11 ∨ m = 12 := by omega
 rcases hm with rfl | rfl | rfl | rfl | rfl | rfl | rfl | rfl | rfl | rfl | rfl | rfl <;> simp [Cal.len] <;> omega
theorem length_any (y m : Int) (w : World) (ht : Tab w) (h0 : 0 ≤ y) (h1 : y ≤ 10000) (h2 : 1 ≤ m) (h3 : m ≤ 12) :
  Calls Tryz.prog 113 #[.int .i64 y, .int .i64 m] w fun e w' => e = .returned (.int .i64 (Cal.len y m)) ∧ w = w' := by
 have hc := ht m.toNat (by omega)
 have T := Lib.hid ht
 clear ht
 by_cases hm : m = 2
 ·subst hm
  by_cases hl : Cal.lp y = 1
  ·have b : (Cal.lp y == 1) = true := by simp [hl]
   clear hc
   have L : Cal.len y 2 = 29 := by unfold Cal.len; rw [if_pos rfl, hl]; rfl
   rw [L]
   clear hl L
   go_enter Tryz.func113, Tryz.ntmps113
   go_wp2_with (go_at_call 165; refine (leap_any _ _ h0 h1).mono ?_; rintro e w' ⟨rfl, rfl⟩)
   go_ret
   exact ⟨rfl, rfl⟩
  ·have b : (Cal.lp y == 1) = false := by simp [hl]
   have L : Cal.len y 2 = 28 := by unfold Cal.len; rw [if_pos rfl]; have := Cal.lp_01 y; omega
   rw [L]
   clear hl L
   simp at hc
   go_enter Tryz.func113, Tryz.ntmps113
   go_wp2_with (go_at_call 165; refine (leap_any _ _ h0 h1).mono ?_; rintro e w' ⟨rfl, rfl⟩)
   go_ret
   exact ⟨rfl, rfl⟩
 ·rw [len_tab y m h2 h3 (by omega)] at hc
  have b : (m == 2) = false := by simpa using hm
  clear hm
  have L := Cal.len_bd y m
  go_enter Tryz.func113, Tryz.ntmps113
  go_wp2_with (go_at_call 165; fail)
  go_ret
  exact ⟨rfl, rfl⟩
theorem is_any (x : Int) (w : World) :
  Calls Tryz.prog 38 #[.int .i64 x] w fun e w' => e = .returned (.bool (inB x 0 292193)) ∧ w = w' := by
 go_enter Tryz.func38, Tryz.ntmps38
 go_wp2
 all_goals
  go_ret
  refine ⟨ret_bool ?_, rfl⟩
  first
   | (symm; exact inB_f (by omega))
   | (unfold inB; simp [*])
set_option maxHeartbeats 800000 in
theorem of_any (y m d : Int) (w : World) (ht : Tab w) (hy0 : 1600 ≤ y) (hy1 : y ≤ 2399) (hm0 : 1 ≤ m) (hm1 : m ≤ 12) (hd0 : -1000 ≤ d) (hd1 : d ≤ 1000) :
  Calls Tryz.prog 114 #[.agg #[.int .i64 y, .int .i64 m, .int .i64 d]] w fun e w' => e = .returned (.int .i64 (Cal.num y m d)) ∧ Below w.heap.size w w' := by
 have yb := Cal.yrs_bd y hy0 (by omega)
 have T := Lib.hid (ht.alloc (.cells #[.int .i64 y, .int .i64 m, .int .i64 d] 102))
 clear ht
 go_enter Tryz.func114, Tryz.ntmps114
 go_wp2_with (go_at_call 166; refine (years_any _ _ hy0 (by omega)).mono ?_; rintro e w' ⟨rfl, rfl⟩)
 go_loop [3, 4] (fun n k => ∃ j : Int, 1 ≤ j ∧ j ≤ m ∧ k = .int .i64 j ∧ n = .int .i64 (Cal.yrs y + Cal.cum y j)) (fun _ k => (12 - intOf k).toNat)
 case atStart => exact ⟨1, by omega, by omega, rfl, by simp [Cal.cum]⟩
 case round =>
  obtain ⟨j, hj1, hj2, rfl, rfl⟩ := hrel
  have cb := Cal.cum_bd y j hj1 (by omega)
  have lb := Cal.len_bd y j
  by_cases hlt : j < m
  ·have cs := Cal.cum_succ y j hj1 (by omega)
   have CS := Lib.hid cs
   clear cs
   go_wp2_with (go_at_call 113; refine (length_any _ _ _ T.out (by omega) (by omega) (by omega) (by omega)).mono ?_; rintro e w' ⟨rfl, rfl⟩)
   go_round
   case rel => exact ⟨j + 1, by omega, by omega, rfl, by rw [CS.out]; go_num⟩
   case measure => simp [intOf]; omega
  ·obtain rfl : j = m := by omega
   go_wp2
   go_ret
   exact ⟨ret_int (by unfold Cal.num; omega), (Below.refl _ _).alloc (Nat.le_refl _) _⟩
set_option maxHeartbeats 1600000 in
theorem plain_any (n : Int) (w : World) (ht : Tab w) (h0 : 0 ≤ n) (h1 : n ≤ 292193) :
  Calls Tryz.prog 115 #[.int .i64 n] w fun e w' => e = .returned (.agg #[.int .i64 (Cal.dY n), .int .i64 (Cal.dM n), .int .i64 (Cal.dD n)]) ∧ Below w.heap.size w w' := by
 have T := Lib.hid (ht.alloc (.cells #[.int .i64 0, .int .i64 0, .int .i64 0] 102))
 clear ht
 go_enter Tryz.func115, Tryz.ntmps115
 go_wp2
 go_loop [3] (fun t => ∃ y : Int, 1600 ≤ y ∧ y ≤ 2399 ∧ Cal.yrs y ≤ n ∧ t = .int .i64 y) (fun t => (2400 - intOf t).toNat)
 case atStart => exact ⟨_, by omega, by omega, by unfold Cal.yrs; omega, rfl⟩
 case round =>
  obtain ⟨y, hy1, hy2, hy3, rfl⟩ := hrel
  have yb := Cal.yrs_bd y hy1 (by omega)
  have ys := Cal.yrs_succ y
  have yb2 := Cal.yrs_bd (y + 1) (by omega) (by omega)
  by_cases hc : Cal.yrs (y + 1) ≤ n
  ·have h2400 : y ≠ 2399 := by
    rintro rfl
    have : Cal.yrs (2399 + 1) = 292194 := rfl
    omega
   clear ys
   go_wp2_with (go_at_call 166; refine (years_any _ _ (by omega) (by omega)).mono ?_; rintro e w' ⟨rfl, rfl⟩)
   go_round
   case rel => exact ⟨y + 1, by omega, by omega, hc, rfl⟩
   case measure => simp [intOf]; omega
  ·have hz : n < Cal.yrs (y + 1) := by omega
   have hz2 : n < Cal.yrs y + 365 + Cal.lp y := by omega
   have hl := Cal.lp_01 y
   clear hc ys
   go_wp2_with (go_at_call 166; refine (years_any _ _ (by omega) (by omega)).mono ?_; rintro e w' ⟨rfl, rfl⟩)
   go_loop [0, 4] (fun r k => ∃ m : Int, 1 ≤ m ∧ m ≤ 12 ∧ k = .int .i64 m ∧ 0 ≤ n - Cal.yrs y - Cal.cum y m ∧ r = .int .i64 (n - Cal.yrs y - Cal.cum y m)) (fun _ k => (12 - intOf k).toNat)
   case atStart => exact ⟨1, by omega, by omega, rfl, by simp [Cal.cum]; omega, by simp [Cal.cum]⟩
   case round =>
    obtain ⟨m, hm1, hm2, rfl, hr, rfl⟩ := hrel
    have cb := Cal.cum_bd y m hm1 hm2
    have db := Cal.len_bd y m
    have cs := Cal.cum_succ y m hm1 hm2
    by_cases hd : Cal.len y m ≤ n - Cal.yrs y - Cal.cum y m
    ·have hm : m ≠ 12 := by
      rintro rfl
      have h13 : Cal.cum y (12 + 1) = 365 + Cal.lp y := rfl
      omega
     have CS := Lib.hid cs
     clear cs
     go_wp2_with (go_at_call 113; refine (length_any _ _ _ T.out (by omega) (by omega) (by omega) (by omega)).mono ?_; rintro e w' ⟨rfl, rfl⟩)
     go_round
     case rel => exact ⟨m + 1, by omega, by omega, rfl, by rw [CS.out]; omega, by rw [CS.out]; go_num⟩
     case measure => simp [intOf]; omega
    ·have hv : n - Cal.yrs y - Cal.cum y m < Cal.len y m := by omega
     have E := Lib.hid (Cal.plain_end n y m hy1 hy2 hm1 hm2 hr hv)
     clear cs hd
     go_wp2_with (go_at_call 113; refine (length_any _ _ _ T.out (by omega) (by omega) (by omega) (by omega)).mono ?_; rintro e w' ⟨rfl, rfl⟩)
     obtain ⟨e1, e2, e3⟩ := E.out
     refine bodyPost_ret (v := .agg #[.int .i64 y, .int .i64 m, .int .i64 (n - Cal.yrs y - Cal.cum y m + 1)]) (by simp [results, Tryz.results115, go_sem]) rfl ⟨?_, ?_⟩
     ·rw [e1, e2, e3]
     ·exact (Below.refl _ _).alloc (Nat.le_refl _) _
end Go.Proofs.YtcmpjagpggjfiaaGreatDoor
end
section
namespace Go.Proofs.YtcmpjagpggjfiaaGreatDoor
open Go.RowKit
def Blk (w : World) (g : Nat) (t : TypeId) (cs : Array Value) : Prop := w.heap[g]? = some (.cells cs t (0, 0))
theorem Blk.lt {w : World} {g : Nat} {t : TypeId} {cs : Array Value} (h : Blk w g t cs) : g < w.heap.size := by
 rcases Nat.lt_or_ge g w.heap.size with hlt | hge
 ·exact hlt
 ·unfold Blk at h; rw [Array.getElem?_eq_none hge] at h; cases h
theorem Blk.cell {w : World} {g : Nat} {t : TypeId} {cs : Array Value} (h : Blk w g t cs) (i : Nat) : w.cell? ⟨g, i, none⟩ = cs[i]? := cell_of_row w g i cs t (0, 0) h
theorem Blk.frozen {w : World} {g : Nat} {t : TypeId} {cs : Array Value} (h : Blk w g t cs) (i : Nat) : w.frozen? ⟨g, i, none⟩ = false := by
 unfold Blk at h
 simp [World.frozen?, h]
theorem Blk.new (w : World) (t : TypeId) (cs : Array Value) : Blk (w.alloc (.cells cs t)) w.heap.size t cs := heap_alloc_new w _
theorem Blk.drew {w : World} {g : Nat} {t : TypeId} {cs : Array Value} (h : Blk w g t cs) : Blk w.drew g t cs := h
end Go.Proofs.YtcmpjagpggjfiaaGreatDoor
end
