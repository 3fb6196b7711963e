/-
  Steps of the proof of JobRuns: Rounded CalA CalR.
-/
import Derived.Test.YtdmkmbaaemhhhaaGreatDoorR01
import Derived.Test.YtdmkmbaaemhhhaaGreatDoorR02
set_option linter.unusedVariables false
section
namespace Go.Proofs.YtdmkmbaaemhhhaaGreatDoor
open Go.RowKit
set_option maxHeartbeats 400000 in
theorem rounded0 (n d : Int) (w : World) (hn0 : -4000000000000000000 ≤ n) (hn1 : n ≤ 4000000000000000000) (hd0 : 1 ≤ d) (hd1 : d ≤ 4000000000000000000) :
  Calls Tryz.prog 207 #[.int .i64 n, .int .i64 d, .int .i64 0] w fun e w' => e = .returned (.int .i64 (Rnd.rnd n d 0)) ∧ ∃ k, w' = w.drewN k := by
 obtain ⟨hq0, hq1⟩ := Rnd.tdiv_bd n d hn0 hn1
 obtain ⟨hr0, hr1⟩ := Rnd.tmod_bd n hd0
 have T := Lib.hid (Rnd.trunc (n := n) hd0)
 go_enter Tryz.func207, Tryz.ntmps207
 go_wp2_with fail
 go_quiet (fail)
 go_wp2
 all_goals
  go_ret
  refine ⟨ret_int ?_, _, rfl⟩
  obtain ⟨t1, t2⟩ := T.out
  clear T
  rw [Rnd.rnd0]
  omega
set_option maxHeartbeats 400000 in
theorem rounded1 (n d : Int) (w : World) (hn0 : -4000000000000000000 ≤ n) (hn1 : n ≤ 4000000000000000000) (hd0 : 1 ≤ d) (hd1 : d ≤ 4000000000000000000) :
  Calls Tryz.prog 207 #[.int .i64 n, .int .i64 d, .int .i64 1] w fun e w' => e = .returned (.int .i64 (Rnd.rnd n d 1)) ∧ ∃ k, w' = w.drewN k := by
 obtain ⟨hq0, hq1⟩ := Rnd.tdiv_bd n d hn0 hn1
 obtain ⟨hr0, hr1⟩ := Rnd.tmod_bd n hd0
 have T := Lib.hid (Rnd.trunc (n := n) hd0)
 go_enter Tryz.func207, Tryz.ntmps207
 go_wp2_with fail
 go_quiet (fail)
 go_wp2
 all_goals
  go_ret
  refine ⟨ret_int ?_, _, rfl⟩
  obtain ⟨t1, t2⟩ := T.out
  clear T
  rw [Rnd.rnd1]
  split <;> omega
set_option maxHeartbeats 400000 in
theorem rounded2 (n d : Int) (w : World) (hn0 : -4000000000000000000 ≤ n) (hn1 : n ≤ 4000000000000000000) (hd0 : 1 ≤ d) (hd1 : d ≤ 4000000000000000000) :
  Calls Tryz.prog 207 #[.int .i64 n, .int .i64 d, .int .i64 2] w fun e w' => e = .returned (.int .i64 (Rnd.rnd n d 2)) ∧ ∃ k, w' = w.drewN k := by
 obtain ⟨hq0, hq1⟩ := Rnd.tdiv_bd n d hn0 hn1
 obtain ⟨hr0, hr1⟩ := Rnd.tmod_bd n hd0
 have T := Lib.hid (Rnd.trunc (n := n) hd0)
 go_enter Tryz.func207, Tryz.ntmps207
 go_wp2_with fail
 go_quiet (fail)
 go_wp2
 all_goals
  go_ret
  refine ⟨ret_int ?_, _, rfl⟩
  obtain ⟨t1, t2⟩ := T.out
  clear T
  rw [Rnd.rnd2]
  split <;> omega
set_option maxHeartbeats 400000 in
theorem rounded3 (n d : Int) (w : World) (hn0 : -4000000000000000000 ≤ n) (hn1 : n ≤ 4000000000000000000) (hd0 : 1 ≤ d) (hd1 : d ≤ 4000000000000000000) :
  Calls Tryz.prog 207 #[.int .i64 n, .int .i64 d, .int .i64 3] w fun e w' => e = .returned (.int .i64 (Rnd.rnd n d 3)) ∧ ∃ k, w' = w.drewN k := by
 obtain ⟨hq0, hq1⟩ := Rnd.tdiv_bd n d hn0 hn1
 obtain ⟨hr0, hr1⟩ := Rnd.tmod_bd n hd0
 have T := Lib.hid (Rnd.trunc (n := n) hd0)
 go_enter Tryz.func207, Tryz.ntmps207
 go_wp2_with fail
 go_quiet (fail)
 go_wp2
 all_goals
  go_ret
  refine ⟨ret_int ?_, _, rfl⟩
  obtain ⟨t1, t2⟩ := T.out
  clear T
  try simp only [bne_iff_ne, ne_eq, bne_eq_false_iff_eq] at *
  rw [Rnd.rnd3]
  have m1 := Rnd.tmod2 (n.tdiv d)
  have m2 := Rnd.tmod2 (n.tdiv d - 1)
  split <;> omega
theorem rounded_any (n d way : Int) (w : World) (hn0 : -4000000000000000000 ≤ n) (hn1 : n ≤ 4000000000000000000) (hd0 : 1 ≤ d) (hd1 : d ≤ 4000000000000000000) (h0 : 0 ≤ way) (h3 : way ≤ 3) :
  Calls Tryz.prog 207 #[.int .i64 n, .int .i64 d, .int .i64 way] w fun e w' => e = .returned (.int .i64 (Rnd.rnd n d way)) ∧ ∃ k, w' = w.drewN k := by
 have : way = 0 ∨ way = 1 ∨ way = 2 ∨ way = 3 := by omega
 rcases this with rfl | rfl | rfl | rfl
 ·exact rounded0 n d w hn0 hn1 hd0 hd1
 ·exact rounded1 n d w hn0 hn1 hd0 hd1
 ·exact rounded2 n d w hn0 hn1 hd0 hd1
 ·exact rounded3 n d w hn0 hn1 hd0 hd1
theorem i64_and1 (n : Int) : bits .and .i64 n 1 = n % 2 := by
 have h1 : (BitVec.ofInt 64 1).toNat = 2 ^ 1 - 1 := by decide
 have key : (BitVec.ofInt 64 n &&& BitVec.ofInt 64 1).toNat = (n % ((2 ^ 64 : Nat) : Int)).toNat % 2 ^ 1 := by
  rw [BitVec.toNat_and, BitVec.toNat_ofInt, h1, Nat.and_two_pow_sub_one_eq_mod]
 show IntKind.i64.wrap ((BitVec.ofInt 64 n &&& BitVec.ofInt 64 1).toNat : Nat) = n % 2
 rw [key, IntKind.wrap_i64]
 omega
set_option maxHeartbeats 400000 in
theorem rround_any (n d way : Int) (w : World) (hn0 : -4000000000000000000 ≤ n) (hn1 : n ≤ 4000000000000000000) (hd0 : 1 ≤ d) (hd1 : d ≤ 4000000000000000000) (h0 : 0 ≤ way) (h3 : way ≤ 3) :
  Calls Tryz.prog 175 #[.int .i64 n, .int .i64 d, .int .i64 way] w fun e w' => e = .returned (.int .i64 (Rnd.rnd n d way)) ∧ w = w' := by
 obtain ⟨hq0, hq1⟩ := Rnd.tdiv_bd n d hn0 hn1
 obtain ⟨g0, g1⟩ := Rnd.div_bd n hd0 hn0 hn1 (by omega)
 obtain ⟨l0, l1⟩ := Rnd.low (n := n) hd0
 have dm := Rnd.divmod n d
 have tq : n.tdiv d = n / d ∨ n.tdiv d = n / d + 1 := by
  have t := Rnd.trunc (n := n) hd0
  omega
 have E := Rnd.rnd_rq n d way
 have ha := i64_and1 (n / d)
 generalize n / d = Q at *
 generalize n % d = R at *
 have e1 : (Q + 1) * d = Q * d + d := by rw [Int.add_mul, Int.one_mul]
 have p0 : Q * d ≤ n := by omega
 have p1 : n < (Q + 1) * d := by omega
 have p2 : n < Q * d + d := by omega
 have p3 : -8000000000000000000 ≤ Q * d := by omega
 have p4 : (Q + 1) * d ≤ 8000000000000000000 := by omega
 have p5 : n - Q * d = R := by omega
 have p5' := Lib.hid p5
 have E' := Lib.hid E
 have tq' := Lib.hid tq
 clear E tq dm p5 e1
 go_enter Tryz.func175, Tryz.ntmps175
 go_wp2
 go_loop [7] (fun i => ∃ q : Int, (q = Q ∨ q = Q + 1) ∧ i = .int .i64 q) (fun i => (intOf i - Q).toNat)
 case atStart => exact ⟨_, tq'.out, rfl⟩
 case round =>
  obtain ⟨q, hq, rfl⟩ := hrel
  rcases hq with rfl | rfl
  ·go_wp2
   go_loop [7] (fun i => i = .int .i64 q) (fun _ => 0)
   case atStart => exact rfl
   case round =>
    obtain rfl := hrel
    go_wp2
    all_goals
     go_ret
     refine ⟨ret_int ?_, rfl⟩
     have p5 := p5'.out
     have E := E'.out
     clear p5' E' tq'
     try simp only [beq_iff_eq, beq_eq_false_iff_ne, ne_eq] at *
     try simp only [ha]
     rw [E]
     unfold Rnd.rq
     (repeat' split) <;> omega
  ·go_wp2
   go_round
   case rel => exact ⟨Q, .inl rfl, by simp⟩
   case measure => simp [intOf]; omega
end Go.Proofs.YtdmkmbaaemhhhaaGreatDoor
end
section
namespace Go.Proofs.YtdmkmbaaemhhhaaGreatDoor
open Go.RowKit
def Tab (w : World) : Prop := ∀ i : Nat, i < 13 → w.cell? ⟨3, i, none⟩ = some (.int .i64 (([0, 31, 28, 31, 30, 31, 30, 31, 31, 30, 31, 30, 31] : List Int).getD i 0))
theorem cell_lt {w : World} {b o : Nat} {v : Value} (h : w.cell? ⟨b, o, none⟩ = some v) : b < w.heap.size := by
 rcases Nat.lt_or_ge b w.heap.size with h1 | h1
 ·exact h1
 ·exfalso; simp [World.cell?, Array.getElem?_eq_none h1] at h
theorem Tab.lt {w : World} (h : Tab w) : 3 < w.heap.size := by
 have := h 0 (by omega)
 exact cell_lt this
theorem Tab.below {w w' : World} (h : Tab w) (hb : Below w.heap.size w w') : Tab w' := fun i hi => (hb.cell (p := ⟨3, i, none⟩) h.lt).trans (h i hi)
theorem Tab.drew {w : World} (h : Tab w) : Tab w.drew := h
theorem Tab.alloc {w : World} (h : Tab w) (o : Obj) : Tab (w.alloc o) := h.below ((Below.refl _ _).alloc (Nat.le_refl _) o)
theorem leap_any (y : Int) (w : World) (h0 : 0 ≤ y) (h1 : y ≤ 10000) :
  Calls Tryz.prog 210 #[.int .i64 y] w fun e w' => e = .returned (.bool (Cal.lp y == 1)) ∧ w = w' := by
 go_enter Tryz.func210, Tryz.ntmps210
 go_wp2
 all_goals
  go_ret
  refine ⟨ret_bool ?_, rfl⟩
  unfold Cal.lp
  rw [Bool.eq_iff_iff]
  simp
  try omega
theorem years_any (y : Int) (w : World) (h0 : 1600 ≤ y) (h1 : y ≤ 10000) :
  Calls Tryz.prog 209 #[.int .i64 y] w fun e w' => e = .returned (.int .i64 (Cal.yrs y)) ∧ w = w' := by
 go_enter Tryz.func209, Tryz.ntmps209
 go_wp2
 go_ret
 exact ⟨ret_int (by unfold Cal.yrs; omega), rfl⟩
theorem len_tab (y m : Int) (h1 : 1 ≤ m) (h2 : m ≤ 12) (h : ¬ (m = 2 ∧ Cal.lp y = 1)) : (([0, 31, 28, 31, 30, 31, 30, 31, 31, 30, 31, 30, 31] : List Int).getD m.toNat 0) = Cal.len y m := by
 have hl := Cal.lp_01 y
 have hm : m = 1 ∨ m = 2 ∨ m = 3 ∨ m = 4 ∨ m = 5 ∨ m = 6 ∨ m = 7 ∨ m = 8 ∨ m = 9 ∨ m = 10 ∨ m = 11 ∨ m = 12 := by omega
 rcases hm with rfl | rfl | rfl | rfl | rfl | rfl | rfl | rfl | rfl | rfl | rfl | rfl <;> simp [Cal.len] <;> omega
theorem length_any (y m : Int) (w : World) (ht : Tab w) (h0 : 0 ≤ y) (h1 : y ≤ 10000) (h2 : 1 ≤ m) (h3 : m ≤ 12) :
  Calls Tryz.prog 168 #[.int .i64 y, .int .i64 m] w fun e w' => e = .returned (.int .i64 (Cal.len y m)) ∧ w = w' := by
 have hc := ht m.toNat (by omega)
 have T := Lib.hid ht
 clear ht
 by_cases hm : m = 2
 ·subst hm
  by_cases hl : Cal.lp y = 1
  ·have b : (Cal.lp y == 1) = true := by simp [hl]
   clear hc
   have L : Cal.len y 2 = 29 := by unfold Cal.len; rw [if_pos rfl, hl]; rfl
   rw [L]
   clear hl L
   go_enter Tryz.func168, Tryz.ntmps168
   go_wp2_with (go_at_call 210; refine (leap_any _ _ h0 h1).mono ?_; rintro e w' ⟨rfl, rfl⟩)
   go_ret
   exact ⟨rfl, rfl⟩
  ·have b : (Cal.lp y == 1) = false := by simp [hl]
   have L : Cal.len y 2 = 28 := by unfold Cal.len; rw [if_pos rfl]; have := Cal.lp_01 y; omega
   rw [L]
   clear hl L
   simp at hc
   go_enter Tryz.func168, Tryz.ntmps168
   go_wp2_with (go_at_call 210; refine (leap_any _ _ h0 h1).mono ?_; rintro e w' ⟨rfl, rfl⟩)
   go_ret
   exact ⟨rfl, rfl⟩
 ·rw [len_tab y m h2 h3 (by omega)] at hc
  have b : (m == 2) = false := by simpa using hm
  clear hm
  have L := Cal.len_bd y m
  go_enter Tryz.func168, Tryz.ntmps168
  go_wp2_with (go_at_call 210; fail)
  go_ret
  exact ⟨rfl, rfl⟩
theorem is_any (x : Int) (w : World) :
  Calls Tryz.prog 47 #[.int .i64 x] w fun e w' => e = .returned (.bool (inB x 0 292193)) ∧ w = w' := by
 go_enter Tryz.func47, Tryz.ntmps47
 go_wp2
 all_goals
  go_ret
  refine ⟨ret_bool ?_, rfl⟩
  first
   | (symm; exact inB_f (by omega))
   | (unfold inB; simp [*])
set_option maxHeartbeats 800000 in
theorem of_any (y m d : Int) (w : World) (ht : Tab w) (hy0 : 1600 ≤ y) (hy1 : y ≤ 2399) (hm0 : 1 ≤ m) (hm1 : m ≤ 12) (hd0 : -1000 ≤ d) (hd1 : d ≤ 1000) :
  Calls Tryz.prog 169 #[.agg #[.int .i64 y, .int .i64 m, .int .i64 d]] w fun e w' => e = .returned (.int .i64 (Cal.num y m d)) ∧ Below w.heap.size w w' := by
 have yb := Cal.yrs_bd y hy0 (by omega)
 have T := Lib.hid (ht.alloc (.cells #[.int .i64 y, .int .i64 m, .int .i64 d] 188))
 clear ht
 go_enter Tryz.func169, Tryz.ntmps169
 go_wp2_with (go_at_call 209; refine (years_any _ _ hy0 (by omega)).mono ?_; rintro e w' ⟨rfl, rfl⟩)
 go_loop [3, 4] (fun n k => ∃ j : Int, 1 ≤ j ∧ j ≤ m ∧ k = .int .i64 j ∧ n = .int .i64 (Cal.yrs y + Cal.cum y j)) (fun _ k => (12 - intOf k).toNat)
 case atStart => exact ⟨1, by omega, by omega, rfl, by simp [Cal.cum]⟩
 case round =>
  obtain ⟨j, hj1, hj2, rfl, rfl⟩ := hrel
  have cb := Cal.cum_bd y j hj1 (by omega)
  have lb := Cal.len_bd y j
  by_cases hlt : j < m
  ·have cs := Cal.cum_succ y j hj1 (by omega)
   have CS := Lib.hid cs
   clear cs
   go_wp2_with (go_at_call 168; refine (length_any _ _ _ T.out (by omega) (by omega) (by omega) (by omega)).mono ?_; rintro e w' ⟨rfl, rfl⟩)
   go_round
   case rel => exact ⟨j + 1, by omega, by omega, rfl, by rw [CS.out]; go_num⟩
   case measure => simp [intOf]; omega
  ·obtain rfl : j = m := by omega
   go_wp2
   go_ret
   exact ⟨ret_int (by unfold Cal.num; omega), (Below.refl _ _).alloc (Nat.le_refl _) _⟩
set_option maxHeartbeats 1600000 in
theorem plain_any (n : Int) (w : World) (ht : Tab w) (h0 : 0 ≤ n) (h1 : n ≤ 292193) :
  Calls Tryz.prog 167 #[.int .i64 n] w fun e w' => e = .returned (.agg #[.int .i64 (Cal.dY n), .int .i64 (Cal.dM n), .int .i64 (Cal.dD n)]) ∧ Below w.heap.size w w' := by
 have T := Lib.hid (ht.alloc (.cells #[.int .i64 0, .int .i64 0, .int .i64 0] 188))
 clear ht
 go_enter Tryz.func167, Tryz.ntmps167
 go_wp2
 go_loop [3] (fun t => ∃ y : Int, 1600 ≤ y ∧ y ≤ 2399 ∧ Cal.yrs y ≤ n ∧ t = .int .i64 y) (fun t => (2400 - intOf t).toNat)
 case atStart => exact ⟨_, by omega, by omega, by unfold Cal.yrs; omega, rfl⟩
 case round =>
  obtain ⟨y, hy1, hy2, hy3, rfl⟩ := hrel
  have yb := Cal.yrs_bd y hy1 (by omega)
  have ys := Cal.yrs_succ y
  have yb2 := Cal.yrs_bd (y + 1) (by omega) (by omega)
  by_cases hc : Cal.yrs (y + 1) ≤ n
  ·have h2400 : y ≠ 2399 := by
    rintro rfl
    have : Cal.yrs (2399 + 1) = 292194 := rfl
    omega
   clear ys
   go_wp2_with (go_at_call 209; refine (years_any _ _ (by omega) (by omega)).mono ?_; rintro e w' ⟨rfl, rfl⟩)
   go_round
   case rel => exact ⟨y + 1, by omega, by omega, hc, rfl⟩
   case measure => simp [intOf]; omega
  ·have hz : n < Cal.yrs (y + 1) := by omega
   have hz2 : n < Cal.yrs y + 365 + Cal.lp y := by omega
   have hl := Cal.lp_01 y
   clear hc ys
   go_wp2_with (go_at_call 209; refine (years_any _ _ (by omega) (by omega)).mono ?_; rintro e w' ⟨rfl, rfl⟩)
   go_loop [0, 4] (fun r k => ∃ m : Int, 1 ≤ m ∧ m ≤ 12 ∧ k = .int .i64 m ∧ 0 ≤ n - Cal.yrs y - Cal.cum y m ∧ r = .int .i64 (n - Cal.yrs y - Cal.cum y m)) (fun _ k => (12 - intOf k).toNat)
   case atStart => exact ⟨1, by omega, by omega, rfl, by simp [Cal.cum]; omega, by simp [Cal.cum]⟩
   case round =>
    obtain ⟨m, hm1, hm2, rfl, hr, rfl⟩ := hrel
    have cb := Cal.cum_bd y m hm1 hm2
    have db := Cal.len_bd y m
    have cs := Cal.cum_succ y m hm1 hm2
    by_cases hd : Cal.len y m ≤ n - Cal.yrs y - Cal.cum y m
    ·have hm : m ≠ 12 := by
      rintro rfl
      have h13 : Cal.cum y (12 + 1) = 365 + Cal.lp y := rfl
      omega
     have CS := Lib.hid cs
     clear cs
     go_wp2_with (go_at_call 168; refine (length_any _ _ _ T.out (by omega) (by omega) (by omega) (by omega)).mono ?_; rintro e w' ⟨rfl, rfl⟩)
     go_round
     case rel => exact ⟨m + 1, by omega, by omega, rfl, by rw [CS.out]; omega, by rw [CS.out]; go_num⟩
     case measure => simp [intOf]; omega
    ·have hv : n - Cal.yrs y - Cal.cum y m < Cal.len y m := by omega
     have E := Lib.hid (Cal.plain_end n y m hy1 hy2 hm1 hm2 hr hv)
     clear cs hd
     go_wp2_with (go_at_call 168; refine (length_any _ _ _ T.out (by omega) (by omega) (by omega) (by omega)).mono ?_; rintro e w' ⟨rfl, rfl⟩)
     obtain ⟨e1, e2, e3⟩ := E.out
     refine bodyPost_ret (v := .agg #[.int .i64 y, .int .i64 m, .int .i64 (n - Cal.yrs y - Cal.cum y m + 1)]) (by simp [results, Tryz.results167, go_sem]) rfl ⟨?_, ?_⟩
     ·rw [e1, e2, e3]
     ·exact (Below.refl _ _).alloc (Nat.le_refl _) _
end Go.Proofs.YtdmkmbaaemhhhaaGreatDoor
end
section
namespace Go.Proofs.YtdmkmbaaemhhhaaGreatDoor
open Go.RowKit
theorem Cal.add_at (n k Y M : Int) (m1 : 1 ≤ M) (m2 : M ≤ 12) (h : 12 * (Y - 1600) + M - 1 = Cal.mon n + k) :
  Cal.add n k = if 0 ≤ Cal.mon n + k ∧ Cal.mon n + k < 9600 then Cal.num Y M (min (Cal.dD n) (Cal.len Y M)) else -1 := by
 have e1 : 1600 + (Cal.mon n + k) / 12 = Y := by omega
 have e2 : 1 + (Cal.mon n + k) % 12 = M := by omega
 unfold Cal.add Cal.ofMon
 rw [e1, e2]
theorem rlong_any (y m : Int) (w : World) (h0 : 0 ≤ y) (h1 : y ≤ 10000) (h2 : 1 ≤ m) (h3 : m ≤ 12) :
  Calls Tryz.prog 172 #[.int .i64 y, .int .i64 m] w fun e w' => e = .returned (.int .i64 (Cal.len y m)) ∧ w = w' := by
 go_enter Tryz.func172, Tryz.ntmps172
 go_wp2
 all_goals
  go_ret
  refine ⟨ret_int ?_, rfl⟩
  try simp only [beq_iff_eq, beq_eq_false_iff_ne, ne_eq] at *
  unfold Cal.len Cal.lp
  (repeat' split) <;> omega
theorem rjulian_any (y m d : Int) (w : World) (hv : Cal.vld y m d) :
  Calls Tryz.prog 171 #[.int .i64 y, .int .i64 m, .int .i64 d] w fun e w' => e = .returned (.int .i64 (Cal.num y m d)) ∧ w = w' := by
 have J := Lib.hid (Cal.jul_eq y m d hv.2.2.1 hv.2.2.2.1)
 have lb := Cal.len_bd y m
 obtain ⟨y1, y2, m1, m2, d1, d2⟩ := hv
 go_enter Tryz.func171, Tryz.ntmps171
 go_wp2
 go_ret
 refine ⟨ret_int ?_, rfl⟩
 rw [← J.out]
 unfold Cal.jul
 omega
set_option maxHeartbeats 800000 in
theorem rdate_any (n : Int) (w : World) (h0 : 0 ≤ n) (h1 : n ≤ 292193) :
  Calls Tryz.prog 170 #[.int .i64 n] w fun e w' => e = .returned (.agg #[.int .i64 (Cal.dY n), .int .i64 (Cal.dM n), .int .i64 (Cal.dD n)]) ∧ Below w.heap.size w w' := by
 go_enter Tryz.func170, Tryz.ntmps170
 go_wp2
 refine bodyPost_ret (v := .agg #[.int .i64 (Cal.dY n), .int .i64 (Cal.dM n), .int .i64 (Cal.dD n)]) (by simp [results, Tryz.results170, go_sem]; unfold Cal.dY Cal.dM Cal.dD Cal.rM Cal.rE Cal.rD Cal.rC Cal.rB Cal.rA; exact ⟨rfl, rfl, rfl⟩) rfl ⟨rfl, ?_⟩
 exact (Below.refl _ _).alloc (Nat.le_refl _) _
end Go.Proofs.YtdmkmbaaemhhhaaGreatDoor
end
