/-
  Contracts: frac.Rounded returns 'Rnd.rnd', for 1 ≤ d and a rounding mode.
-/
import Derived.Test.YtdmkmbaaemhhhaaBase
import Derived.Test.YtdmkmbaaemhhhaaRnd
namespace Go.Proofs.Ytdmkmbaaemhhhaa
open Go.RowKit
set_option maxHeartbeats 400000 in
theorem rounded0 (n d : Int) (w : World) (hn0 : -4000000000000000000 ≤ n) (hn1 : n ≤ 4000000000000000000) (hd0 : 1 ≤ d) (hd1 : d ≤ 4000000000000000000) :
    Calls Try.prog 18 #[.int .i64 n, .int .i64 d, .int .i64 0] w fun e w' => e = .returned (.int .i64 (Rnd.rnd n d 0)) ∧ ∃ k, w' = w.drewN k := by
  obtain ⟨hq0, hq1⟩ := Rnd.tdiv_bd n d hn0 hn1
  obtain ⟨hr0, hr1⟩ := Rnd.tmod_bd n hd0
  have T := Lib.hid (Rnd.trunc (n := n) hd0)
  go_enter Try.func18, Try.ntmps18
  go_wp2_with fail
  go_quiet (fail)
  go_wp2
  all_goals
    go_ret
    refine ⟨ret_int ?_, _, rfl⟩
    obtain ⟨t1, t2⟩ := T.out
    clear T
    rw [Rnd.rnd0]
    omega
set_option maxHeartbeats 400000 in
theorem rounded1 (n d : Int) (w : World) (hn0 : -4000000000000000000 ≤ n) (hn1 : n ≤ 4000000000000000000) (hd0 : 1 ≤ d) (hd1 : d ≤ 4000000000000000000) :
    Calls Try.prog 18 #[.int .i64 n, .int .i64 d, .int .i64 1] w fun e w' => e = .returned (.int .i64 (Rnd.rnd n d 1)) ∧ ∃ k, w' = w.drewN k := by
  obtain ⟨hq0, hq1⟩ := Rnd.tdiv_bd n d hn0 hn1
  obtain ⟨hr0, hr1⟩ := Rnd.tmod_bd n hd0
  have T := Lib.hid (Rnd.trunc (n := n) hd0)
  go_enter Try.func18, Try.ntmps18
  go_wp2_with fail
  go_quiet (fail)
  go_wp2
  all_goals
    go_ret
    refine ⟨ret_int ?_, _, rfl⟩
    obtain ⟨t1, t2⟩ := T.out
    clear T
    rw [Rnd.rnd1]
    split <;> omega
set_option maxHeartbeats 400000 in
theorem rounded2 (n d : Int) (w : World) (hn0 : -4000000000000000000 ≤ n) (hn1 : n ≤ 4000000000000000000) (hd0 : 1 ≤ d) (hd1 : d ≤ 4000000000000000000) :
    Calls Try.prog 18 #[.int .i64 n, .int .i64 d, .int .i64 2] w fun e w' => e = .returned (.int .i64 (Rnd.rnd n d 2)) ∧ ∃ k, w' = w.drewN k := by
  obtain ⟨hq0, hq1⟩ := Rnd.tdiv_bd n d hn0 hn1
  obtain ⟨hr0, hr1⟩ := Rnd.tmod_bd n hd0
  have T := Lib.hid (Rnd.trunc (n := n) hd0)
  go_enter Try.func18, Try.ntmps18
  go_wp2_with fail
  go_quiet (fail)
  go_wp2
  all_goals
    go_ret
    refine ⟨ret_int ?_, _, rfl⟩
    obtain ⟨t1, t2⟩ := T.out
    clear T
    rw [Rnd.rnd2]
    split <;> omega
set_option maxHeartbeats 400000 in
theorem rounded3 (n d : Int) (w : World) (hn0 : -4000000000000000000 ≤ n) (hn1 : n ≤ 4000000000000000000) (hd0 : 1 ≤ d) (hd1 : d ≤ 4000000000000000000) :
    Calls Try.prog 18 #[.int .i64 n, .int .i64 d, .int .i64 3] w fun e w' => e = .returned (.int .i64 (Rnd.rnd n d 3)) ∧ ∃ k, w' = w.drewN k := by
  obtain ⟨hq0, hq1⟩ := Rnd.tdiv_bd n d hn0 hn1
  obtain ⟨hr0, hr1⟩ := Rnd.tmod_bd n hd0
  have T := Lib.hid (Rnd.trunc (n := n) hd0)
  go_enter Try.func18, Try.ntmps18
  go_wp2_with fail
  go_quiet (fail)
  go_wp2
  all_goals
    go_ret
    refine ⟨ret_int ?_, _, rfl⟩
    obtain ⟨t1, t2⟩ := T.out
    clear T
    try simp only [bne_iff_ne, ne_eq, bne_eq_false_iff_eq] at *
    rw [Rnd.rnd3]
    have m1 := Rnd.tmod2 (n.tdiv d)
    have m2 := Rnd.tmod2 (n.tdiv d - 1)
    split <;> omega
theorem rounded_any (n d way : Int) (w : World) (hn0 : -4000000000000000000 ≤ n) (hn1 : n ≤ 4000000000000000000) (hd0 : 1 ≤ d) (hd1 : d ≤ 4000000000000000000) (h0 : 0 ≤ way) (h3 : way ≤ 3) :
    Calls Try.prog 18 #[.int .i64 n, .int .i64 d, .int .i64 way] w fun e w' => e = .returned (.int .i64 (Rnd.rnd n d way)) ∧ ∃ k, w' = w.drewN k := by
  have : way = 0 ∨ way = 1 ∨ way = 2 ∨ way = 3 := by omega
  rcases this with rfl | rfl | rfl | rfl
  · exact rounded0 n d w hn0 hn1 hd0 hd1
  · exact rounded1 n d w hn0 hn1 hd0 hd1
  · exact rounded2 n d w hn0 hn1 hd0 hd1
  · exact rounded3 n d w hn0 hn1 hd0 hd1

theorem i64_and1 (n : Int) : bits .and .i64 n 1 = n % 2 := by
  have h1 : (BitVec.ofInt 64 1).toNat = 2 ^ 1 - 1 := by decide
  have key : (BitVec.ofInt 64 n &&& BitVec.ofInt 64 1).toNat = (n % ((2 ^ 64 : Nat) : Int)).toNat % 2 ^ 1 := by
    rw [BitVec.toNat_and, BitVec.toNat_ofInt, h1, Nat.and_two_pow_sub_one_eq_mod]
  show IntKind.i64.wrap ((BitVec.ofInt 64 n &&& BitVec.ofInt 64 1).toNat : Nat) = n % 2
  rw [key, IntKind.wrap_i64]
  omega
end Go.Proofs.Ytdmkmbaaemhhhaa
