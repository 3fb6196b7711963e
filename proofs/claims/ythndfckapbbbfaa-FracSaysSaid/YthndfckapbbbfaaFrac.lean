/-
  Contracts: frac.Check, two, Cmp, Round; talref.Frac at one and at two fractions.
-/
import Derived.Test.YthndfckapbbbfaaBase
import Derived.Test.YthndfckapbbbfaaRounded
import Derived.Test.YthndfckapbbbfaaMoney
import Derived.IntWalk
namespace Go.Proofs.Ythndfckapbbbfaa
open Go.RowKit
/-- P8 -/
def chk (n d : Int) : Int := if d = 0 then 6 else if -1000000000000 ≤ n ∧ n ≤ 1000000000000 ∧ 1 ≤ d ∧ d ≤ 1000000 then 0 else 1
theorem chk_ok {n d : Int} (h0 : -1000000000000 ≤ n) (h1 : n ≤ 1000000000000) (h2 : 1 ≤ d) (h3 : d ≤ 1000000) : chk n d = 0 := by
  unfold chk; rw [if_neg (by omega), if_pos ⟨h0, h1, h2, h3⟩]
theorem of_chk {n d : Int} (h : chk n d = 0) : -1000000000000 ≤ n ∧ n ≤ 1000000000000 ∧ 1 ≤ d ∧ d ≤ 1000000 := by
  unfold chk at h; split at h
  · omega
  · split at h
    · assumption
    · omega
/-- the error of two -/
def chk2 (n d m c : Int) : Int := if chk n d = 0 then chk m c else chk n d
theorem chk2_t {n d m c : Int} (h : chk n d = 0) : chk2 n d m c = chk m c := by unfold chk2; rw [if_pos h]
theorem chk2_f {n d m c : Int} (h : chk n d ≠ 0) : chk2 n d m c = chk n d := by unfold chk2; rw [if_neg h]
theorem chk_cases (n d : Int) : chk n d = 0 ∨ chk n d = 1 ∨ chk n d = 6 := by
  unfold chk; split
  · exact .inr (.inr rfl)
  · split
    · exact .inl rfl
    · exact .inr (.inl rfl)
theorem bounded_any (x : Int) (w : World) :
    Calls Try.prog 75 #[.int .i64 x, .int .i64 1000000000000] w fun e w' => e = .returned (.bool (inB x (-1000000000000) 1000000000000)) ∧ w = w' := by
  go_enter Try.func75, Try.ntmps75
  go_wp2
  all_goals
    go_ret
    refine ⟨ret_bool ?_, rfl⟩
    first
      | (symm; exact inB_f (by omega))
      | (unfold inB; simp [*])
set_option maxHeartbeats 400000 in
theorem check_any (n d : Int) (w : World) :
    Calls Try.prog 30 #[.agg #[.int .i64 n, .int .i64 d]] w fun e w' => e = .returned (.int .i64 (chk n d)) ∧ w' = w.alloc (.cells #[.int .i64 n, .int .i64 d] 33) := by
  by_cases hz : d = 0
  · subst hz
    go_enter Try.func30, Try.ntmps30
    go_wp2
    go_ret
    exact ⟨rfl, rfl⟩
  · by_cases hn : -1000000000000 ≤ n ∧ n ≤ 1000000000000
    · have b := inB_t hn.1 hn.2
      go_enter Try.func30, Try.ntmps30
      go_wp2_with (go_at_call 75; refine (bounded_any _ _).mono ?_; rintro e w' ⟨rfl, rfl⟩)
      all_goals
        go_ret
        refine ⟨ret_int ?_, rfl⟩
        unfold chk
        first
          | (rw [if_neg (by omega), if_pos (by omega)]; done)
          | (rw [if_neg (by omega), if_neg (by omega)])
    · have b : inB n (-1000000000000) 1000000000000 = false := inB_f (by omega)
      go_enter Try.func30, Try.ntmps30
      go_wp2_with (go_at_call 75; refine (bounded_any _ _).mono ?_; rintro e w' ⟨rfl, rfl⟩)
      go_ret
      refine ⟨ret_int ?_, rfl⟩
      unfold chk
      rw [if_neg (by omega), if_neg (by omega)]
set_option maxHeartbeats 400000 in
theorem two_any (n d m c : Int) (w : World) :
    Calls Try.prog 65 #[.agg #[.int .i64 n, .int .i64 d], .agg #[.int .i64 m, .int .i64 c]] w fun e w' => e = .returned (.int .i64 (chk2 n d m c)) ∧ Below w.heap.size w w' := by
  by_cases hz : chk n d = 0
  · rw [chk2_t hz]
    go_enter Try.func65, Try.ntmps65
    go_wp2_with (go_at_call 30; refine (check_any _ _ _).mono ?_; rintro e w' ⟨rfl, rfl⟩)
    go_ret
    exact ⟨rfl, by repeat (first | exact Below.refl _ _ | refine Below.alloc ?_ (by first | (simp; done) | (simp; omega)) _)⟩
  · rw [chk2_f hz]
    have hz' : (chk n d == 0) = false := by simpa using hz
    have hz2 : (chk n d != 0) = true := by simpa using hz
    clear hz
    go_enter Try.func65, Try.ntmps65
    go_wp2_with (go_at_call 30; refine (check_any _ _ _).mono ?_; rintro e w' ⟨rfl, rfl⟩)
    go_ret
    exact ⟨rfl, by repeat (first | exact Below.refl _ _ | refine Below.alloc ?_ (by first | (simp; done) | (simp; omega)) _)⟩
set_option maxHeartbeats 400000 in
theorem fround_ok (n d way : Int) (w : World) (h : chk n d = 0) (h4 : 0 ≤ way) (h5 : way ≤ 3) :
    Calls Try.prog 20 #[.agg #[.int .i64 n, .int .i64 d], .int .i64 way] w fun e w' => e = .returned (.tuple #[.int .i64 (Rnd.rnd n d way), .int .i64 0]) ∧ Below w.heap.size w w' := by
  obtain ⟨a0, a1, a2, a3⟩ := of_chk h
  have t := check_any n d
  rw [h] at t
  have T := Lib.hid t
  clear t h
  go_enter Try.func20, Try.ntmps20
  go_wp2_with (first
    | (go_at_call 30; refine (T.out _).mono ?_; rintro e w' ⟨rfl, rfl⟩)
    | (go_at_call 62; refine (rounded_any _ _ _ _ (by omega) (by omega) (by omega) (by omega) h4 h5).mono ?_; rintro e w' ⟨rfl, k1, rfl⟩))
  go_ret2
  exact ⟨rfl, below_drewN (by repeat (first | exact Below.refl _ _ | refine Below.alloc ?_ (by first | (simp; done) | (simp; omega)) _)) _⟩
set_option maxHeartbeats 400000 in
theorem fround_bad (n d way : Int) (w : World) (h : chk n d ≠ 0) :
    Calls Try.prog 20 #[.agg #[.int .i64 n, .int .i64 d], .int .i64 way] w fun e w' => e = .returned (.tuple #[.int .i64 0, .int .i64 (chk n d)]) ∧ Below w.heap.size w w' := by
  have z1 : (chk n d == 0) = false := by simpa using h
  have z2 : (chk n d != 0) = true := by simpa using h
  clear h
  go_enter Try.func20, Try.ntmps20
  go_wp2_with (go_at_call 30; refine (check_any _ _ _).mono ?_; rintro e w' ⟨rfl, rfl⟩)
  go_ret2
  exact ⟨rfl, (by repeat (first | exact Below.refl _ _ | refine Below.alloc ?_ (by first | (simp; done) | (simp; omega)) _))⟩
set_option maxHeartbeats 400000 in
theorem fround_way (n d way : Int) (w : World) (h : chk n d = 0) (hw : way < 0 ∨ 3 < way) :
    Calls Try.prog 20 #[.agg #[.int .i64 n, .int .i64 d], .int .i64 way] w fun e w' => e = .returned (.tuple #[.int .i64 0, .int .i64 1]) ∧ Below w.heap.size w w' := by
  have t := check_any n d
  rw [h] at t
  have T := Lib.hid t
  clear t h
  rcases hw with hw | hw
  all_goals
    go_enter Try.func20, Try.ntmps20
    go_wp2_with (first
      | (go_at_call 30; refine (T.out _).mono ?_; rintro e w' ⟨rfl, rfl⟩))
    go_ret2
    exact ⟨rfl, (by repeat (first | exact Below.refl _ _ | refine Below.alloc ?_ (by first | (simp; done) | (simp; omega)) _))⟩
theorem chk_eq (n d : Int) : chk n d = if (d == 0) = true then 6 else if inB n (-1000000000000) 1000000000000 = true then if inB d 1 1000000 = true then 0 else 1 else 1 := by
  unfold chk inB
  by_cases h : d = 0
  · simp [h]
  · simp only [beq_iff_eq, h, if_false, Bool.and_eq_true, decide_eq_true_eq]
    (repeat' split) <;> omega
set_option maxHeartbeats 800000 in
/-- talref.Frac of one -/
theorem rfrac1 (n d : Int) (b : Nat) (w : World) (_hb : b < w.heap.size) (c0 : w.cell? ⟨b, 0, none⟩ = some (.int .i64 n)) (c1 : w.cell? ⟨b, 1, none⟩ = some (.int .i64 d)) :
    Calls Try.prog 21 #[.slice (some ⟨b, 0, none⟩) 1 1] w fun e w' => e = .returned (.int .i64 (chk n d)) ∧ Below w.heap.size w w' := by
  go_enter Try.func21, Try.ntmps21
  go_wp2_with fail
  refine wp_loop_rounds 2 ?_
  rw [rounds_succ]
  go_wp2_with (first
    | (go_at_call 16; refine (rmoney_any _ _).mono ?_; rintro e w' ⟨rfl, rfl⟩)
    | (go_at_call 64; refine (rwithin_any _ _ _ _).mono ?_; rintro e w' ⟨rfl, rfl⟩))
  all_goals try (rw [rounds_succ]; go_wp2_with fail)
  all_goals
    go_ret
    refine ⟨ret_int ?_, by repeat (first | exact Below.refl _ _ | refine Below.setCell ?_ (by simp) _ | refine Below.alloc ?_ (by first | (simp; done) | (simp; omega)) _)⟩
    try simp only [Bool.not_eq_eq_eq_not, Bool.not_true, Bool.not_false] at *
    rw [chk_eq]
    simp [*]
set_option maxHeartbeats 1600000 in
/-- talref.Frac of two -/
theorem rfrac2 (n d m c : Int) (b : Nat) (w : World) (hb : b < w.heap.size) (c0 : w.cell? ⟨b, 0, none⟩ = some (.int .i64 n)) (c1 : w.cell? ⟨b, 1, none⟩ = some (.int .i64 d))
    (c2 : w.cell? ⟨b, 2, none⟩ = some (.int .i64 m)) (c3 : w.cell? ⟨b, 3, none⟩ = some (.int .i64 c)) :
    Calls Try.prog 21 #[.slice (some ⟨b, 0, none⟩) 2 2] w fun e w' => e = .returned (.int .i64 (chk2 n d m c)) ∧ Below w.heap.size w w' := by
  go_enter Try.func21, Try.ntmps21
  go_wp2_with fail
  refine wp_loop_rounds 3 ?_
  rw [rounds_succ]
  go_wp2_with (first
    | (go_at_call 16; refine (rmoney_any _ _).mono ?_; rintro e w' ⟨rfl, rfl⟩)
    | (go_at_call 64; refine (rwithin_any _ _ _ _).mono ?_; rintro e w' ⟨rfl, rfl⟩))
  all_goals try (rw [rounds_succ]; go_wp2_with (first
    | (go_at_call 16; refine (rmoney_any _ _).mono ?_; rintro e w' ⟨rfl, rfl⟩)
    | (go_at_call 64; refine (rwithin_any _ _ _ _).mono ?_; rintro e w' ⟨rfl, rfl⟩)))
  all_goals try (rw [rounds_succ]; go_wp2_with fail)
  all_goals
    go_ret
    refine ⟨ret_int ?_, by repeat (first | exact Below.refl _ _ | refine Below.setCell ?_ (by simp; done) _ | refine Below.setCell ?_ (by simp; omega) _ | refine Below.alloc ?_ (by first | (simp; done) | (simp; omega)) _)⟩
    try simp only [Bool.not_eq_eq_eq_not, Bool.not_true, Bool.not_false] at *
    simp only [chk2, chk_eq]
    simp [*]
/-- -1, 0, 1 -/
def cmp3 (x y : Int) : Int := if x < y then -1 else if y < x then 1 else 0
set_option maxHeartbeats 400000 in
theorem cmp_ok (n d m c : Int) (w : World) (h1 : chk n d = 0) (h2 : chk m c = 0) :
    Calls Try.prog 19 #[.agg #[.int .i64 n, .int .i64 d], .agg #[.int .i64 m, .int .i64 c]] w fun e w' => e = .returned (.tuple #[.int .i64 (cmp3 (n * c) (m * d)), .int .i64 0]) ∧ Below w.heap.size w w' := by
  obtain ⟨a0, a1, a2, a3⟩ := of_chk h1
  obtain ⟨b0, b1, b2, b3⟩ := of_chk h2
  have t := two_any n d m c
  rw [chk2_t h1, h2] at t
  have T := Lib.hid t
  obtain ⟨p0, p1⟩ := mul_bd a0 a1 (show 0 ≤ c by omega) b3
  obtain ⟨q0, q1⟩ := mul_bd b0 b1 (show 0 ≤ d by omega) a3
  clear t h1 h2
  have i1 := IntWalk.i64_in (n * c) (by omega)
  have i2 := IntWalk.i64_in (m * d) (by omega)
  go_enter Try.func19, Try.ntmps19
  go_wp2_with (go_at_call 65; refine (T.out _).mono ?_; rintro e w1 ⟨rfl, hb⟩; obtain ⟨hc, hf⟩ := bcell hb)
  go_quiet (fail)
  clear i1 i2
  go_wp2
  all_goals
    go_ret2
    refine ⟨?_, below_drewN (below_via (by repeat (first | exact Below.refl _ _ | refine Below.alloc ?_ (by first | (simp; done) | (simp; omega)) _)) (by simp; omega) hb) _⟩
    unfold cmp3
    first
      | (rw [if_pos (by omega)]; rfl)
      | (rw [if_neg (by omega), if_pos (by omega)]; rfl)
      | (rw [if_neg (by omega), if_neg (by omega)]; rfl)
set_option maxHeartbeats 400000 in
theorem cmp_bad (n d m c E : Int) (w : World) (hE : (chk2 n d m c) = E) (h : E ≠ 0) :
    Calls Try.prog 19 #[.agg #[.int .i64 n, .int .i64 d], .agg #[.int .i64 m, .int .i64 c]] w fun e w' => e = .returned (.tuple #[.int .i64 0, .int .i64 E]) ∧ Below w.heap.size w w' := by
  have t := two_any n d m c
  rw [hE] at t
  have T := Lib.hid t
  have z1 : (E == 0) = false := by simpa using h
  have z2 : (E != 0) = true := by simpa using h
  clear t h hE
  go_enter Try.func19, Try.ntmps19
  go_wp2_with (go_at_call 65; refine (T.out _).mono ?_; rintro e w1 ⟨rfl, hb⟩; obtain ⟨hc, hf⟩ := bcell hb)
  go_ret2
  exact ⟨rfl, below_via (by repeat (first | exact Below.refl _ _ | refine Below.alloc ?_ (by first | (simp; done) | (simp; omega)) _)) (by simp; omega) hb⟩
end Go.Proofs.Ythndfckapbbbfaa
