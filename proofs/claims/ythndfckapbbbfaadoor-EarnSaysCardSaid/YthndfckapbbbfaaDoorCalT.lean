/-
  Contracts of the references: Months, Of at no date, Euro.
-/
import Derived.Test.YthndfckapbbbfaaDoorCalS
namespace Go.Proofs.YthndfckapbbbfaaDoor
open Go.RowKit
set_option linter.unusedVariables false
theorem Cal.add_go (a b k : Int) (a0 : 0 ≤ a) (hab : a ≤ b) (b1 : b ≤ 292193) (h0 : 0 ≤ k) (h1 : k < Cal.months a b) : 0 ≤ Cal.add a (k + 1) ∧ Cal.add a (k + 1) ≤ b := by
  obtain ⟨s1, s2, s3⟩ := Cal.months_step a b k a0 hab b1 h0 h1
  obtain ⟨f1, f2, f3, f4, f5⟩ := Cal.day_fm a a0 (by omega)
  unfold Cal.add
  rw [if_pos ⟨s1, s2⟩]
  have := Cal.num_bd _ _ _ (Cal.vld_mon _ _ s1 s2 f3)
  exact ⟨this.1, s3⟩
theorem Cal.add_end (a b : Int) (a0 : 0 ≤ a) (hab : a ≤ b) (b1 : b ≤ 292193) : Cal.add a (Cal.months a b + 1) < 0 ∨ b < Cal.add a (Cal.months a b + 1) := by
  obtain ⟨m0, m1, m2, m3⟩ := Cal.months_is a b a0 hab b1
  unfold Cal.add
  split
  · right; rw [show Cal.mon a + (Cal.months a b + 1) = Cal.mon a + Cal.months a b + 1 by omega]; exact m3
  · left; omega
set_option maxHeartbeats 1600000 in
theorem rmonths_any (a b : Int) (w : World) (h0 : 0 ≤ a) (h1 : a ≤ b) (h2 : b ≤ 292193) :
    Calls Tryd.prog 19 #[.int .i64 a, .int .i64 b] w fun e w' => e = .returned (.int .i64 (Cal.months a b)) ∧ Below w.heap.size w w' := by
  obtain ⟨m0, m1, _, _⟩ := Cal.months_is a b h0 h1 h2
  have ml := Cal.months_low a b h0 h1 h2
  have mb := Cal.mon_bd b (by omega) h2
  have ma := Cal.mon_bd a h0 (by omega)
  have K1 : Cal.months a b ≤ 9599 := by omega
  have GO := Lib.hid (fun k => Cal.add_go a b k h0 h1 h2)
  have EN := Lib.hid (Cal.add_end a b h0 h1 h2)
  clear m1 mb ma
  have ml' := Lib.hid ml
  clear ml
  by_cases hk : 0 < (b - a) / 31 - 1
  all_goals
    go_enter Tryd.func19, Tryd.ntmps19
    go_wp2
    go_loopw [5] (fun i wr => ∃ k : Int, i = .int .i64 k ∧ 0 ≤ k ∧ k ≤ Cal.months a b ∧ Below w.heap.size w wr) (fun i _ => (9600 - intOf i).toNat)
    case atStart => first
      | exact ⟨(b - a) / 31 - 1, rfl, by omega, by have := ml'.out; omega, Below.refl _ _⟩
      | exact ⟨0, rfl, by omega, by omega, Below.refl _ _⟩
    case round =>
      obtain ⟨k, rfl, k0, k1, hb⟩ := hrel
      by_cases hlt : k < Cal.months a b
      · obtain ⟨g0, g1⟩ := GO.out k k0 hlt
        go_wp2_with (go_at_call 20; refine (radd_any _ _ _ h0 (by omega) (by omega) (by omega)).mono ?_; rintro e w2 ⟨rfl, hb2⟩)
        go_roundw
        case rel => exact ⟨k + 1, rfl, by omega, by omega, below_via hb hb.size hb2⟩
        case measure => simp [intOf]; omega
      · obtain rfl : k = Cal.months a b := by omega
        rcases EN.out with g | g
        · go_wp2_with (go_at_call 20; refine (radd_any _ _ _ h0 (by omega) (by omega) (by omega)).mono ?_; rintro e w2 ⟨rfl, hb2⟩)
          go_ret
          exact ⟨rfl, below_via hb hb.size hb2⟩
        · go_wp2_with (go_at_call 20; refine (radd_any _ _ _ h0 (by omega) (by omega) (by omega)).mono ?_; rintro e w2 ⟨rfl, hb2⟩)
          go_ret
          exact ⟨rfl, below_via hb hb.size hb2⟩
set_option maxHeartbeats 800000 in
theorem rof_bad (y m d : Int) (w : World) (hv : ¬ Cal.vld y m d) :
    Calls Tryd.prog 13 #[.agg #[.int .i64 y, .int .i64 m, .int .i64 d]] w fun e w' => e = .returned (.int .i64 (-1)) ∧ Below w.heap.size w w' := by
  have lb := Cal.len_bd y m
  by_cases hy : 1600 ≤ y ∧ y ≤ 2399
  · have e1 := inB_t hy.1 hy.2
    by_cases hm : 1 ≤ m ∧ m ≤ 12
    · have e2 := inB_t hm.1 hm.2
      have e3 : inB d 1 (Cal.len y m) = false := inB_f (by unfold Cal.vld at hv; omega)
      clear hv
      go_enter Tryd.func13, Tryd.ntmps13
      go_wp2_with fail
      go_quiet ((first | (go_at_call 31; exact quiet_left (rwithin_any _ _ _ _)) | (go_at_call 35; exact quiet_left (rlong_any _ _ _ (by omega) (by omega) (by omega) (by omega)))))
      subst_vars
      go_wp2
      go_ret
      exact ⟨rfl, below_drewN ((Below.refl _ _).alloc (Nat.le_refl _) _) _⟩
    · have e2 : inB m 1 12 = false := inB_f (by omega)
      clear hv hm
      go_enter Tryd.func13, Tryd.ntmps13
      go_wp2_with fail
      go_quiet ((go_at_call 31; exact quiet_left (rwithin_any _ _ _ _)))
      subst_vars
      go_wp2
      go_ret
      exact ⟨rfl, below_drewN ((Below.refl _ _).alloc (Nat.le_refl _) _) _⟩
  · have e1 : inB y 1600 2399 = false := inB_f (by omega)
    clear hv hy
    go_enter Tryd.func13, Tryd.ntmps13
    go_wp2_with fail
    go_quiet ((go_at_call 31; exact quiet_left (rwithin_any _ _ _ _)))
    subst_vars
    go_wp2
    go_ret
    exact ⟨rfl, below_drewN ((Below.refl _ _).alloc (Nat.le_refl _) _) _⟩
end Go.Proofs.YthndfckapbbbfaaDoor
