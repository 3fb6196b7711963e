/-
  Contracts: gcd and abs of both packages; norm and Lowest; told and Told.
-/
import Derived.Test.YthndfckapbbbfaaGcd
import Derived.Test.YthndfckapbbbfaaFrac
import Derived.Shelf.Abstract
namespace Go.Proofs.Ythndfckapbbbfaa
open Go.RowKit
set_option linter.unusedVariables false
theorem abs_any (x : Int) (w : World) (h0 : -4000000000000000000 ≤ x) (h1 : x ≤ 4000000000000000000) :
    Calls Try.prog 74 #[.int .i64 x] w fun e w' => e = .returned (.int .i64 x.natAbs) ∧ w = w' := by
  go_enter Try.func74, Try.ntmps74
  go_wp2
  all_goals
    go_ret
    exact ⟨ret_int (by omega), rfl⟩
theorem rabs_any (x : Int) (w : World) (h0 : -4000000000000000000 ≤ x) (h1 : x ≤ 4000000000000000000) :
    Calls Try.prog 77 #[.int .i64 x] w fun e w' => e = .returned (.int .i64 x.natAbs) ∧ w = w' := by
  go_enter Try.func77, Try.ntmps77
  go_wp2
  all_goals
    go_ret
    exact ⟨ret_int (by omega), rfl⟩
set_option maxHeartbeats 800000 in
theorem gcd_any (a b : Int) (w : World) (ha : 0 ≤ a) (hb : 0 ≤ b) (ha' : a ≤ 4000000000000000000) (hb' : b ≤ 4000000000000000000) :
    Calls Try.prog 98 #[.int .i64 a, .int .i64 b] w fun e w' => e = .returned (.int .i64 (Gcd.g a b)) ∧ ∃ k, w' = w.drewN k := by
  go_enter Try.func98, Try.ntmps98
  go_wp2
  go_loopw [0, 1] (fun x y wr => ∃ p q : Int, ∃ j : Nat, x = .int .i64 p ∧ y = .int .i64 q ∧ 0 ≤ p ∧ 0 ≤ q ∧ p ≤ 4000000000000000000 ∧ q ≤ 4000000000000000000 ∧ Gcd.g a b = Gcd.g p q ∧ wr = w.drewN j) (fun _ y _ => (intOf y).toNat)
  case atStart => exact ⟨a, b, 0, rfl, rfl, ha, hb, ha', hb', rfl, rfl⟩
  case round =>
    obtain ⟨p, q, j, rfl, rfl, p0, q0, p1, q1, hg, rfl⟩ := hrel
    have HG := Lib.hid hg
    clear hg
    by_cases hlt : 0 < q
    · have m0 := Int.emod_nonneg p (show q ≠ 0 by omega)
      have m1 := Int.emod_lt_of_pos p hlt
      have tm : p.tmod q = p % q := Int.tmod_eq_emod_of_nonneg p0
      go_wp2_with fail
      go_quiet (fail)
      go_wp2
      go_roundw
      case rel => exact ⟨q, p % q, _, rfl, by rw [← tm], q0, m0, q1, by omega, HG.out.trans (Gcd.g_mod p0 (by omega)), World.drewN_drewN ..⟩
      case measure => simp [intOf]; omega
    · obtain rfl : q = 0 := by omega
      go_wp2
      go_ret
      refine ⟨ret_int ?_, _, rfl⟩
      rw [HG.out, Gcd.g_zero p0 (by omega) (.inr rfl)]; omega
theorem eg_rgcd : ∀ args w, (callFunc 76 args).run Try.prog w = .ok (.enter 76 args) w := enters_of Try.func76 (by kernel_rfl) rfl
set_option maxHeartbeats 800000 in
theorem rgcd_any (n : Nat) : ∀ (a b : Int) (w : World) (ha : 0 ≤ a) (hb : 0 ≤ b) (ha' : a ≤ 4000000000000000000) (hb' : b ≤ 4000000000000000000) (hn : a + b < n),
    Calls Try.prog 76 #[.int .i64 a, .int .i64 b] w fun e w' => e = .returned (.int .i64 (Gcd.g a b)) ∧ w = w' := by
  induction n with
  | zero => intro a b w ha hb _ _ hn; omega
  | succ n ih =>
    intro a b w ha hb ha' hb' hn
    have IH := Lib.hid ih
    clear ih
    by_cases hz : a = 0
    · subst hz
      have G := Lib.hid (Gcd.g_zero ha hb (.inl rfl))
      go_enter Try.func76, Try.ntmps76
      go_wp2_with fail
      go_ret
      exact ⟨ret_int (by rw [G.out]; omega), rfl⟩
    have za : (a == 0) = false := by simp; omega
    by_cases hz' : b = 0
    · subst hz'
      have G := Lib.hid (Gcd.g_zero ha hb (.inr rfl))
      go_enter Try.func76, Try.ntmps76
      go_wp2_with fail
      go_ret
      exact ⟨ret_int (by rw [G.out]; omega), rfl⟩
    have zb : (b == 0) = false := by simp; omega
    have a1 : 1 ≤ a := by omega
    have b1 : 1 ≤ b := by omega
    clear hz hz'
    by_cases ea : a % 2 = 0
    · have xa : (a % 2 == 0) = true := by simp; omega
      by_cases eb : b % 2 = 0
      · have xb : (b % 2 == 0) = true := by simp; omega
        have G := Lib.hid (Gcd.g_even ha hb ea eb)
        have gl := Gcd.g_le (n := a / 2) (d := b / 2) (by omega)
        have gp := Gcd.g_pos (n := a / 2) (d := b / 2) (by omega)
        go_enter Try.func76, Try.ntmps76
        go_wp2_with (go_at_call 76; refine (IH.out _ _ _ (by omega) (by omega) (by omega) (by omega) (by omega)).mono ?_; rintro e w' ⟨rfl, rfl⟩)
        go_ret
        exact ⟨ret_int (by rw [G.out]), rfl⟩
      · have xb : (b % 2 == 0) = false := by simp; omega
        have G := Lib.hid (Gcd.g_half ha hb ea eb)
        go_enter Try.func76, Try.ntmps76
        go_wp2_with (go_at_call 76; refine (IH.out _ _ _ (by omega) (by omega) (by omega) (by omega) (by omega)).mono ?_; rintro e w' ⟨rfl, rfl⟩)
        go_ret
        exact ⟨ret_int (by rw [G.out]), rfl⟩
    · have xa : (a % 2 == 0) = false := by simp; omega
      by_cases eb : b % 2 = 0
      · have xb : (b % 2 == 0) = true := by simp; omega
        have G := Lib.hid ((Gcd.g_comm a b).trans ((Gcd.g_half hb ha eb ea).trans (Gcd.g_comm _ _)))
        go_enter Try.func76, Try.ntmps76
        go_wp2_with (go_at_call 76; refine (IH.out _ _ _ (by omega) (by omega) (by omega) (by omega) (by omega)).mono ?_; rintro e w' ⟨rfl, rfl⟩)
        go_ret
        exact ⟨ret_int (by rw [G.out]), rfl⟩
      · have xb : (b % 2 == 0) = false := by simp; omega
        by_cases hl : a < b
        · have G := Lib.hid (Gcd.g_odd ha hb ea eb (by omega))
          go_enter Try.func76, Try.ntmps76
          go_wp2_with (go_at_call 76; refine (IH.out _ _ _ (by omega) (by omega) (by omega) (by omega) (by omega)).mono ?_; rintro e w' ⟨rfl, rfl⟩)
          go_ret
          exact ⟨ret_int (by rw [G.out]), rfl⟩
        · have G := Lib.hid ((Gcd.g_comm a b).trans ((Gcd.g_odd hb ha eb ea (by omega)).trans (Gcd.g_comm _ _)))
          go_enter Try.func76, Try.ntmps76
          go_wp2_with (go_at_call 76; refine (IH.out _ _ _ (by omega) (by omega) (by omega) (by omega) (by omega)).mono ?_; rintro e w' ⟨rfl, rfl⟩)
          go_ret
          exact ⟨ret_int (by rw [G.out]), rfl⟩
end Go.Proofs.Ythndfckapbbbfaa
