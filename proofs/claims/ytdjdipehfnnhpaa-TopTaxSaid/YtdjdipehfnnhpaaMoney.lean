/-
  Contracts: money.Share, With, Within.
-/
import Derived.Test.YtdjdipehfnnhpaaBase
import Derived.Test.YtdjdipehfnnhpaaRounded
namespace Go.Proofs.Ytdjdipehfnnhpaa
open Go.RowKit
theorem mul_bd {a r : Int} (h0 : -1000000000000 ≤ a) (h1 : a ≤ 1000000000000) (h2 : 0 ≤ r) (h3 : r ≤ 1000000) : -1000000000000000000 ≤ a * r ∧ a * r ≤ 1000000000000000000 := by
  constructor
  · have k1 : -1000000000000 * r ≤ a * r := Int.mul_le_mul_of_nonneg_right h0 h2
    omega
  · have k1 : a * r ≤ 1000000000000 * r := Int.mul_le_mul_of_nonneg_right h1 h2
    omega
/-- a / d rounded lies between a / d's bounds -/
theorem Rnd.near (n d way : Int) : n / d ≤ Rnd.rnd n d way ∧ Rnd.rnd n d way ≤ n / d + 1 := by
  unfold Rnd.rnd; (repeat' split) <;> omega
/-- what P16 asks of the arguments -/
def okM (a r way : Int) : Prop := -1000000000000 ≤ a ∧ a ≤ 1000000000000 ∧ 0 ≤ r ∧ r ≤ 1000000 ∧ 0 ≤ way ∧ way ≤ 3
set_option maxHeartbeats 400000 in
theorem within_ok (a r way : Int) (w : World) (h0 : -1000000000000 ≤ a) (h1 : a ≤ 1000000000000) (h2 : 0 ≤ r) (h3 : r ≤ 1000000) (h4 : 0 ≤ way) (h5 : way ≤ 3) :
    Calls Try.prog 16 #[.int .i64 a, .int .i64 r, .int .i64 way] w fun e w' => e = .returned (.tuple #[.int .i64 (Rnd.rnd (a * 1000000) (1000000 + r) way), .int .i64 (a - Rnd.rnd (a * 1000000) (1000000 + r) way), .int .i64 0]) ∧ ∃ k, w' = w.drewN k := by
  obtain ⟨p0, p1⟩ := Rnd.div_bd (M := 1000000000000000000) (a * 1000000) (d := 1000000 + r) (by omega) (by omega) (by omega) (by omega)
  obtain ⟨n0, n1⟩ := Rnd.near (a * 1000000) (1000000 + r) way
  have h8 : -1000000000000000000 ≤ Rnd.rnd (a * 1000000) (1000000 + r) way := by omega
  have h9 : Rnd.rnd (a * 1000000) (1000000 + r) way ≤ 1000000000000000001 := by omega
  clear p0 p1 n0 n1
  go_enter Try.func16, Try.ntmps16
  go_wp2_with (first
    | (go_at_call 35; refine (rounded_any _ _ _ _ (by omega) (by omega) (by omega) (by omega) h4 h5).mono ?_; rintro e w' ⟨rfl, k1, rfl⟩)
    | go_in)
  go_ret3
  exact ⟨rfl, _, rfl⟩
set_option maxHeartbeats 400000 in
theorem within_bad (a r way : Int) (w : World) (h : ¬ okM a r way) :
    Calls Try.prog 16 #[.int .i64 a, .int .i64 r, .int .i64 way] w fun e w' => e = .returned (.tuple #[.int .i64 0, .int .i64 0, .int .i64 1]) ∧ w = w' := by
  have H := Lib.hid h
  clear h
  go_enter Try.func16, Try.ntmps16
  go_wp2_with (first
    | (go_at_call 35; exfalso; refine H.out ?_; unfold okM; omega)
    | go_in)
  all_goals
    go_ret3
    exact ⟨rfl, rfl⟩
end Go.Proofs.Ytdjdipehfnnhpaa
