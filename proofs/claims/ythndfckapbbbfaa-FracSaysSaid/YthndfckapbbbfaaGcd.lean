/-
  Plain law: greatest common divisors, by remainders and by halves; lowest terms.
-/
set_option linter.unusedVariables false
namespace Go.Proofs.Ythndfckapbbbfaa
namespace Gcd
theorem halve_both (a b : Nat) (ha : a % 2 = 0) (hb : b % 2 = 0) : Nat.gcd a b = 2 * Nat.gcd (a / 2) (b / 2) := by
  rw [← Nat.gcd_mul_left]; congr 1 <;> omega
theorem cop2 {b : Nat} (hb : b % 2 = 1) : Nat.Coprime 2 b := by
  unfold Nat.Coprime
  rw [Nat.gcd_rec, hb]
  decide
theorem halve_one (a b : Nat) (ha : a % 2 = 0) (hb : b % 2 = 1) : Nat.gcd a b = Nat.gcd (a / 2) b := by
  have h := Nat.Coprime.gcd_mul_left_cancel (a / 2) (cop2 hb)
  rwa [show 2 * (a / 2) = a by omega] at h
theorem sub_one (a b : Nat) (h : a ≤ b) : Nat.gcd a b = Nat.gcd a (b - a) := by
  rw [Nat.gcd_sub_self_right h]
theorem odd_both (a b : Nat) (ha : a % 2 = 1) (hb : b % 2 = 1) (h : a ≤ b) : Nat.gcd a b = Nat.gcd a ((b - a) / 2) := by
  rw [sub_one a b h, Nat.gcd_comm, Nat.gcd_comm a, halve_one (b - a) a (by omega) ha]
/-- the greatest common divisor of a magnitude and a number above 0 -/
def g (n d : Int) : Int := (Nat.gcd n.natAbs d.natAbs : Nat)
theorem g_abs (n d : Int) : g n.natAbs d = g n d := by unfold g; rfl
theorem g_pos {n d : Int} (hd : 1 ≤ d) : 1 ≤ g n d := by
  have := Nat.gcd_pos_of_pos_right n.natAbs (show 0 < d.natAbs by omega)
  unfold g; omega
theorem g_le {n d : Int} (hd : 1 ≤ d) : g n d ≤ d := by
  have := Nat.gcd_le_right (m := n.natAbs) (n := d.natAbs) (by omega)
  unfold g; omega
theorem g_zero {a b : Int} (ha : 0 ≤ a) (hb : 0 ≤ b) (h : a = 0 ∨ b = 0) : g a b = a + b := by
  unfold g
  rcases h with rfl | rfl
  · simp; omega
  · simp; omega
theorem g_even {a b : Int} (ha : 0 ≤ a) (hb : 0 ≤ b) (h : a % 2 = 0) (h' : b % 2 = 0) : g a b = 2 * g (a / 2) (b / 2) := by
  unfold g
  rw [halve_both _ _ (by omega) (by omega), show (a / 2).natAbs = a.natAbs / 2 by omega, show (b / 2).natAbs = b.natAbs / 2 by omega]
  omega
theorem g_half {a b : Int} (ha : 0 ≤ a) (hb : 0 ≤ b) (h : a % 2 = 0) (h' : b % 2 ≠ 0) : g a b = g (a / 2) b := by
  unfold g
  rw [halve_one _ _ (by omega) (by omega), show (a / 2).natAbs = a.natAbs / 2 by omega]
theorem g_comm (a b : Int) : g a b = g b a := by unfold g; rw [Nat.gcd_comm]
theorem g_odd {a b : Int} (ha : 0 ≤ a) (hb : 0 ≤ b) (h : a % 2 ≠ 0) (h' : b % 2 ≠ 0) (hl : a ≤ b) : g a b = g a ((b - a) / 2) := by
  unfold g
  rw [odd_both _ _ (by omega) (by omega) (by omega), show ((b - a) / 2).natAbs = (b.natAbs - a.natAbs) / 2 by omega]
theorem g_mod {a b : Int} (ha : 0 ≤ a) (hb : 1 ≤ b) : g a b = g b (a % b) := by
  unfold g
  rw [Nat.gcd_comm, Nat.gcd_rec, Nat.gcd_comm]
  congr 2
  rw [Int.natAbs_emod_of_nonneg ha]
/-- lowest terms -/
def ln (n d : Int) : Int := n.tdiv (g n d)
def ld (n d : Int) : Int := d / g n d
theorem ld_bd {n d : Int} (hd : 1 ≤ d) : 1 ≤ ld n d ∧ ld n d ≤ d := by
  have h1 := g_pos (n := n) hd
  have h2 := g_le (n := n) hd
  unfold ld
  exact ⟨(Int.le_ediv_iff_mul_le (by omega)).2 (by omega), Int.ediv_le_self _ (by omega)⟩
theorem ln_bd {n d M : Int} (_hd : 1 ≤ d) (h0 : -M ≤ n) (h1 : n ≤ M) : -M ≤ ln n d ∧ ln n d ≤ M := by
  unfold ln
  have := Int.natAbs_tdiv_le_natAbs n (g n d)
  omega
theorem mul_gt {x y : Nat} (h : x ≠ 0) : 1000000000000 / x < y ↔ 1000000000000 < x * y := by
  rw [Nat.div_lt_iff_lt_mul (by omega), Nat.mul_comm]
theorem ld_mul (n d m c : Int) : ld m c * ld n d = ld n d * ld m c := Int.mul_comm _ _
end Gcd
end Go.Proofs.Ythndfckapbbbfaa
