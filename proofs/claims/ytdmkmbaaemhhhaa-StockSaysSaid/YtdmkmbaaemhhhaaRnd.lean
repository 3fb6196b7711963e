/-
  Plain law: rounding of a quotient (no program in sight).
-/
/-! Rounding: what is computed, in plain numbers. -/
namespace Go.Proofs.Ytdmkmbaaemhhhaa.Rnd
/-- n / d rounded: 0 down, 1 up, 2 near (halves away from 0), 3 near (halves to even); d > 0 -/
def rnd (n d way : Int) : Int :=
  if way = 0 then n / d
  else if way = 1 then if n % d = 0 then n / d else n / d + 1
  else if way = 2 then if d < 2 * (n % d) ∨ (2 * (n % d) = d ∧ 0 < n) then n / d + 1 else n / d
  else if d < 2 * (n % d) ∨ (2 * (n % d) = d ∧ (n / d) % 2 = 1) then n / d + 1 else n / d
theorem rnd0 (n d : Int) : rnd n d 0 = n / d := rfl
theorem rnd1 (n d : Int) : rnd n d 1 = if n % d = 0 then n / d else n / d + 1 := rfl
theorem rnd2 (n d : Int) : rnd n d 2 = if d < 2 * (n % d) ∨ (2 * (n % d) = d ∧ 0 < n) then n / d + 1 else n / d := rfl
theorem rnd3 (n d : Int) : rnd n d 3 = if d < 2 * (n % d) ∨ (2 * (n % d) = d ∧ (n / d) % 2 = 1) then n / d + 1 else n / d := rfl
theorem low {n d : Int} (hd : 1 ≤ d) : 0 ≤ n % d ∧ n % d < d := ⟨Int.emod_nonneg _ (by omega), Int.emod_lt_of_pos _ (by omega)⟩
theorem trunc_pos {n d : Int} (hn : 0 ≤ n) : n.tdiv d = n / d ∧ n.tmod d = n % d := ⟨Int.tdiv_eq_ediv_of_nonneg hn, Int.tmod_eq_emod_of_nonneg hn⟩
theorem divmod (n d : Int) : n / d * d + n % d = n := by have := Int.mul_ediv_add_emod n d; rw [Int.mul_comm] at this; exact this
theorem tdivmod (n d : Int) : n.tdiv d * d + n.tmod d = n := by have := Int.mul_tdiv_add_tmod n d; rw [Int.mul_comm] at this; exact this
/-- quotient and remainder are the only ones -/
theorem uniq {n d q r : Int} (hr0 : 0 ≤ r) (hr1 : r < d) (h : q * d + r = n) : n / d = q ∧ n % d = r := by
  subst h
  have hd : 0 < d := by omega
  rw [Int.add_comm, Int.mul_comm]
  constructor
  · rw [Int.add_mul_ediv_left _ _ (by omega), Int.ediv_eq_zero_of_lt hr0 hr1]; omega
  · rw [Int.add_mul_emod_self_left, Int.emod_eq_of_lt hr0 hr1]
theorem tmod_bd (n : Int) {d : Int} (hd : 1 ≤ d) : -d < n.tmod d ∧ n.tmod d < d := by
  have h1 := Int.tmod_lt_of_pos n (show 0 < d by omega)
  refine ⟨?_, h1⟩
  rcases Int.le_total 0 n with h | h
  · have := Int.tmod_nonneg d h; omega
  · have h2 : (-n).tmod d < d := Int.tmod_lt_of_pos (-n) (by omega)
    rw [Int.neg_tmod] at h2; omega
theorem trunc {n d : Int} (hd : 1 ≤ d) : (0 ≤ n.tmod d → n / d = n.tdiv d ∧ n % d = n.tmod d) ∧ (n.tmod d < 0 → n / d = n.tdiv d - 1 ∧ n % d = n.tmod d + d) := by
  have hb := tmod_bd n hd
  have h := tdivmod n d
  constructor
  · intro h0; exact uniq h0 hb.2 h
  · intro h0; exact uniq (by omega) (by omega) (by rw [Int.sub_mul]; omega)
theorem tdiv_bd (n d : Int) {M : Int} (h0 : -M ≤ n) (h1 : n ≤ M) : -M ≤ n.tdiv d ∧ n.tdiv d ≤ M := by
  have h := Int.natAbs_tdiv n d
  have h2 : n.natAbs / d.natAbs ≤ n.natAbs := Nat.div_le_self _ _
  have : (n.tdiv d).natAbs ≤ n.natAbs := by rw [h]; exact h2
  omega
theorem div_bd (n : Int) {d M : Int} (hd : 1 ≤ d) (h0 : -M ≤ n) (h1 : n ≤ M) (hM : 0 ≤ M): -M ≤ n / d ∧ n / d ≤ M := by
  constructor
  · refine Int.le_ediv_of_mul_le (by omega) ?_
    have : M * 1 ≤ M * d := Int.mul_le_mul_of_nonneg_left hd hM
    rw [Int.neg_mul]; omega
  · rcases Int.le_total 0 n with h | h
    · have := Int.ediv_le_self d h; omega
    · rcases Int.lt_or_eq_of_le h with h' | h'
      · have := Int.ediv_neg_of_neg_of_pos h' (show 0 < d by omega); omega
      · subst h'; simp; omega
theorem tmod2 (x : Int) : (x.tmod 2 = 0 ∧ x % 2 = 0) ∨ (x.tmod 2 ≠ 0 ∧ x % 2 = 1) := by
  have h := trunc (n := x) (d := 2) (by omega)
  have := tmod_bd x (d := 2) (by omega)
  omega
/-- 'rnd' by its quotient and rest -/
def rq (Q R n d way : Int) : Int :=
  if way = 0 then Q
  else if way = 1 then if R = 0 then Q else Q + 1
  else if way = 2 then if d < 2 * R ∨ (2 * R = d ∧ 0 < n) then Q + 1 else Q
  else if d < 2 * R ∨ (2 * R = d ∧ Q % 2 = 1) then Q + 1 else Q
theorem rnd_rq (n d way : Int) : rnd n d way = rq (n / d) (n % d) n d way := rfl
end Go.Proofs.Ytdmkmbaaemhhhaa.Rnd
