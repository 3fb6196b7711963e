/-
  Plain law: loans that are paid off (no program in sight): the rows, how many there are, and that more pay needs no more rows.
-/
import Derived.Test.YthndfckapbbbfaaRnd
namespace Go.Proofs.Ythndfckapbbbfaa.Note
open Go.Proofs.Ythndfckapbbbfaa
/-- the interest -/
def itr (rate owed : Int) : Int := Rnd.rnd (owed * rate) 1000000 2
/-- what is paid off -/
def off1 (rate pay owed : Int) : Int := if owed < pay - itr rate owed then owed else pay - itr rate owed
def rowsL (rate pay : Int) : Nat → Int → List (Int × Int × Int)
  | 0, _ => []
  | n + 1, owed => if owed = 0 then [] else (itr rate owed, off1 rate pay owed, owed - off1 rate pay owed) :: rowsL rate pay n (owed - off1 rate pay owed)
def okN (rate pay : Int) : Nat → Int → Bool
  | 0, owed => decide (owed = 0)
  | n + 1, owed => if owed = 0 then true else okN rate pay n (owed - off1 rate pay owed)
theorem rnd2_mono {n m d : Int} (hd : 1 ≤ d) (h : n ≤ m) : Rnd.rnd n d 2 ≤ Rnd.rnd m d 2 := by
  rw [Rnd.rnd2, Rnd.rnd2]
  have h1 := Rnd.divmod n d
  have h2 := Rnd.divmod m d
  have l1 := Rnd.low (n := n) hd
  have l2 := Rnd.low (n := m) hd
  have hq : n / d ≤ m / d := Int.ediv_le_ediv (by omega) h
  generalize n / d = q at *
  generalize m / d = p at *
  generalize n % d = r at *
  generalize m % d = s at *
  by_cases he : q = p
  · subst he
    have : r ≤ s := by omega
    split <;> split <;> omega
  · split <;> split <;> omega
theorem itr_mono {rate a b : Int} (hr : 0 ≤ rate) (h : a ≤ b) : itr rate a ≤ itr rate b :=
  rnd2_mono (by omega) (Int.mul_le_mul_of_nonneg_right h hr)
theorem itr_0 (rate : Int) : itr rate 0 = 0 := by
  unfold itr; rw [Int.zero_mul]; decide
theorem itr_nonneg {rate owed : Int} (hr : 0 ≤ rate) (h : 0 ≤ owed) : 0 ≤ itr rate owed := by
  have := itr_mono hr h; rwa [itr_0] at this
theorem itr_le {rate owed : Int} (_hr : 0 ≤ rate) (hr1 : rate ≤ 1000000) (h : 0 ≤ owed) : itr rate owed ≤ owed := by
  have h1 : itr rate owed ≤ itr 1000000 owed := rnd2_mono (by omega) (Int.mul_le_mul_of_nonneg_left hr1 h)
  have h2 : itr 1000000 owed = owed := by
    unfold itr
    obtain ⟨hq, hm⟩ := Rnd.uniq (n := owed * 1000000) (d := 1000000) (q := owed) (r := 0) (by omega) (by omega) (by omega)
    rw [Rnd.rnd2, hq, hm]
    rw [if_neg (by omega)]
  omega
theorem off_bd {rate pay owed : Int} (h0 : 0 < owed) (hp : itr rate owed < pay) : 0 < off1 rate pay owed ∧ off1 rate pay owed ≤ owed := by
  unfold off1; split <;> omega
theorem left_eq {rate pay owed : Int} : owed - off1 rate pay owed = (if owed + itr rate owed - pay > 0 then owed + itr rate owed - pay else 0) := by
  unfold off1; split <;> split <;> omega
/-- what may be paid goes on to be enough -/
theorem good_next {rate pay owed : Int} (hr : 0 ≤ rate) (h0 : 0 < owed) (hp : itr rate owed < pay) : itr rate (owed - off1 rate pay owed) < pay := by
  have := off_bd h0 hp
  have := itr_mono hr (show owed - off1 rate pay owed ≤ owed by omega)
  omega
theorem rows_ok {rate pay : Int} (hr : 0 ≤ rate) : ∀ (n m : Nat) (owed : Int), n < m → 0 ≤ owed → itr rate owed < pay → (okN rate pay n owed = true ↔ (rowsL rate pay m owed).length ≤ n) ∧ (okN rate pay n owed = true → rowsL rate pay m owed = rowsL rate pay n owed)
  | _, 0, _, h, _, _ => by omega
  | 0, m + 1, owed, _, h0, hp => by
    by_cases h : owed = 0
    · subst h; simp [okN, rowsL]
    · have e : okN rate pay 0 owed = false := by simp [okN, h]
      have e2 : rowsL rate pay (m + 1) owed = (itr rate owed, off1 rate pay owed, owed - off1 rate pay owed) :: rowsL rate pay m (owed - off1 rate pay owed) := by rw [rowsL, if_neg h]
      rw [e, e2]
      simp
  | n + 1, m + 1, owed, hnm, h0, hp => by
    by_cases h : owed = 0
    · subst h
      unfold okN rowsL
      simp
    · have hb := off_bd (show 0 < owed by omega) hp
      obtain ⟨i1, i2⟩ := rows_ok hr n m (owed - off1 rate pay owed) (by omega) (by omega) (good_next hr (by omega) hp)
      have e1 : okN rate pay (n + 1) owed = okN rate pay n (owed - off1 rate pay owed) := by rw [okN, if_neg h]
      have e2 : ∀ k, rowsL rate pay (k + 1) owed = (itr rate owed, off1 rate pay owed, owed - off1 rate pay owed) :: rowsL rate pay k (owed - off1 rate pay owed) := fun k => by rw [rowsL, if_neg h]
      rw [e1, e2 m, e2 n]
      refine ⟨?_, fun hok => by rw [i2 hok]⟩
      rw [i1, List.length_cons]
      omega
theorem rows_pos {rate pay owed : Int} {n : Nat} (h : 0 < owed) : 0 < (rowsL rate pay (n + 1) owed).length := by
  rw [rowsL, if_neg (by omega), List.length_cons]; omega
theorem okN_0 (rate pay : Int) : ∀ n, okN rate pay n 0 = true
  | 0 => rfl
  | n + 1 => by rw [okN, if_pos rfl]
/-- more pay or less owed: no more rows -/
theorem ok_mono {rate pay pay' : Int} (hr : 0 ≤ rate) (hpp : pay ≤ pay') : ∀ (n : Nat) (owed owed' : Int), 0 ≤ owed' → owed' ≤ owed → (owed' = 0 ∨ itr rate owed' < pay') → okN rate pay n owed = true → okN rate pay' n owed' = true
  | 0, owed, owed', h0, h1, hp, h => by
    simp only [okN, decide_eq_true_eq] at h ⊢
    omega
  | n + 1, owed, owed', h0, h1, hp, h => by
    by_cases h2 : owed' = 0
    · subst h2; exact okN_0 _ _ _
    · rw [okN, if_neg h2]
      rw [okN, if_neg (by omega)] at h
      have hp' : itr rate owed' < pay' := by omega
      have hb := off_bd (show 0 < owed' by omega) hp'
      have hm := itr_mono hr h1
      refine ok_mono hr hpp n _ _ (by omega) ?_ (.inr (good_next hr (by omega) hp')) h
      rw [left_eq, left_eq]
      split <;> split <;> omega
/-- may it be paid off so, in n rows? -/
def payB (rate owed : Int) (n : Nat) (pay : Int) : Bool := if owed = 0 then true else if pay ≤ itr rate owed then false else okN rate pay n owed
theorem payB_mono {rate owed pay pay' : Int} {n : Nat} (hr : 0 ≤ rate) (h0 : 0 ≤ owed) (h : pay ≤ pay') (hp : payB rate owed n pay = true) : payB rate owed n pay' = true := by
  unfold payB at hp ⊢
  split at hp
  · rename_i h1; rw [if_pos h1]
  · rename_i h1
    rw [if_neg h1]
    split at hp
    · cases hp
    · rename_i h2
      rw [if_neg (by omega)]
      exact ok_mono hr h n owed owed h0 (Int.le_refl _) (.inr (by omega)) hp
theorem payB_top {rate owed : Int} {n : Nat} (hr : 0 ≤ rate) (hr1 : rate ≤ 1000000) (h0 : 0 ≤ owed) (h1 : owed ≤ 1000000000000) (hn : 1 ≤ n) : payB rate owed n 2000000000000 = true := by
  unfold payB
  have hi := itr_le hr hr1 h0
  split
  · rfl
  · rw [if_neg (by omega)]
    obtain ⟨m, rfl⟩ : ∃ m, n = m + 1 := ⟨n - 1, by omega⟩
    rw [okN, if_neg (by assumption)]
    have : owed - off1 rate 2000000000000 owed = 0 := by rw [left_eq, if_neg (by omega)]
    rw [this]
    exact okN_0 _ _ _
/-- the least -/
theorem least_ex {p : Int → Bool} (top : Int) (ht : 1 ≤ top) (h : p top = true) (hm : ∀ a b, a ≤ b → p a = true → p b = true) : ∃ r, 1 ≤ r ∧ r ≤ top ∧ p r = true ∧ ∀ k, 1 ≤ k → k < r → p k = false := by
  have : ∀ n : Nat, ∀ t : Int, t = 1 + n → p t = true → ∃ r, 1 ≤ r ∧ r ≤ t ∧ p r = true ∧ ∀ k, 1 ≤ k → k < r → p k = false := by
    intro n
    induction n with
    | zero => intro t e hp; exact ⟨t, by omega, by omega, hp, fun k _ _ => by omega⟩
    | succ n ih =>
      intro t e hp
      cases hq : p (t - 1) with
      | true =>
        obtain ⟨r, h1, h2, h3, h4⟩ := ih (t - 1) (by omega) hq
        exact ⟨r, h1, by omega, h3, h4⟩
      | false =>
        refine ⟨t, by omega, by omega, hp, fun k _ hk => ?_⟩
        cases hk2 : p k with
        | false => rfl
        | true => have := hm k (t - 1) (by omega) hk2; rw [hq] at this; cases this
  exact this (top - 1).toNat top (by omega) h
end Go.Proofs.Ythndfckapbbbfaa.Note
