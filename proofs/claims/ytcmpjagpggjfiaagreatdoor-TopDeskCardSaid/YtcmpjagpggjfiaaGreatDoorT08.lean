/-
  Steps of the proof of TopDesk: Cal Rnd EarnP.
-/
section
namespace Go.Proofs.YtcmpjagpggjfiaaGreatDoor.Cal
def lp (y : Int) : Int := if y % 4 = 0 ∧ (y % 100 ≠ 0 ∨ y % 400 = 0) then 1 else 0
def yrs (y : Int) : Int := 365 * (y - 1600) + (y - 1600 + 3) / 4 - (y - 1600 + 99) / 100 + (y - 1600 + 399) / 400
def len (y m : Int) : Int := if m = 2 then 28 + lp y else if m = 4 ∨ m = 6 ∨ m = 9 ∨ m = 11 then 30 else 31
def cum (y m : Int) : Int :=
 if m ≤ 1 then 0 else if m = 2 then 31 else if m = 3 then 59 + lp y else if m = 4 then 90 + lp y else if m = 5 then 120 + lp y else if m = 6 then 151 + lp y
 else if m = 7 then 181 + lp y else if m = 8 then 212 + lp y else if m = 9 then 243 + lp y else if m = 10 then 273 + lp y else if m = 11 then 304 + lp y else if m = 12 then 334 + lp y else 365 + lp y
def num (y m d : Int) : Int := yrs y + cum y m + d - 1
def jul (y m d : Int) : Int :=
 d + (153 * (m + 12 * ((14 - m) / 12) - 3) + 2) / 5 + 365 * (y + 4800 - (14 - m) / 12) + (y + 4800 - (14 - m) / 12) / 4 - (y + 4800 - (14 - m) / 12) / 100 + (y + 4800 - (14 - m) / 12) / 400 - 32045 - 2305448
def vld (y m d : Int) : Prop := 1600 ≤ y ∧ y ≤ 2399 ∧ 1 ≤ m ∧ m ≤ 12 ∧ 1 ≤ d ∧ d ≤ len y m
theorem lp_01 (y : Int) : 0 ≤ lp y ∧ lp y ≤ 1 := by unfold lp; split <;> omega
theorem yrs_succ (y : Int) : yrs (y + 1) = yrs y + 365 + lp y := by unfold yrs lp; split <;> omega
theorem cum_succ (y m : Int) (h1 : 1 ≤ m) (h2 : m ≤ 12) : cum y (m + 1) = cum y m + len y m := by
 have hm : m = 1 ∨ m = 2 ∨ m = 3 ∨ m = 4 ∨ m = 5 ∨ m = 6 ∨ m = 7 ∨ m = 8 ∨ m = 9 ∨ m = 10 ∨ m = 11 ∨ m = 12 := by omega
 rcases hm with rfl | rfl | rfl | rfl | rfl | rfl | rfl | rfl | rfl | rfl | rfl | rfl <;> simp [cum, len] <;> omega
theorem jul_eq (y m d : Int) (h1 : 1 ≤ m) (h2 : m ≤ 12) : jul y m d = num y m d := by
 have hm : m = 1 ∨ m = 2 ∨ m = 3 ∨ m = 4 ∨ m = 5 ∨ m = 6 ∨ m = 7 ∨ m = 8 ∨ m = 9 ∨ m = 10 ∨ m = 11 ∨ m = 12 := by omega
 unfold jul num yrs
 rcases hm with rfl | rfl | rfl | rfl | rfl | rfl | rfl | rfl | rfl | rfl | rfl | rfl <;> simp [cum, lp] <;> (try split) <;> omega
def rA (n : Int) : Int := n + 2305448 + 32044
def rB (n : Int) : Int := (4 * rA n + 3) / 146097
def rC (n : Int) : Int := rA n - 146097 * rB n / 4
def rD (n : Int) : Int := (4 * rC n + 3) / 1461
def rE (n : Int) : Int := rC n - 1461 * rD n / 4
def rM (n : Int) : Int := (5 * rE n + 2) / 153
def dY (n : Int) : Int := 100 * rB n + rD n - 4800 + rM n / 10
def dM (n : Int) : Int := rM n + 3 - 12 * (rM n / 10)
def dD (n : Int) : Int := rE n - (153 * rM n + 2) / 5 + 1
theorem cent (Y : Int) : 365 * Y + Y / 4 - Y / 100 + Y / 400 = 1461 * (Y % 100) / 4 + 146097 * (Y / 100) / 4 := by
 obtain ⟨B, D, hB, hD, rfl⟩ : ∃ B D : Int, Y / 100 = B ∧ Y % 100 = D ∧ Y = 100 * B + D := ⟨_, _, rfl, rfl, by omega⟩
 rw [hB, hD]
 have h1 : (100 * B + D) / 4 = 25 * B + D / 4 := by omega
 have h2 : (100 * B + D) / 400 = B / 4 := by omega
 have h3 : 1461 * D / 4 = 365 * D + D / 4 := by omega
 have h4 : 146097 * B / 4 = 36524 * B + B / 4 := by omega
 omega
theorem back (B D e : Int) (hD0 : 0 ≤ D) (hD1 : D ≤ 99) (he0 : 0 ≤ e) (he : e ≤ 364 ∨ (e = 365 ∧ ((D % 4 = 3 ∧ D ≠ 99) ∨ (D = 99 ∧ B % 4 = 3)))) (n : Int)
  (hn : n = e + 1461 * D / 4 + 146097 * B / 4 - 2337492) : rB n = B ∧ rD n = D ∧ rE n = e := by
 have hA : rA n = e + 1461 * D / 4 + 146097 * B / 4 := by unfold rA; omega
 have hD3 : 1461 * D / 4 ≤ 36159 ∧ 0 ≤ 1461 * D / 4 := by omega
 have hB3 : 146097 * B - 3 ≤ 4 * (146097 * B / 4) ∧ 4 * (146097 * B / 4) ≤ 146097 * B := by omega
 have hD4 : 1461 * D - 3 ≤ 4 * (1461 * D / 4) ∧ 4 * (1461 * D / 4) ≤ 1461 * D := by omega
 have h1 : rB n = B := by
  unfold rB; rw [hA]
  rcases he with he | ⟨rfl, he | ⟨rfl, he⟩⟩
  ·have : e + 1461 * D / 4 ≤ 36523 := by omega
   generalize 1461 * D / 4 = c at *
   generalize 146097 * B / 4 = b at *
   omega
  ·have : 365 + 1461 * D / 4 ≤ 36523 := by omega
   generalize 1461 * D / 4 = c at *
   generalize 146097 * B / 4 = b at *
   omega
  ·have : 4 * (146097 * B / 4) = 146097 * B - 3 := by omega
   omega
 have h2 : rC n = e + 1461 * D / 4 := by unfold rC; rw [hA, h1]; omega
 have h3 : rD n = D := by
  unfold rD; rw [h2]
  rcases he with he | ⟨rfl, he | ⟨rfl, he⟩⟩
  ·generalize 1461 * D / 4 = c at *
   omega
  ·have : 4 * (1461 * D / 4) = 1461 * D - 3 := by omega
   omega
  ·omega
 have h4 : rE n = e := by unfold rE; rw [h2, h3]; omega
 exact ⟨h1, h3, h4⟩
theorem date_of (y m d n : Int) (hv : vld y m d) (hn : n = num y m d) : dY n = y ∧ dM n = m ∧ dD n = d := by
 obtain ⟨hy1, hy2, hm1, hm2, hd1, hd2⟩ := hv
 have hj := jul_eq y m d hm1 hm2
 rw [← hj] at hn
 have hl := lp_01 y
 have hm : m = 1 ∨ m = 2 ∨ m = 3 ∨ m = 4 ∨ m = 5 ∨ m = 6 ∨ m = 7 ∨ m = 8 ∨ m = 9 ∨ m = 10 ∨ m = 11 ∨ m = 12 := by omega
 by_cases hs : m ≤ 2
 ·have key : ∀ M, (M = m + 9) → d + (153 * M + 2) / 5 - 1 ≤ 364 ∨ (d + (153 * M + 2) / 5 - 1 = 365 ∧ lp y = 1) := by
   intro M hM
   have : m = 1 ∨ m = 2 := by omega
   rcases this with rfl | rfl
   ·left; simp [len] at hd2; omega
   ·simp [len] at hd2; omega
  have k := key (m + 9) rfl
  obtain ⟨b1, b2, b3⟩ := back ((y + 4799) / 100) ((y + 4799) % 100) (d + (153 * (m + 9) + 2) / 5 - 1) (by omega) (by omega) (by omega)
   (by
    rcases k with k | ⟨k1, k2⟩
    ·exact .inl k
    ·refine .inr ⟨k1, ?_⟩
     unfold lp at k2; split at k2 <;> omega) n (by
    have c := cent (y + 4799)
    rw [hn]; unfold jul
    have : m = 1 ∨ m = 2 := by omega
    rcases this with rfl | rfl <;> simp only [show ((14 : Int) - 1) / 12 = 1 from rfl, show ((14 : Int) - 2) / 12 = 1 from rfl, show y + 4800 - 1 = y + 4799 from by omega] <;> omega)
  have hM : rM n = m + 9 := by
   unfold rM; rw [b3]
   have : m = 1 ∨ m = 2 := by omega
   rcases this with rfl | rfl
   ·simp [len] at hd2; omega
   ·simp [len] at hd2; omega
  refine ⟨?_, ?_, ?_⟩
  ·unfold dY; rw [b1, b2, hM]; omega
  ·unfold dM; rw [hM]; omega
  ·unfold dD; rw [b3, hM]; omega
 ·have k : d + (153 * (m - 3) + 2) / 5 - 1 ≤ 305 := by
   rcases hm with rfl | rfl | rfl | rfl | rfl | rfl | rfl | rfl | rfl | rfl | rfl | rfl <;> simp [len] at hd2 <;> omega
  obtain ⟨b1, b2, b3⟩ := back ((y + 4800) / 100) ((y + 4800) % 100) (d + (153 * (m - 3) + 2) / 5 - 1) (by omega) (by omega) (by omega)
   (.inl (by omega)) n (by
    have c := cent (y + 4800)
    have h0 : (14 - m) / 12 = 0 := by omega
    rw [hn]; unfold jul
    rw [h0, show y + 4800 - 0 = y + 4800 from by omega]
    omega)
  have hM : rM n = m - 3 := by
   unfold rM; rw [b3]
   rcases hm with rfl | rfl | rfl | rfl | rfl | rfl | rfl | rfl | rfl | rfl | rfl | rfl <;> simp [len] at hd2 hs <;> omega
  refine ⟨?_, ?_, ?_⟩
  ·unfold dY; rw [b1, b2, hM]; omega
  ·unfold dM; rw [hM]; omega
  ·unfold dD; rw [b3, hM]; omega
theorem ex_step (f : Int → Int) (a : Int) (k : Nat) (n : Int) (h0 : f a ≤ n) (h1 : n < f (a + k)) : ∃ y, a ≤ y ∧ y < a + k ∧ f y ≤ n ∧ n < f (y + 1) := by
 induction k with
 | zero => simp at h1; omega
 | succ k ih =>
  by_cases h : n < f (a + k)
  ·obtain ⟨y, a1, a2, a3, a4⟩ := ih h
   exact ⟨y, a1, by omega, a3, a4⟩
  ·refine ⟨a + k, by omega, by omega, by omega, ?_⟩
   rw [show a + (k : Int) + 1 = a + ((k + 1 : Nat) : Int) by omega]
   exact h1
theorem cum_len (y : Int) : cum y 13 = 365 + lp y := rfl
theorem date_ok (n : Int) (h0 : 0 ≤ n) (h1 : n ≤ 292193) : vld (dY n) (dM n) (dD n) ∧ num (dY n) (dM n) (dD n) = n := by
 obtain ⟨y, y1, y2, y3, y4⟩ := ex_step yrs 1600 800 n (by show yrs 1600 ≤ n; have : yrs 1600 = 0 := rfl; omega) (by show n < yrs 2400; have : yrs 2400 = 292194 := rfl; omega)
 rw [yrs_succ] at y4
 obtain ⟨m, m1, m2, m3, m4⟩ := ex_step (cum y) 1 12 (n - yrs y) (by show cum y 1 ≤ _; have : cum y 1 = 0 := rfl; omega) (by show _ < cum y 13; have := cum_len y; omega)
 rw [cum_succ y m m1 (by omega)] at m4
 have hv : vld y m (n - yrs y - cum y m + 1) := ⟨y1, by omega, m1, by omega, by omega, by omega⟩
 have hn : n = num y m (n - yrs y - cum y m + 1) := by unfold num; omega
 obtain ⟨e1, e2, e3⟩ := date_of y m _ n hv hn
 rw [e1, e2, e3]
 exact ⟨hv, hn.symm⟩
theorem plain_end (n y m : Int) (y1 : 1600 ≤ y) (y2 : y ≤ 2399) (m1 : 1 ≤ m) (m2 : m ≤ 12) (h0 : 0 ≤ n - yrs y - cum y m) (h1 : n - yrs y - cum y m < len y m) :
  dY n = y ∧ dM n = m ∧ dD n = n - yrs y - cum y m + 1 :=
 date_of y m _ n ⟨y1, y2, m1, m2, by omega, by omega⟩ (by unfold num; omega)
theorem len_bd (y m : Int) : 28 ≤ len y m ∧ len y m ≤ 31 := by
 have := lp_01 y
 unfold len; split
 ·omega
 ·split <;> omega
theorem cum_bd (y m : Int) (h1 : 1 ≤ m) (h2 : m ≤ 12) : 0 ≤ cum y m ∧ cum y m ≤ 366 := by
 have := lp_01 y
 have hm : m = 1 ∨ m = 2 ∨ m = 3 ∨ m = 4 ∨ m = 5 ∨ m = 6 ∨ m = 7 ∨ m = 8 ∨ m = 9 ∨ m = 10 ∨ m = 11 ∨ m = 12 := by omega
 rcases hm with rfl | rfl | rfl | rfl | rfl | rfl | rfl | rfl | rfl | rfl | rfl | rfl <;> simp [cum] <;> omega
theorem yrs_bd (y : Int) (h0 : 1600 ≤ y) (h1 : y ≤ 2400) : 0 ≤ yrs y ∧ yrs y ≤ 292194 := by unfold yrs; omega
theorem num_bd (y m d : Int) (hv : vld y m d) : 0 ≤ num y m d ∧ num y m d ≤ 292193 := by
 obtain ⟨y1, y2, m1, m2, d1, d2⟩ := hv
 have a := yrs_bd y y1 (by omega)
 have b := yrs_bd (y + 1) (by omega) (by omega)
 rw [yrs_succ] at b
 have c := cum_bd y m m1 m2
 have e := cum_succ y m m1 m2
 have g : cum y (m + 1) ≤ 365 + lp y := by
  have := lp_01 y
  have hm : m = 1 ∨ m = 2 ∨ m = 3 ∨ m = 4 ∨ m = 5 ∨ m = 6 ∨ m = 7 ∨ m = 8 ∨ m = 9 ∨ m = 10 ∨ m = 11 ∨ m = 12 := by omega
  rcases hm with rfl | rfl | rfl | rfl | rfl | rfl | rfl | rfl | rfl | rfl | rfl | rfl <;> simp [cum] <;> omega
 unfold num; omega
def mon (n : Int) : Int := 12 * (dY n - 1600) + dM n - 1
def ofMon (k d : Int) : Int := num (1600 + k / 12) (1 + k % 12) (min d (len (1600 + k / 12) (1 + k % 12)))
def add (n months : Int) : Int := if 0 ≤ mon n + months ∧ mon n + months < 9600 then ofMon (mon n + months) (dD n) else -1
def last (n : Int) : Int := num (dY n) (dM n) (len (dY n) (dM n))
theorem mon_bd (n : Int) (h0 : 0 ≤ n) (h1 : n ≤ 292193) : 0 ≤ mon n ∧ mon n < 9600 := by
 obtain ⟨⟨y1, y2, m1, m2, _, _⟩, _⟩ := date_ok n h0 h1
 unfold mon; omega
theorem vld_mon (k d : Int) (h0 : 0 ≤ k) (h1 : k < 9600) (hd : 1 ≤ d) : vld (1600 + k / 12) (1 + k % 12) (min d (len (1600 + k / 12) (1 + k % 12))) := by
 have := len_bd (1600 + k / 12) (1 + k % 12)
 refine ⟨by omega, by omega, by omega, by omega, by omega, by omega⟩
def fm (k : Int) : Int := num (1600 + k / 12) (1 + k % 12) 1
def ml (k : Int) : Int := len (1600 + k / 12) (1 + k % 12)
theorem fm_succ (k : Int) : fm (k + 1) = fm k + ml k := by
 unfold fm ml num
 by_cases h : k % 12 = 11
 ·have e1 : (k + 1) / 12 = k / 12 + 1 := by omega
  have e2 : (k + 1) % 12 = 0 := by omega
  rw [e1, e2, h, show 1600 + (k / 12 + 1) = 1600 + k / 12 + 1 by omega, yrs_succ]
  have c := cum_succ (1600 + k / 12) 12 (by omega) (by omega)
  have c13 : cum (1600 + k / 12) (12 + 1) = 365 + lp (1600 + k / 12) := rfl
  have c1 : cum (1600 + k / 12 + 1) (1 + 0) = 0 := rfl
  rw [c1]
  show _ = yrs (1600 + k / 12) + cum (1600 + k / 12) (1 + 11) + 1 - 1 + len (1600 + k / 12) (1 + 11)
  rw [show (1 : Int) + 11 = 12 from rfl]
  omega
 ·have e1 : (k + 1) / 12 = k / 12 := by omega
  have e2 : (k + 1) % 12 = k % 12 + 1 := by omega
  rw [e1, e2]
  have c := cum_succ (1600 + k / 12) (1 + k % 12) (by omega) (by omega)
  rw [show 1 + (k % 12 + 1) = 1 + k % 12 + 1 by omega, c]
  omega
theorem ml_bd (k : Int) : 28 ≤ ml k ∧ ml k ≤ 31 := len_bd _ _
theorem fm_add (k : Int) (j : Nat) : fm k + 28 * j ≤ fm (k + j) ∧ fm (k + j) ≤ fm k + 31 * j := by
 induction j with
 | zero => simp
 | succ j ih =>
  have h := fm_succ (k + j)
  have m := ml_bd (k + j)
  rw [show k + ((j + 1 : Nat) : Int) = k + j + 1 by omega]
  omega
theorem fm_le (a b : Int) (h : a ≤ b) : fm a + 28 * (b - a) ≤ fm b ∧ fm b ≤ fm a + 31 * (b - a) := by
 have := fm_add a (b - a).toNat
 rw [show a + ((b - a).toNat : Int) = b by omega] at this
 omega
theorem ofMon_fm (k d : Int) : ofMon k d = fm k + min d (ml k) - 1 := by unfold ofMon fm ml num; omega
theorem ofMon_bd (k d : Int) (hd : 1 ≤ d) : fm k ≤ ofMon k d ∧ ofMon k d < fm (k + 1) := by
 have := ml_bd k
 rw [ofMon_fm, fm_succ]; omega
theorem ofMon_lt (a b d : Int) (hd : 1 ≤ d) (h : a < b) : ofMon a d < ofMon b d := by
 have h1 := ofMon_bd a d hd
 have h2 := ofMon_bd b d hd
 have h3 := fm_le (a + 1) b (by omega)
 omega
end Go.Proofs.YtcmpjagpggjfiaaGreatDoor.Cal
end
section
/-! Rounding: what is computed, in plain numbers. -/
namespace Go.Proofs.YtcmpjagpggjfiaaGreatDoor.Rnd
def rnd (n d way : Int) : Int :=
 if way = 0 then n / d
 else if way = 1 then if n % d = 0 then n / d else n / d + 1
 else if way = 2 then if d < 2 * (n % d) ∨ (2 * (n % d) = d ∧ 0 < n) then n / d + 1 else n / d
 else if d < 2 * (n % d) ∨ (2 * (n % d) = d ∧ (n / d) % 2 = 1) then n / d + 1 else n / d
theorem rnd0 (n d : Int) : rnd n d 0 = n / d := rfl
theorem rnd1 (n d : Int) : rnd n d 1 = if n % d = 0 then n / d else n / d + 1 := rfl
theorem rnd2 (n d : Int) : rnd n d 2 = if d < 2 * (n % d) ∨ (2 * (n % d) = d ∧ 0 < n) then n / d + 1 else n / d := rfl
theorem rnd3 (n d : Int) : rnd n d 3 = if d < 2 * (n % d) ∨ (2 * (n % d) = d ∧ (n / d) % 2 = 1) then n / d + 1 else n / d := rfl
theorem low {n d : Int} (hd : 1 ≤ d) : 0 ≤ n % d ∧ n % d < d := ⟨Int.emod_nonneg _ (by omega), Int.emod_lt_of_pos _ (by omega)⟩
theorem divmod (n d : Int) : n / d * d + n % d = n := by have := Int.mul_ediv_add_emod n d; rw [Int.mul_comm] at this; exact this
theorem tdivmod (n d : Int) : n.tdiv d * d + n.tmod d = n := by have := Int.mul_tdiv_add_tmod n d; rw [Int.mul_comm] at this; exact this
theorem uniq {n d q r : Int} (hr0 : 0 ≤ r) (hr1 : r < d) (h : q * d + r = n) : n / d = q ∧ n % d = r := by
 subst h
 have hd : 0 < d := by omega
 rw [Int.add_comm, Int.mul_comm]
 constructor
 ·rw [Int.add_mul_ediv_left _ _ (by omega), Int.ediv_eq_zero_of_lt hr0 hr1]; omega
 ·rw [Int.add_mul_emod_self_left, Int.emod_eq_of_lt hr0 hr1]
theorem tmod_bd (n : Int) {d : Int} (hd : 1 ≤ d) : -d < n.tmod d ∧ n.tmod d < d := by
 have h1 := Int.tmod_lt_of_pos n (show 0 < d by omega)
 refine ⟨?_, h1⟩
 rcases Int.le_total 0 n with h | h
 ·have := Int.tmod_nonneg d h; omega
 ·have h2 : (-n).tmod d < d := Int.tmod_lt_of_pos (-n) (by omega)
  rw [Int.neg_tmod] at h2; omega
theorem trunc {n d : Int} (hd : 1 ≤ d) : (0 ≤ n.tmod d → n / d = n.tdiv d ∧ n % d = n.tmod d) ∧ (n.tmod d < 0 → n / d = n.tdiv d - 1 ∧ n % d = n.tmod d + d) := by
 have hb := tmod_bd n hd
 have h := tdivmod n d
 constructor
 ·intro h0; exact uniq h0 hb.2 h
 ·intro h0; exact uniq (by omega) (by omega) (by rw [Int.sub_mul]; omega)
theorem tdiv_bd (n d : Int) {M : Int} (h0 : -M ≤ n) (h1 : n ≤ M) : -M ≤ n.tdiv d ∧ n.tdiv d ≤ M := by
 have h := Int.natAbs_tdiv n d
 have h2 : n.natAbs / d.natAbs ≤ n.natAbs := Nat.div_le_self _ _
 have : (n.tdiv d).natAbs ≤ n.natAbs := by rw [h]; exact h2
 omega
theorem tmod2 (x : Int) : (x.tmod 2 = 0 ∧ x % 2 = 0) ∨ (x.tmod 2 ≠ 0 ∧ x % 2 = 1) := by
 have h := trunc (n := x) (d := 2) (by omega)
 have := tmod_bd x (d := 2) (by omega)
 omega
end Go.Proofs.YtcmpjagpggjfiaaGreatDoor.Rnd
end
section
namespace Go.Proofs.YtcmpjagpggjfiaaGreatDoor.Earn
open Go.Proofs.YtcmpjagpggjfiaaGreatDoor
def dys (f t day : Int) : Int := if (if t < day then t else day) - f + 1 > 0 then (if t < day then t else day) - f + 1 else 0
def ear (a f t day : Int) : Int := Rnd.rnd (a * dys f t day) (t - f + 1) 2
def F (a f t k : Int) : Int := if k = 0 then 0 else ear a f t (Cal.fm (Cal.mon f + k) - 1)
end Go.Proofs.YtcmpjagpggjfiaaGreatDoor.Earn
end
