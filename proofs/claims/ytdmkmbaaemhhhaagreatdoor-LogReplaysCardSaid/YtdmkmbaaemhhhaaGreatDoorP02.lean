/-
  Steps of the proof of LogReplays: Rnd Cal EarnP.
-/
section
/-! Rounding: what is computed, in plain numbers. -/
namespace Go.Proofs.YtdmkmbaaemhhhaaGreatDoor.Rnd
def rnd (n d way : Int) : Int :=
 if way = 0 then n / d
 else if way = 1 then if n % d = 0 then n / d else n / d + 1
 else if way = 2 then if d < 2 * (n % d) ∨ (2 * (n % d) = d ∧ 0 < n) then n / d + 1 else n / d
 else if d < 2 * (n % d) ∨ (2 * (n % d) = d ∧ (n / d) % 2 = 1) then n / d + 1 else n / d
theorem low {n d : Int} (hd : 1 ≤ d) : 0 ≤ n % d ∧ n % d < d := ⟨Int.emod_nonneg _ (by omega), Int.emod_lt_of_pos _ (by omega)⟩
end Go.Proofs.YtdmkmbaaemhhhaaGreatDoor.Rnd
end
section
namespace Go.Proofs.YtdmkmbaaemhhhaaGreatDoor.Cal
def lp (y : Int) : Int := if y % 4 = 0 ∧ (y % 100 ≠ 0 ∨ y % 400 = 0) then 1 else 0
def yrs (y : Int) : Int := 365 * (y - 1600) + (y - 1600 + 3) / 4 - (y - 1600 + 99) / 100 + (y - 1600 + 399) / 400
def cum (y m : Int) : Int :=
 if m ≤ 1 then 0 else if m = 2 then 31 else if m = 3 then 59 + lp y else if m = 4 then 90 + lp y else if m = 5 then 120 + lp y else if m = 6 then 151 + lp y
 else if m = 7 then 181 + lp y else if m = 8 then 212 + lp y else if m = 9 then 243 + lp y else if m = 10 then 273 + lp y else if m = 11 then 304 + lp y else if m = 12 then 334 + lp y else 365 + lp y
def num (y m d : Int) : Int := yrs y + cum y m + d - 1
def rA (n : Int) : Int := n + 2305448 + 32044
def rB (n : Int) : Int := (4 * rA n + 3) / 146097
def rC (n : Int) : Int := rA n - 146097 * rB n / 4
def rD (n : Int) : Int := (4 * rC n + 3) / 1461
def rE (n : Int) : Int := rC n - 1461 * rD n / 4
def rM (n : Int) : Int := (5 * rE n + 2) / 153
def dY (n : Int) : Int := 100 * rB n + rD n - 4800 + rM n / 10
def dM (n : Int) : Int := rM n + 3 - 12 * (rM n / 10)
def mon (n : Int) : Int := 12 * (dY n - 1600) + dM n - 1
def fm (k : Int) : Int := num (1600 + k / 12) (1 + k % 12) 1
end Go.Proofs.YtdmkmbaaemhhhaaGreatDoor.Cal
end
section
namespace Go.Proofs.YtdmkmbaaemhhhaaGreatDoor.Earn
open Go.Proofs.YtdmkmbaaemhhhaaGreatDoor
def dys (f t day : Int) : Int := if (if t < day then t else day) - f + 1 > 0 then (if t < day then t else day) - f + 1 else 0
def ear (a f t day : Int) : Int := Rnd.rnd (a * dys f t day) (t - f + 1) 2
def F (a f t k : Int) : Int := if k = 0 then 0 else ear a f t (Cal.fm (Cal.mon f + k) - 1)
end Go.Proofs.YtdmkmbaaemhhhaaGreatDoor.Earn
end
