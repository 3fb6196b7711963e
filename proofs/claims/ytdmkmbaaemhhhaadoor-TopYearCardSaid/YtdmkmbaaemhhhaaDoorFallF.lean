/-
  Units of both packages and FallSays' law, run by the machine.
-/
import Derived.Test.YtdmkmbaaemhhhaaDoorFallE
namespace Go.Proofs.YtdmkmbaaemhhhaaDoor
open Go Go.Ev Go.RowKit
/-- the sum of the first k -/
def psum (l : List Int) : Nat → Int
  | 0 => 0
  | k + 1 => psum l k + l.getD k 0
theorem psum_bd {l : List Int} {M : Int} (hM : 0 ≤ M) : ∀ k, k ≤ l.length → (∀ i (h : i < l.length), i < k → 0 ≤ l[i] ∧ l[i] ≤ M) → 0 ≤ psum l k ∧ psum l k ≤ k * M
  | 0, _, _ => by simp [psum]
  | k + 1, hk, h => by
    have ih := psum_bd hM k (by omega) fun i hi hik => h i hi (by omega)
    have h1 := h k (by omega) (by omega)
    have e : l.getD k 0 = l[k] := by simp [List.getD_eq_getElem?_getD, List.getElem?_eq_getElem (show k < l.length by omega)]
    rw [psum, e]
    have : ((k + 1 : Nat) : Int) * M = k * M + M := by rw [Int.natCast_add, Int.add_mul]; simp
    omega
def usedBad (u : Int) : Bool := decide (u < 0 ∨ 1000000 < u)
def capped (total s : Int) : Int := if total < s then total else s
def unitF (cost rest total : Int) (used : List Int) (k : Int) : Int := Rnd.rnd ((cost - rest) * capped total (psum used k.toNat)) total 0
def unitV (cost rest total : Int) (used : List Int) : V × List Blk :=
  if offE cost rest 1 = 0 then
    if 1 ≤ total ∧ total ≤ 1000000 then
      if used.length ≤ 40 then
        if used.any usedBad = true then (.tup [.zero, .int .i64 1], [])
        else (.tup [.vec 0, .int .i64 0], [.vec 3 1 ((steps (unitF cost rest total used) used.length).map (V.int .i64))])
      else (.tup [.zero, .int .i64 2], [])
    else (.tup [.zero, .int .i64 1], [])
  else (.tup [.zero, .int .i64 1], [])
theorem mul_bd6 {a x : Int} (h0 : 0 ≤ a) (h1 : a ≤ 1000000000000) (h2 : 0 ≤ x) (h3 : x ≤ 1000000) : 0 ≤ a * x ∧ a * x ≤ 1000000000000000000 := mul_bd0 h0 h1 h2 h3
theorem unit_step {cost rest total s : Int} (a0 : 0 ≤ rest) (a1 : rest ≤ cost) (a2 : cost ≤ 1000000000000) (t0 : 1 ≤ total) (t1 : total ≤ 1000000) (s0 : 0 ≤ s) :
    (0 ≤ (cost - rest) * capped total s ∧ (cost - rest) * capped total s ≤ 1000000000000000000) ∧ ((cost - rest) * capped total s).tdiv total = Rnd.rnd ((cost - rest) * capped total s) total 0 ∧
    0 ≤ Rnd.rnd ((cost - rest) * capped total s) total 0 ∧ Rnd.rnd ((cost - rest) * capped total s) total 0 ≤ 1000000000000000000 := by
  have hc : 0 ≤ capped total s ∧ capped total s ≤ 1000000 := by unfold capped; split <;> omega
  have p := mul_bd6 (show 0 ≤ cost - rest by omega) (by omega) hc.1 hc.2
  refine ⟨p, ?_, rnd_ge0 p.1 t0, ?_⟩
  · rw [(Rnd.trunc_pos p.1).1]; rfl
  · rw [Rnd.rnd0]
    exact (Rnd.div_bd _ (d := total) (M := 1000000000000000000) t0 (by omega) p.2 (by omega)).2
end Go.Proofs.YtdmkmbaaemhhhaaDoor
