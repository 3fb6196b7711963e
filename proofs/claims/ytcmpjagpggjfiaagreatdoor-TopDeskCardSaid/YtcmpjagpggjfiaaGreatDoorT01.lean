/-
  Numerals, their two readers, checksums: plain.
-/
import Derived.Lib.Strings
import Derived.Lib.ItoaNum
import Derived.Lib.AtoiAll
set_option linter.unusedVariables false
set_option linter.unusedSimpArgs false
namespace Go.Lg
open Go
theorem ba_ext {a b : ByteArray} (h : a.data.toList = b.data.toList) : a = b := by
 cases a with | mk x => cases b with | mk y => exact congrArg ByteArray.mk (Array.toList_inj.1 h)
def itoaB (n : Int) : ByteArray := ⟨(Lib.itoa n).toArray⟩
theorem itoaB_data (n : Int) : (itoaB n).data.toList = Lib.itoa n := by simp [itoaB]
/-! ### numerals -/
theorem decDigits_dig (u : Nat) : ∀ c ∈ Lib.decDigits u, 48 ≤ c.toNat ∧ c.toNat ≤ 57 := by
 induction u using Nat.strongRecOn with
 | _ u ih =>
  intro c hc
  rw [Lib.decDigits] at hc
  split at hc
  ·rename_i h
   simp only [List.mem_singleton] at hc
   subst hc
   rw [UInt8.toNat_ofNat']
   omega
  ·rename_i h
   rw [List.mem_append] at hc
   rcases hc with hc | hc
   ·exact ih (u / 10) (by omega) c hc
   ·simp only [List.mem_singleton] at hc
    subst hc
    rw [UInt8.toNat_ofNat']
    omega
def valL (acc : Nat) (l : List UInt8) : Nat := l.foldl (fun a c => a * 10 + (c.toNat - 48)) acc
theorem valL_nil (acc : Nat) : valL acc [] = acc := rfl
theorem valL_cons (acc : Nat) (c : UInt8) (l : List UInt8) : valL acc (c :: l) = valL (acc * 10 + (c.toNat - 48)) l := by unfold valL; rw [List.foldl_cons]
theorem valL_app (acc : Nat) (l m : List UInt8) : valL acc (l ++ m) = valL (valL acc l) m := by unfold valL; rw [List.foldl_append]
theorem valL_ge : ∀ (l : List UInt8) (acc : Nat), acc ≤ valL acc l
 | [], acc => Nat.le_refl _
 | c :: l, acc => by
  rw [valL_cons]
  have := valL_ge l (acc * 10 + (c.toNat - 48))
  omega
theorem val_dec (u : Nat) : valL 0 (Lib.decDigits u) = u := by
 induction u using Nat.strongRecOn with
 | _ u ih =>
  by_cases h : u < 10
  ·have e : valL 0 [UInt8.ofNat (48 + u)] = 0 * 10 + ((UInt8.ofNat (48 + u)).toNat - 48) := by rw [valL_cons, valL_nil]
   rw [Lib.decDigits_one h, e, UInt8.toNat_ofNat']
   omega
  ·have e : Lib.decDigits u = Lib.decDigits (u / 10) ++ [UInt8.ofNat (48 + u % 10)] := by rw [Lib.decDigits, dif_neg h]
   have e2 : ∀ a, valL a [UInt8.ofNat (48 + u % 10)] = a * 10 + ((UInt8.ofNat (48 + u % 10)).toNat - 48) := fun a => by rw [valL_cons, valL_nil]
   rw [e, valL_app, ih (u / 10) (by omega), e2, UInt8.toNat_ofNat']
   omega
theorem decDigits_ne (u : Nat) : Lib.decDigits u ≠ [] := by
 intro h
 have := Lib.decDigits_length u
 rw [h] at this
 have h2 := Lib.nDigits_pos u
 simp at this
 omega
theorem nDigits_le : ∀ (k u : Nat), u < 10 ^ (k + 1) → Lib.nDigits u ≤ k + 1
 | 0, u, h => by rw [Lib.nDigits_small (by simpa using h)]; exact Nat.le_refl _
 | k + 1, u, h => by
  by_cases h10 : u < 10
  ·rw [Lib.nDigits_small h10]; omega
  ·rw [Lib.nDigits_big h10]
   have := nDigits_le k (u / 10) (by rw [Nat.div_lt_iff_lt_mul (by omega)]; rw [Nat.pow_succ] at h; exact h)
   omega
theorem parse_digs : ∀ (l : List UInt8) (acc : Nat), (∀ c ∈ l, 48 ≤ c.toNat ∧ c.toNat ≤ 57) → valL acc l < 18446744073709551616 → Lib.parseUint10 acc l = .ok (valL acc l)
 | [], acc, _, _ => rfl
 | c :: l, acc, hd, hv => by
  have h1 := hd c (by simp)
  rw [valL_cons] at hv ⊢
  have h2 := valL_ge l (acc * 10 + (c.toNat - 48))
  rw [Lib.parseUint10, if_pos h1, if_neg (by omega), if_neg (by omega)]
  exact parse_digs l _ (fun x hx => hd x (List.mem_cons_of_mem _ hx)) hv
theorem parse_dec {u : Nat} (h : u < 18446744073709551616) : Lib.parseMag (Lib.decDigits u) = .ok u := by
 unfold Lib.parseMag
 rw [if_neg (decDigits_ne u), parse_digs _ 0 (decDigits_dig u) (by rw [val_dec]; exact h), val_dec]
theorem atoi_itoa {n : Int} (h0 : -9223372036854775808 ≤ n) (h1 : n ≤ 9223372036854775807) : Lib.atoiAll (Lib.itoa n) = .ok n := by
 unfold Lib.itoa
 by_cases hn : n < 0
 ·rw [if_pos hn]
  unfold Lib.atoiAll
  have e : (45 : UInt8).toNat = 45 := rfl
  simp only [e, or_true, if_true]
  rw [parse_dec (by omega)]
  simp only [not_true, false_and, if_false, true_and]
  rw [if_neg (by omega)]
  congr 1
  omega
 ·rw [if_neg hn]
  have hp := parse_dec (u := n.toNat) (by omega)
  have hd := decDigits_dig n.toNat
  cases hl : Lib.decDigits n.toNat with
  | nil => exact absurd hl (decDigits_ne _)
  | cons c r =>
   rw [hl] at hp hd
   have hc := hd c (by simp)
   unfold Lib.atoiAll
   have e1 : (if c.toNat = 43 ∨ c.toNat = 45 then r else c :: r) = c :: r := if_neg (by omega)
   have e2 : ¬ c.toNat = 45 := by omega
   simp only [e1, hp]
   rw [if_neg (by omega), if_neg (fun h => e2 h.1), if_neg e2]
   congr 1
   omega
theorem itoaB_inj {m n : Int} (h0 : -9223372036854775808 ≤ m ∧ m ≤ 9223372036854775807) (h1 : -9223372036854775808 ≤ n ∧ n ≤ 9223372036854775807) (h : itoaB m = itoaB n) : m = n := by
 have e : Lib.itoa m = Lib.itoa n := by rw [← itoaB_data, ← itoaB_data, h]
 have a := atoi_itoa h0.1 h0.2
 rw [e, atoi_itoa h1.1 h1.2] at a
 injection a with a
 exact a.symm
theorem itoa_no {c : UInt8} (hc : c.toNat ≠ 45) (hc2 : ¬ (48 ≤ c.toNat ∧ c.toNat ≤ 57)) (n : Int) : c ∉ Lib.itoa n := by
 unfold Lib.itoa
 intro h
 split at h
 ·rw [List.mem_cons] at h
  rcases h with h | h
  ·subst h; exact hc rfl
  ·exact hc2 (decDigits_dig _ _ h)
 ·exact hc2 (decDigits_dig _ _ h)
/-! ### the two readers -/
theorem itoaB_size {n : Int} {k : Nat} (h : n.natAbs < 10 ^ (k + 1)) : (itoaB n).size ≤ k + 2 := by
 have e : (itoaB n).size = (Lib.itoa n).length := by simp [itoaB, ByteArray.size]
 rw [e]
 unfold Lib.itoa
 split
 ·rw [List.length_cons, Lib.decDigits_length]
  have := nDigits_le k n.natAbs h
  omega
 ·rename_i hn
  rw [Lib.decDigits_length]
  have := nDigits_le k n.toNat (by rw [show n.toNat = n.natAbs by omega]; exact h)
  omega
/-! ### checksums -/
end Go.Lg
