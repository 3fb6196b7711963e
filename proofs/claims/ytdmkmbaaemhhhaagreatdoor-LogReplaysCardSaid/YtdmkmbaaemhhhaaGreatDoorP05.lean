/-
  Numerals, their two readers, checksums: plain.
-/
import Derived.Lib.Strings
import Derived.Lib.ItoaNum
import Derived.Lib.AtoiAll
set_option linter.unusedVariables false
set_option linter.unusedSimpArgs false
namespace Go.Lg
open Go
theorem ba_ext {a b : ByteArray} (h : a.data.toList = b.data.toList) : a = b := by
 cases a with | mk x => cases b with | mk y => exact congrArg ByteArray.mk (Array.toList_inj.1 h)
theorem ba_app (a b : ByteArray) : (a ++ b).data.toList = a.data.toList ++ b.data.toList := by simp
def itoaB (n : Int) : ByteArray := ⟨(Lib.itoa n).toArray⟩
theorem itoaB_data (n : Int) : (itoaB n).data.toList = Lib.itoa n := by simp [itoaB]
/-! ### numerals -/
theorem decDigits_dig (u : Nat) : ∀ c ∈ Lib.decDigits u, 48 ≤ c.toNat ∧ c.toNat ≤ 57 := by
 induction u using Nat.strongRecOn with
 | _ u ih =>
  intro c hc
  rw [Lib.decDigits] at hc
  split at hc
  ·rename_i h
   simp only [List.mem_singleton] at hc
   subst hc
   rw [UInt8.toNat_ofNat']
   omega
  ·rename_i h
   rw [List.mem_append] at hc
   rcases hc with hc | hc
   ·exact ih (u / 10) (by omega) c hc
   ·simp only [List.mem_singleton] at hc
    subst hc
    rw [UInt8.toNat_ofNat']
    omega
def valL (acc : Nat) (l : List UInt8) : Nat := l.foldl (fun a c => a * 10 + (c.toNat - 48)) acc
theorem valL_nil (acc : Nat) : valL acc [] = acc := rfl
theorem valL_cons (acc : Nat) (c : UInt8) (l : List UInt8) : valL acc (c :: l) = valL (acc * 10 + (c.toNat - 48)) l := by unfold valL; rw [List.foldl_cons]
theorem valL_app (acc : Nat) (l m : List UInt8) : valL acc (l ++ m) = valL (valL acc l) m := by unfold valL; rw [List.foldl_append]
theorem valL_ge : ∀ (l : List UInt8) (acc : Nat), acc ≤ valL acc l
 | [], acc => Nat.le_refl _
 | c :: l, acc => by
  rw [valL_cons]
  have := valL_ge l (acc * 10 + (c.toNat - 48))
  omega
theorem val_dec (u : Nat) : valL 0 (Lib.decDigits u) = u := by
 induction u using Nat.strongRecOn with
 | _ u ih =>
  by_cases h : u < 10
  ·have e : valL 0 [UInt8.ofNat (48 + u)] = 0 * 10 + ((UInt8.ofNat (48 + u)).toNat - 48) := by rw [valL_cons, valL_nil]
   rw [Lib.decDigits_one h, e, UInt8.toNat_ofNat']
   omega
  ·have e : Lib.decDigits u = Lib.decDigits (u / 10) ++ [UInt8.ofNat (48 + u % 10)] := by rw [Lib.decDigits, dif_neg h]
   have e2 : ∀ a, valL a [UInt8.ofNat (48 + u % 10)] = a * 10 + ((UInt8.ofNat (48 + u % 10)).toNat - 48) := fun a => by rw [valL_cons, valL_nil]
   rw [e, valL_app, ih (u / 10) (by omega), e2, UInt8.toNat_ofNat']
   omega
theorem decDigits_ne (u : Nat) : Lib.decDigits u ≠ [] := by
 intro h
 have := Lib.decDigits_length u
 rw [h] at this
 have h2 := Lib.nDigits_pos u
 simp at this
 omega
theorem nDigits_le : ∀ (k u : Nat), u < 10 ^ (k + 1) → Lib.nDigits u ≤ k + 1
 | 0, u, h => by rw [Lib.nDigits_small (by simpa using h)]; exact Nat.le_refl _
 | k + 1, u, h => by
  by_cases h10 : u < 10
  ·rw [Lib.nDigits_small h10]; omega
  ·rw [Lib.nDigits_big h10]
   have := nDigits_le k (u / 10) (by rw [Nat.div_lt_iff_lt_mul (by omega)]; rw [Nat.pow_succ] at h; exact h)
   omega
theorem parse_digs : ∀ (l : List UInt8) (acc : Nat), (∀ c ∈ l, 48 ≤ c.toNat ∧ c.toNat ≤ 57) → valL acc l < 18446744073709551616 → Lib.parseUint10 acc l = .ok (valL acc l)
 | [], acc, _, _ => rfl
 | c :: l, acc, hd, hv => by
  have h1 := hd c (by simp)
  rw [valL_cons] at hv ⊢
  have h2 := valL_ge l (acc * 10 + (c.toNat - 48))
  rw [Lib.parseUint10, if_pos h1, if_neg (by omega), if_neg (by omega)]
  exact parse_digs l _ (fun x hx => hd x (List.mem_cons_of_mem _ hx)) hv
theorem parse_dec {u : Nat} (h : u < 18446744073709551616) : Lib.parseMag (Lib.decDigits u) = .ok u := by
 unfold Lib.parseMag
 rw [if_neg (decDigits_ne u), parse_digs _ 0 (decDigits_dig u) (by rw [val_dec]; exact h), val_dec]
theorem atoi_itoa {n : Int} (h0 : -9223372036854775808 ≤ n) (h1 : n ≤ 9223372036854775807) : Lib.atoiAll (Lib.itoa n) = .ok n := by
 unfold Lib.itoa
 by_cases hn : n < 0
 ·rw [if_pos hn]
  unfold Lib.atoiAll
  have e : (45 : UInt8).toNat = 45 := rfl
  simp only [e, or_true, if_true]
  rw [parse_dec (by omega)]
  simp only [not_true, false_and, if_false, true_and]
  rw [if_neg (by omega)]
  congr 1
  omega
 ·rw [if_neg hn]
  have hp := parse_dec (u := n.toNat) (by omega)
  have hd := decDigits_dig n.toNat
  cases hl : Lib.decDigits n.toNat with
  | nil => exact absurd hl (decDigits_ne _)
  | cons c r =>
   rw [hl] at hp hd
   have hc := hd c (by simp)
   unfold Lib.atoiAll
   have e1 : (if c.toNat = 43 ∨ c.toNat = 45 then r else c :: r) = c :: r := if_neg (by omega)
   have e2 : ¬ c.toNat = 45 := by omega
   simp only [e1, hp]
   rw [if_neg (by omega), if_neg (fun h => e2 h.1), if_neg e2]
   congr 1
   omega
theorem itoaB_inj {m n : Int} (h0 : -9223372036854775808 ≤ m ∧ m ≤ 9223372036854775807) (h1 : -9223372036854775808 ≤ n ∧ n ≤ 9223372036854775807) (h : itoaB m = itoaB n) : m = n := by
 have e : Lib.itoa m = Lib.itoa n := by rw [← itoaB_data, ← itoaB_data, h]
 have a := atoi_itoa h0.1 h0.2
 rw [e, atoi_itoa h1.1 h1.2] at a
 injection a with a
 exact a.symm
theorem itoa_no {c : UInt8} (hc : c.toNat ≠ 45) (hc2 : ¬ (48 ≤ c.toNat ∧ c.toNat ≤ 57)) (n : Int) : c ∉ Lib.itoa n := by
 unfold Lib.itoa
 intro h
 split at h
 ·rw [List.mem_cons] at h
  rcases h with h | h
  ·subst h; exact hc rfl
  ·exact hc2 (decDigits_dig _ _ h)
 ·exact hc2 (decDigits_dig _ _ h)
/-! ### the two readers -/
def rd1 (w : ByteArray) : Int := match Lib.atoiAll w.data.toList with
 | .ok v => v
 | .range => Lib.atoiSat w.data.toList
 | _ => 0
def isDig (c : UInt8) : Bool := decide (48 ≤ c.toNat ∧ c.toNat ≤ 57)
def tailM (w : ByteArray) : List UInt8 := Lib.trimPrefix w.data.toList [45]
def negM (w : ByteArray) : Bool := Lib.hasPrefix w.data.toList [45]
def num2 (most : Int) (w : ByteArray) : Int × Bool :=
 if most < w.size then (0, false)
 else if (tailM w).all isDig = true then (let n : Int := if negM w = true then -(valL 0 (tailM w) : Int) else valL 0 (tailM w); (n, decide (itoaB n = w)))
 else (0, false)
def rd2 (w : ByteArray) : Int := (num2 18 w).1
theorem rd1_itoa {n : Int} (h0 : -9223372036854775808 ≤ n) (h1 : n ≤ 9223372036854775807) : rd1 (itoaB n) = n := by
 unfold rd1
 rw [itoaB_data, atoi_itoa h0 h1]
theorem itoa_tail (n : Int) : Lib.trimPrefix (Lib.itoa n) [45] = Lib.decDigits n.natAbs ∧ (Lib.hasPrefix (Lib.itoa n) [45] = decide (n < 0)) := by
 unfold Lib.itoa
 by_cases hn : n < 0
 ·rw [if_pos hn]
  have e : Lib.hasPrefix (45 :: Lib.decDigits n.natAbs) [45] = true := by simp [Lib.hasPrefix]
  constructor
  ·unfold Lib.trimPrefix; rw [if_pos e]; rfl
  ·rw [e, decide_eq_true hn]
 ·rw [if_neg hn]
  have e : Lib.hasPrefix (Lib.decDigits n.toNat) [45] = false := by
   cases hl : Lib.decDigits n.toNat with
   | nil => rfl
   | cons c r =>
    have hc := decDigits_dig n.toNat c (by rw [hl]; simp)
    have : ((45 : UInt8) == c) = false := by
     rw [beq_eq_false_iff_ne]
     intro h
     rw [← h] at hc
     exact absurd hc (by decide)
    simp [Lib.hasPrefix, List.isPrefixOf, this]
  constructor
  ·unfold Lib.trimPrefix; rw [e, if_neg (by simp)]
   congr 1
   omega
  ·rw [e, decide_eq_false hn]
theorem itoaB_size {n : Int} {k : Nat} (h : n.natAbs < 10 ^ (k + 1)) : (itoaB n).size ≤ k + 2 := by
 have e : (itoaB n).size = (Lib.itoa n).length := by simp [itoaB, ByteArray.size]
 rw [e]
 unfold Lib.itoa
 split
 ·rw [List.length_cons, Lib.decDigits_length]
  have := nDigits_le k n.natAbs h
  omega
 ·rename_i hn
  rw [Lib.decDigits_length]
  have := nDigits_le k n.toNat (by rw [show n.toNat = n.natAbs by omega]; exact h)
  omega
theorem num2_itoa {n most : Int} (h : ((itoaB n).size : Int) ≤ most) : num2 most (itoaB n) = (n, true) := by
 obtain ⟨e1, e2⟩ := itoa_tail n
 have t1 : tailM (itoaB n) = Lib.decDigits n.natAbs := by unfold tailM; rw [itoaB_data, e1]
 have t2 : negM (itoaB n) = decide (n < 0) := by unfold negM; rw [itoaB_data, e2]
 have hall : (Lib.decDigits n.natAbs).all isDig = true := by
  rw [List.all_eq_true]
  intro c hc
  exact decide_eq_true (decDigits_dig _ c hc)
 unfold num2
 rw [if_neg (by omega), t1, t2, if_pos hall, val_dec]
 have e : (if decide (n < 0) = true then -((n.natAbs : Nat) : Int) else ((n.natAbs : Nat) : Int)) = n := by
  by_cases hn : n < 0
  ·rw [decide_eq_true hn, if_pos rfl]; omega
  ·rw [decide_eq_false hn, if_neg (by simp)]; omega
 simp only [e, decide_true]
theorem rd2_itoa {n : Int} (h0 : -1000000000000 ≤ n) (h1 : n ≤ 1000000000000) : rd2 (itoaB n) = n := by
 unfold rd2
 have := itoaB_size (n := n) (k := 12) (by omega)
 rw [num2_itoa (by omega)]
/-! ### checksums -/
def sumL : Nat → List UInt8 → Nat
 | _, [] => 0
 | k, c :: r => k * c.toNat + sumL (k + 1) r
theorem sumL_app : ∀ (a b : List UInt8) (k : Nat), sumL k (a ++ b) = sumL k a + sumL (k + a.length) b
 | [], b, k => by simp [sumL]
 | c :: a, b, k => by
  rw [List.cons_append, sumL, sumL, sumL_app a b (k + 1), List.length_cons, show k + 1 + a.length = k + (a.length + 1) by omega]
  omega
theorem sumL_le : ∀ (a : List UInt8) (k : Nat), sumL k a ≤ (k + a.length) * 255 * a.length
 | [], k => by simp [sumL]
 | c :: a, k => by
  rw [sumL, List.length_cons]
  have h1 := sumL_le a (k + 1)
  have h2 : c.toNat ≤ 255 := by have := c.toNat_lt; omega
  have h3 : k * c.toNat ≤ (k + (a.length + 1)) * 255 := by
   have := Nat.mul_le_mul (show k ≤ k + (a.length + 1) by omega) h2
   omega
  rw [show k + 1 + a.length = k + (a.length + 1) by omega] at h1
  rw [Nat.mul_succ]
  omega
def sumB (s : ByteArray) : Int := ((sumL 1 s.data.toList % 65521 : Nat) : Int)
theorem sumB_rng (s : ByteArray) : 0 ≤ sumB s ∧ sumB s ≤ 65520 := by unfold sumB; omega
theorem valL_lt : ∀ (l : List UInt8) (acc : Nat), (∀ c ∈ l, c.toNat ≤ 57) → valL acc l < (acc + 1) * 10 ^ l.length
 | [], acc, _ => by rw [valL_nil]; simp
 | c :: l, acc, h => by
  rw [valL_cons]
  have h1 := valL_lt l (acc * 10 + (c.toNat - 48)) fun x hx => h x (List.mem_cons_of_mem _ hx)
  have h2 := h c (by simp)
  have h3 : (acc * 10 + (c.toNat - 48) + 1) * 10 ^ l.length ≤ ((acc + 1) * 10) * 10 ^ l.length := Nat.mul_le_mul_right _ (by omega)
  rw [List.length_cons, Nat.pow_succ, Nat.mul_comm (10 ^ l.length) 10, ← Nat.mul_assoc]
  omega
end Go.Lg
