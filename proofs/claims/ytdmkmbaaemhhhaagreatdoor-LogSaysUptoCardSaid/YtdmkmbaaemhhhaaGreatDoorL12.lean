/-
  Codes and accounts, plain.
-/
import Derived.Test.YtdmkmbaaemhhhaaGreatDoorL11
import Derived.Test.YtdmkmbaaemhhhaaGreatDoorL01
import Derived.Test.YtdmkmbaaemhhhaaGreatDoorL02
import Derived.Test.YtdmkmbaaemhhhaaGreatDoorL03
namespace Go.Acc
open Go
def dig (b : UInt8) : Bool := decide (48 ≤ b.toNat ∧ b.toNat ≤ 57)
def codeOk (s : ByteArray) : Bool := decide (0 < s.size ∧ s.size ≤ 8) && s.data.toList.all dig
def digsL : List UInt8 := [48, 49, 50, 51, 52, 53, 54, 55, 56, 57]
theorem str_get (s : ByteArray) (k : Nat) : s[k]? = s.data.toList[k]? := by
 by_cases h : k < s.size
 ·have h' : k < s.data.toList.length := by simpa using h
  rw [getElem?_pos s k h, List.getElem?_eq_getElem h']
  rfl
 ·rw [getElem?_neg s k h, List.getElem?_eq_none (by simpa using h)]
theorem str_eq (x y : ByteArray) : (x.toList == y.toList) = decide (x = y) := by
 rw [ByteArray.toList_eq, ByteArray.toList_eq]
 by_cases h : x = y
 ·subst h; simp
 ·rw [decide_eq_false h]
  have : x.data.toList ≠ y.data.toList := fun e => h (by
   obtain ⟨⟨x⟩⟩ := x
   obtain ⟨⟨y⟩⟩ := y
   have e' : x = y := e
   rw [e'])
  simpa using this
set_option maxRecDepth 100000 in
theorem dig_iff (b : UInt8) : digsL.contains b = dig b := by
 have h : ∀ n : Nat, n < 256 → digsL.contains (UInt8.ofNat n) = dig (UInt8.ofNat n) := by decide
 have := h b.toNat b.toNat_lt
 rwa [UInt8.ofNat_toNat] at this
theorem dw_nil (p : UInt8 → Bool) : ∀ l : List UInt8, l.dropWhile p = [] ↔ ∀ x ∈ l, p x = true
 | [] => by simp
 | x :: l => by
  rw [List.dropWhile_cons]
  by_cases h : p x = true
  ·rw [if_pos h, dw_nil p l]; simp [h]
  ·rw [if_neg h]; simp [h]
theorem dw_head (p : UInt8 → Bool) : ∀ (l : List UInt8) (y : UInt8) (t : List UInt8), l.dropWhile p = y :: t → p y = false
 | [], y, t, h => by simp at h
 | x :: l, y, t, h => by
  rw [List.dropWhile_cons] at h
  by_cases hx : p x = true
  ·rw [if_pos hx] at h; exact dw_head p l y t h
  ·rw [if_neg hx] at h
   cases h
   simpa using hx
theorem trim_all {l : List UInt8} (h : l.all dig = true) : Lib.trimS l digsL = [] := by
 have e : (fun b => digsL.contains b) = dig := funext dig_iff
 unfold Lib.trimS Lib.trimLeftS Lib.trimRightS
 rw [e]
 have : l.reverse.dropWhile dig = [] := (dw_nil _ _).2 fun x hx => List.all_eq_true.1 h x (List.mem_reverse.1 hx)
 rw [this]
 rfl
theorem trim_not {l : List UInt8} (h : l.all dig = false) : Lib.trimS l digsL ≠ [] := by
 have e : (fun b => digsL.contains b) = dig := funext dig_iff
 obtain ⟨x, hx, hd⟩ := List.all_eq_false.1 h
 unfold Lib.trimS Lib.trimLeftS Lib.trimRightS
 rw [e]
 intro h0
 rw [dw_nil] at h0
 have h1 : l.reverse.dropWhile dig ≠ [] := fun h2 => by
  rw [dw_nil] at h2
  exact hd (h2 x (List.mem_reverse.2 hx))
 obtain ⟨y, t, hy⟩ := List.exists_cons_of_ne_nil h1
 have h3 := dw_head dig _ _ _ hy
 rw [hy] at h0
 have := h0 y (by simp)
 rw [h3] at this
 cases this
/-! ### the order of strings -/
end Go.Acc
