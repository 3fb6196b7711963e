/-
  The whole's books, in plain words: plain accounts, what is moved from one to another; what is earned month by month stands in the books.
-/
import Derived.Test.YtdjdipehfnnhpaaDecE
import Derived.Test.YtdjdipehfnnhpaaPoP
import Derived.Test.YtdjdipehfnnhpaaEarnP
namespace Go.Acc
open Go Go.Proofs.Ytdjdipehfnnhpaa
set_option linter.unusedVariables false
set_option linter.unusedSimpArgs false
def c10 : ByteArray := ⟨#[49, 48]⟩
def c15 : ByteArray := ⟨#[49, 53]⟩
def c20 : ByteArray := ⟨#[50, 48]⟩
def c30 : ByteArray := ⟨#[51, 48]⟩
def c40 : ByteArray := ⟨#[52, 48]⟩
def c50 : ByteArray := ⟨#[53, 48]⟩
def plA : List (ByteArray × Int) := [(c10, 0), (c15, 0), (c20, 1), (c30, 2), (c40, 3), (c50, 4)]
def keyT (n : Nat) : ByteArray := (⟨#[107]⟩ : ByteArray) ++ decF 1 n
def mvX (n : Nat) (at_ a : Int) (to from_ : ByteArray) : En := (keyT n, at_, [(to, a), (from_, -a)])
def keyTB (n : Nat) : Bool := keyOk' (keyT n)
theorem keyT_ok : ∀ n : Fin 100, keyOk' (keyT n.1) = true := by decide +kernel
theorem keyT_inj : ∀ n m : Fin 100, keyT n.1 = keyT m.1 → n = m := by decide +kernel
theorem plA_ok : acChk plA = 0 := by
  unfold acChk plA
  simp only [acE, ByteArray.toList_eq]
  decide +kernel
theorem plA_has : hasA plA c10 = true ∧ hasA plA c15 = true ∧ hasA plA c20 = true ∧ hasA plA c30 = true ∧ hasA plA c40 = true ∧ hasA plA c50 = true := by decide +kernel
theorem codes_ok : codeOk c10 = true ∧ codeOk c15 = true ∧ codeOk c20 = true ∧ codeOk c30 = true ∧ codeOk c40 = true ∧ codeOk c50 = true := by decide +kernel
theorem enX_mv {n : Nat} {at_ a : Int} {to from_ : ByteArray} (hn : n < 100) (h0 : 0 ≤ at_) (h1 : at_ ≤ 292193) (ha : a ≠ 0) (ha0 : -1000000000000 ≤ a) (ha1 : a ≤ 1000000000000) (ht : codeOk to = true) (hf : codeOk from_ = true) (hne : to ≠ from_) : enX (mvX n at_ a to from_) = 0 := by
  have hk := keyT_ok ⟨n, hn⟩
  simp only at hk
  have hne' : decide (to = from_) = false := decide_eq_false hne
  have e1 : lnE [] [(to, a), (from_, -a)] = 0 := by
    simp only [lnE, ht, hf, hasC, List.any_nil, List.nil_append, List.any_cons, hne', Bool.or_false, Bool.true_eq_false, if_false, Bool.false_eq_true]
    rw [if_neg (fun h => h ⟨⟨ha0, ha1⟩, ha⟩), if_neg (fun h => h ⟨⟨by omega, by omega⟩, by omega⟩)]
  have e2 : lnSum [(to, a), (from_, -a)] 2 = 0 := by
    simp [lnSum]
    omega
  unfold enX mvX enE lnChk
  simp only [hk, e1, Bool.true_eq_false, if_false, List.length_cons, List.length_nil]
  rw [if_neg (fun h => h ⟨h0, h1⟩), if_neg (by omega), if_neg (fun h => h rfl), if_neg (fun h => by rcases h with h | h; omega; exact h e2)]
theorem known_mv {n : Nat} {at_ a : Int} {to from_ : ByteArray} (ht : hasA plA to = true) (hf : hasA plA from_ = true) : knownB plA (mvX n at_ a to from_) = true := by
  unfold knownB mvX
  simp [ht, hf]
theorem ofX_mv (c : ByteArray) (d : Int) (n : Nat) (at_ a : Int) (to from_ : ByteArray) : ofX c 0 d (mvX n at_ a to from_) = if 0 ≤ at_ ∧ at_ ≤ d then (if to = c then a else 0) + (if from_ = c then -a else 0) else 0 := by
  unfold ofX mvX
  simp only
  split
  · unfold ofL
    simp only [List.map_cons, List.map_nil, List.sum_cons, List.sum_nil, lnW, isC, decide_eq_true_eq]
    omega
  · rfl
/-- a new entry is posted -/
theorem post_mv {E : List En} {n : Nat} {at_ a : Int} {to from_ : ByteArray} (hb : bkChk plA E (-1) = 0) (hx : enX (mvX n at_ a to from_) = 0) (hno : ∀ y ∈ E, y.1 ≠ keyT n) (ht : hasA plA to = true) (hf : hasA plA from_ = true) (h0 : 0 ≤ at_) (hl : E.length < 60) :
    postE plA E (-1) (mvX n at_ a to from_) = 0 ∧ postB E (mvX n at_ a to from_) = insE (mvX n at_ a to from_) E := by
  have hg : getE (mvX n at_ a to from_).1 E = none := by
    unfold getE
    rw [List.find?_eq_none]
    intro y hy
    rw [decide_eq_true_eq]
    exact hno y hy
  have hk := known_mv (n := n) (at_ := at_) (a := a) ht hf
  constructor
  · unfold postE
    rw [if_neg (fun h => h hb), if_neg (fun h => h hx)]
    simp only [hg]
    rw [if_neg (by rw [hk]; simp), if_neg (by show ¬ at_ ≤ -1; omega), if_neg (by omega)]
  · unfold postB
    simp only [hg]
theorem plain_ok : bkChk plA [] (-1) = 0 := bkChk_iff.2 ⟨plA_ok, by omega, by simp, by simp, by simp [keysE], fun i k y z _ hy => by simp at hy⟩
end Go.Acc
