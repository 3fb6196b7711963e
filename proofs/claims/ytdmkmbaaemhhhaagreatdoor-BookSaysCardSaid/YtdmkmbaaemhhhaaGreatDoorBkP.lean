/-
  Books, in plain words: what Check finds, what an account has.
-/
import Derived.Test.YtdmkmbaaemhhhaaGreatDoorEnI
namespace Go.Acc
open Go
abbrev En := ByteArray × Int × List (ByteArray × Int)
def enX (x : En) : Int := enE x.1 x.2.1 x.2.2
def hasA (A : List (ByteArray × Int)) (c : ByteArray) : Bool := A.any (isC c)
def knownB (A : List (ByteArray × Int)) (x : En) : Bool := x.2.2.all fun l => hasA A l.1
def ltB (x y : En) : Bool := decide (x.2.1 < y.2.1) || (decide (x.2.1 = y.2.1) && Op.bytesLess x.1.toList y.1.toList)
def cmpE (x y : En) : Int := if x.2.1 = y.2.1 then Lib.compareBytes x.1.data.toList y.1.data.toList else x.2.1 - y.2.1
theorem cmpL_less : ∀ a b : List UInt8, (0 ≤ Lib.compareBytes a b) ↔ Op.bytesLess a b = false
  | [], [] => by simp [Lib.compareBytes, Op.bytesLess]
  | [], y :: ys => by simp [Lib.compareBytes, Op.bytesLess]
  | x :: xs, [] => by simp [Lib.compareBytes, Op.bytesLess]
  | x :: xs, y :: ys => by
    have ih := cmpL_less xs ys
    unfold Lib.compareBytes Op.bytesLess
    by_cases h1 : x < y
    · rw [if_pos h1, decide_eq_true h1]; simp
    · rw [if_neg h1, decide_eq_false h1, Bool.false_or]
      by_cases h2 : y < x
      · have e : (x == y) = false := by
          rw [beq_eq_false_iff_ne]
          intro e; subst e; exact h1 h2
        rw [if_pos h2, e]; simp
      · have e : x = y := by
          rw [UInt8.lt_iff_toNat_lt] at h1 h2
          exact UInt8.toNat_inj.1 (by omega)
        subst e
        rw [if_neg h2, ih, beq_self_eq_true, Bool.true_and]
theorem cmpE_ge (x y : En) : (0 ≤ cmpE x y) ↔ ltB x y = false := by
  unfold cmpE ltB
  by_cases h : x.2.1 = y.2.1
  · rw [if_pos h, decide_eq_true h, decide_eq_false (by omega : ¬ x.2.1 < y.2.1), cmpL_less, Bool.false_or, Bool.true_and, ByteArray.toList_eq, ByteArray.toList_eq]
  · rw [if_neg h, decide_eq_false h, Bool.false_and, Bool.or_false, decide_eq_false_iff_not]
    omega
def prvE (E : List En) (k : Nat) : Option En := if k = 0 then none else E[k - 1]?
def keysTo (E : List En) (k : Nat) : List ByteArray := (E.take k).map (·.1)
def badO (p : Option En) (x : En) : Bool := match p with
  | some y => !ltB y x
  | none => false
/-- what is wrong with entries behind others -/
def bkE (A : List (ByteArray × Int)) (ks : List ByteArray) (p : Option En) : List En → Int
  | [] => 0
  | x :: r => if enX x ≠ 0 then enX x else if knownB A x = false then 4 else if hasC x.1 ks = true then 5 else if badO p x = true then 3 else bkE A (ks ++ [x.1]) (some x) r
theorem keysTo_succ {E : List En} {k : Nat} {x : En} (h : E[k]? = some x) : keysTo E (k + 1) = keysTo E k ++ [x.1] := by
  have hlt : k < E.length := (List.getElem?_eq_some_iff.1 h).1
  have he : E[k] = x := (List.getElem?_eq_some_iff.1 h).2
  unfold keysTo
  rw [List.take_succ_eq_append_getElem hlt, he, List.map_append]
  rfl
theorem bkE_drop {A : List (ByteArray × Int)} {E : List En} {k : Nat} {x : En} (h : E[k]? = some x) :
    bkE A (keysTo E k) (prvE E k) (E.drop k) = if enX x ≠ 0 then enX x else if knownB A x = false then 4 else if hasC x.1 (keysTo E k) = true then 5 else if badO (prvE E k) x = true then 3 else bkE A (keysTo E (k + 1)) (prvE E (k + 1)) (E.drop (k + 1)) := by
  have hlt : k < E.length := (List.getElem?_eq_some_iff.1 h).1
  have he : E[k] = x := (List.getElem?_eq_some_iff.1 h).2
  have hp : prvE E (k + 1) = some x := by unfold prvE; rw [if_neg (by omega), Nat.add_sub_cancel, h]
  rw [List.drop_eq_getElem_cons hlt, he, hp, keysTo_succ h]
  rfl
def bkChk (A : List (ByteArray × Int)) (E : List En) (s : Int) : Int := if acChk A ≠ 0 then acChk A else if ¬ (-1 ≤ s ∧ s ≤ 292193) then 1 else if 60 < E.length then 2 else bkE A [] none E
theorem bkE_ok : ∀ (E : List En) {A : List (ByteArray × Int)} {ks : List ByteArray} {p : Option En}, bkE A ks p E = 0 → ∀ x ∈ E, enX x = 0 ∧ knownB A x = true
  | [], _, _, _, _ => by simp
  | x :: r, A, ks, p, h => by
    unfold bkE at h
    by_cases h1 : enX x = 0
    · rw [if_neg (fun hh => hh h1)] at h
      cases h2 : knownB A x with
      | false => rw [if_pos h2] at h; omega
      | true =>
        rw [if_neg (by rw [h2]; simp)] at h
        by_cases h3 : hasC x.1 ks = true
        · rw [if_pos h3] at h; omega
        rw [if_neg h3] at h
        by_cases h4 : badO p x = true
        · rw [if_pos h4] at h; omega
        · rw [if_neg h4] at h
          intro y hy
          rcases List.mem_cons.1 hy with rfl | hy
          · exact ⟨h1, h2⟩
          · exact bkE_ok r h y hy
    · rw [if_pos h1] at h; exact absurd h h1
theorem bkChk_ok {A : List (ByteArray × Int)} {E : List En} {s : Int} (h : bkChk A E s = 0) : acChk A = 0 ∧ (-1 ≤ s ∧ s ≤ 292193) ∧ E.length ≤ 60 ∧ ∀ x ∈ E, enX x = 0 ∧ knownB A x = true := by
  unfold bkChk at h
  by_cases h1 : acChk A = 0
  · rw [if_neg (fun hh => hh h1)] at h
    by_cases h2 : -1 ≤ s ∧ s ≤ 292193
    · rw [if_neg (fun hh => hh h2)] at h
      by_cases h3 : 60 < E.length
      · rw [if_pos h3] at h; omega
      · rw [if_neg h3] at h
        exact ⟨h1, h2, by omega, bkE_ok E h⟩
    · rw [if_pos h2] at h; omega
  · rw [if_pos h1] at h; exact absurd h h1
theorem enX_ok {x : En} (h : enX x = 0) : (0 ≤ x.2.1 ∧ x.2.1 ≤ 292193) ∧ x.2.2.length ≤ 12 ∧ ∀ l ∈ x.2.2, -1000000000000 ≤ l.2 ∧ l.2 ≤ 1000000000000 := by
  have h0 := lnChk_ok (enE_ok h)
  refine ⟨?_, h0.2.1, h0.2.2⟩
  unfold enX enE at h
  by_cases h1 : keyOk' x.1 = false
  · rw [if_pos h1] at h; omega
  rw [if_neg h1] at h
  by_cases h2 : ¬ (0 ≤ x.2.1 ∧ x.2.1 ≤ 292193)
  · rw [if_pos h2] at h; omega
  · exact Decidable.not_not.1 h2
/-! ### what an account has -/
def lnW (c : ByteArray) (p : ByteArray × Int) : Int := if isC c p = true then p.2 else 0
def ofL (c : ByteArray) (l : List (ByteArray × Int)) : Int := (l.map (lnW c)).sum
def ofX (c : ByteArray) (f t : Int) (x : En) : Int := if f ≤ x.2.1 ∧ x.2.1 ≤ t then ofL c x.2.2 else 0
def ofB (c : ByteArray) (f t : Int) (E : List En) : Int := (E.map (ofX c f t)).sum
theorem sum_bd {α : Type} (g : α → Int) (M : Int) (hM : 0 ≤ M) : ∀ l : List α, (∀ x ∈ l, -M ≤ g x ∧ g x ≤ M) → -(l.length * M) ≤ (l.map g).sum ∧ (l.map g).sum ≤ l.length * M
  | [], _ => by simp
  | x :: l, h => by
    have h1 := h x (by simp)
    have h2 := sum_bd g M hM l fun y hy => h y (by simp [hy])
    simp only [List.map_cons, List.sum_cons, List.length_cons]
    have e : (((l.length + 1 : Nat)) : Int) * M = l.length * M + M := by rw [Int.natCast_add, Int.add_mul]; simp
    rw [e]
    omega
theorem ofL_succ {c : ByteArray} {l : List (ByteArray × Int)} {j : Nat} {p : ByteArray × Int} (h : l[j]? = some p) : ofL c (l.take (j + 1)) = ofL c (l.take j) + lnW c p := by
  have hlt : j < l.length := (List.getElem?_eq_some_iff.1 h).1
  have he : l[j] = p := (List.getElem?_eq_some_iff.1 h).2
  unfold ofL
  rw [List.take_succ_eq_append_getElem hlt, he, List.map_append, List.sum_append]
  simp
theorem ofB_succ {c : ByteArray} {f t : Int} {E : List En} {k : Nat} {x : En} (h : E[k]? = some x) : ofB c f t (E.take (k + 1)) = ofB c f t (E.take k) + ofX c f t x := by
  have hlt : k < E.length := (List.getElem?_eq_some_iff.1 h).1
  have he : E[k] = x := (List.getElem?_eq_some_iff.1 h).2
  unfold ofB
  rw [List.take_succ_eq_append_getElem hlt, he, List.map_append, List.sum_append]
  simp
theorem ofL_bd (c : ByteArray) {l : List (ByteArray × Int)} (h : ∀ p ∈ l, -1000000000000 ≤ p.2 ∧ p.2 ≤ 1000000000000) (hl : l.length ≤ 12) : -12000000000000 ≤ ofL c l ∧ ofL c l ≤ 12000000000000 := by
  have := sum_bd (lnW c) 1000000000000 (by omega) l fun p hp => by
    have := h p hp
    unfold lnW
    split <;> omega
  unfold ofL
  omega
theorem ofB_bd (c : ByteArray) (f t : Int) {E : List En} (h : ∀ x ∈ E, enX x = 0) (hl : E.length ≤ 60) : -720000000000000 ≤ ofB c f t E ∧ ofB c f t E ≤ 720000000000000 := by
  have := sum_bd (ofX c f t) 12000000000000 (by omega) E fun x hx => by
    have h1 := enX_ok (h x hx)
    have h2 := ofL_bd c h1.2.2 h1.2.1
    unfold ofX
    split <;> omega
  unfold ofB
  omega
end Go.Acc
