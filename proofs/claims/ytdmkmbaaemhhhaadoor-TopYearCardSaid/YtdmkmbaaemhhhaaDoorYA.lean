/-
  Steps of the proof of TopYear, joined: PoP TsP TsE DecE JobH JobK JobL.
-/
import Derived.Test.YtdmkmbaaemhhhaaDoorBkP
import Derived.Test.YtdmkmbaaemhhhaaDoorBkH
import Derived.Test.YtdmkmbaaemhhhaaDoorBkI
import Derived.Test.YtdmkmbaaemhhhaaDoorJobG
import Derived.Test.YtdmkmbaaemhhhaaDoorLnE
import Derived.WalkKit
import Derived.BigCall
import Derived.BigGuard
import Derived.BigQuiet
namespace Go.Acc
open Go
theorem lessB_irrefl : ∀ a : List UInt8, Op.bytesLess a a = false
  | [] => rfl
  | x :: a => by
    unfold Op.bytesLess
    rw [lessB_irrefl a, decide_eq_false (fun h => by rw [UInt8.lt_iff_toNat_lt] at h; omega)]; simp
theorem lessB_trans : ∀ {a b c : List UInt8}, Op.bytesLess a b = true → Op.bytesLess b c = true → Op.bytesLess a c = true
  | _, _, [], _, h2 => by simp [Op.bytesLess] at h2
  | _, [], z :: c, h1, _ => by simp [Op.bytesLess] at h1
  | [], y :: b, z :: c, _, _ => rfl
  | x :: a, y :: b, z :: c, h1, h2 => by
    simp only [Op.bytesLess, Bool.or_eq_true, decide_eq_true_eq, Bool.and_eq_true, beq_iff_eq, UInt8.lt_iff_toNat_lt] at h1 h2 ⊢
    rcases h1 with h1 | ⟨rfl, h1⟩ <;> rcases h2 with h2 | ⟨rfl, h2⟩
    · left; omega
    · left; exact h1
    · left; exact h2
    · right; exact ⟨rfl, lessB_trans h1 h2⟩
theorem lessB_tri : ∀ {a b : List UInt8}, Op.bytesLess a b = false → Op.bytesLess b a = false → a = b
  | [], [], _, _ => rfl
  | [], y :: b, h1, _ => by simp [Op.bytesLess] at h1
  | x :: a, [], _, h2 => by simp [Op.bytesLess] at h2
  | x :: a, y :: b, h1, h2 => by
    simp only [Op.bytesLess, Bool.or_eq_false_iff, decide_eq_false_iff_not, Bool.and_eq_false_iff, beq_eq_false_iff_ne, UInt8.lt_iff_toNat_lt] at h1 h2
    have e : x = y := UInt8.toNat_inj.1 (by omega)
    subst e
    rcases h1.2 with h | h
    · exact absurd rfl h
    rcases h2.2 with h' | h'
    · exact absurd rfl h'
    rw [lessB_tri h h']
theorem ltB_irrefl (x : En) : ltB x x = false := by
  unfold ltB
  rw [lessB_irrefl, decide_eq_false (by omega)]; simp
theorem ltB_iff (x y : En) : ltB x y = true ↔ x.2.1 < y.2.1 ∨ (x.2.1 = y.2.1 ∧ Op.bytesLess x.1.toList y.1.toList = true) := by
  unfold ltB
  rw [Bool.or_eq_true, decide_eq_true_eq, Bool.and_eq_true, decide_eq_true_eq]
theorem ltB_trans {x y z : En} (h1 : ltB x y = true) (h2 : ltB y z = true) : ltB x z = true := by
  rw [ltB_iff] at h1 h2 ⊢
  rcases h1 with h1 | ⟨h1, g1⟩ <;> rcases h2 with h2 | ⟨h2, g2⟩
  · left; omega
  · left; omega
  · left; omega
  · right; exact ⟨by omega, lessB_trans g1 g2⟩
theorem toList_inj {a b : ByteArray} (h : a.toList = b.toList) : a = b := by
  rw [ByteArray.toList_eq, ByteArray.toList_eq] at h
  cases a; cases b
  simp only at h
  rw [Array.toList_inj] at h
  rw [h]
theorem ltB_tri {x y : En} (hne : x.1 ≠ y.1) (h : ltB x y = false) : ltB y x = true := by
  cases h2 : ltB y x with
  | true => rfl
  | false =>
    exfalso
    have h1' : ¬ ltB x y = true := by rw [h]; simp
    have h2' : ¬ ltB y x = true := by rw [h2]; simp
    rw [ltB_iff] at h1' h2'
    have hd : x.2.1 = y.2.1 := by omega
    refine hne (toList_inj (lessB_tri ?_ ?_))
    · cases hb : Op.bytesLess x.1.toList y.1.toList with
      | false => rfl
      | true => exact absurd (.inr ⟨hd, hb⟩) h1'
    · cases hb : Op.bytesLess y.1.toList x.1.toList with
      | false => rfl
      | true => exact absurd (.inr ⟨hd.symm, hb⟩) h2'
/-- where it belongs -/
def posE (x : En) : List En → Nat
  | [] => 0
  | y :: r => if ltB y x = true then posE x r + 1 else 0
theorem posE_le (x : En) : ∀ E, posE x E ≤ E.length
  | [] => Nat.le_refl _
  | y :: r => by
    unfold posE
    split
    · exact Nat.succ_le_succ (posE_le x r)
    · exact Nat.zero_le _
theorem posE_uniq (x : En) : ∀ (E : List En) (i : Nat), i ≤ E.length → (∀ k y, k < i → E[k]? = some y → ltB y x = true) → (∀ k y, i ≤ k → E[k]? = some y → ltB y x = false) → posE x E = i
  | [], i, hi, _, _ => by simp at hi; subst hi; rfl
  | y :: r, 0, _, _, h2 => by
    unfold posE
    rw [if_neg (by rw [h2 0 y (Nat.le_refl _) rfl]; simp)]
  | y :: r, i + 1, hi, h1, h2 => by
    unfold posE
    rw [if_pos (h1 0 y (Nat.succ_pos _) rfl), posE_uniq x r i (by simpa using hi) (fun k z hk hz => h1 (k + 1) z (by omega) (by simpa using hz)) (fun k z hk hz => h2 (k + 1) z (by omega) (by simpa using hz))]
def srtE (E : List En) : Prop := ∀ (i k : Nat) (y z : En), i < k → E[i]? = some y → E[k]? = some z → ltB y z = true
theorem srtE_cons {x : En} {r : List En} : srtE (x :: r) ↔ (∀ y ∈ r, ltB x y = true) ∧ srtE r := by
  constructor
  · intro h
    refine ⟨fun y hy => ?_, fun i k y z hik hy hz => h (i + 1) (k + 1) y z (by omega) (by simpa using hy) (by simpa using hz)⟩
    obtain ⟨k, hk⟩ := List.mem_iff_getElem?.1 hy
    exact h 0 (k + 1) x y (by omega) rfl (by simpa using hk)
  · rintro ⟨h1, h2⟩ i k y z hik hy hz
    cases k with
    | zero => omega
    | succ k =>
      cases i with
      | zero => simp at hy hz; subst hy; exact h1 z (List.mem_of_getElem? hz)
      | succ i => exact h2 i k y z (by omega) (by simpa using hy) (by simpa using hz)
def insE (x : En) (E : List En) : List En := E.take (posE x E) ++ x :: E.drop (posE x E)
theorem insE_cons (x y : En) (r : List En) : insE x (y :: r) = if ltB y x = true then y :: insE x r else x :: y :: r := by
  unfold insE
  rw [posE]
  split
  · rw [List.take_succ_cons, List.drop_succ_cons, List.cons_append]
  · rfl
theorem mem_insE {x y : En} {E : List En} : y ∈ insE x E ↔ y = x ∨ y ∈ E := by
  unfold insE
  rw [List.mem_append, List.mem_cons]
  have : y ∈ E ↔ y ∈ E.take (posE x E) ∨ y ∈ E.drop (posE x E) := by rw [← List.mem_append, List.take_append_drop]
  rw [this]
  constructor
  · rintro (h | h | h)
    · exact .inr (.inl h)
    · exact .inl h
    · exact .inr (.inr h)
  · rintro (h | h | h)
    · exact .inr (.inl h)
    · exact .inl h
    · exact .inr (.inr h)
theorem insE_srt {x : En} : ∀ {E : List En}, srtE E → (∀ y ∈ E, y.1 ≠ x.1) → srtE (insE x E)
  | [], _, _ => by
    intro i k y z hik hy hz
    have hk : k < (insE x []).length := (List.getElem?_eq_some_iff.1 hz).1
    simp [insE] at hk
    omega
  | w :: r, h, hk => by
    have h' := srtE_cons.1 h
    rw [insE_cons]
    split
    · rename_i hlt
      refine srtE_cons.2 ⟨fun y hy => ?_, insE_srt h'.2 fun y hy => hk y (List.mem_cons_of_mem _ hy)⟩
      rcases mem_insE.1 hy with rfl | hy
      · exact hlt
      · exact h'.1 y hy
    · rename_i hlt
      have hwx : ltB x w = true := ltB_tri (hk w List.mem_cons_self) (by simpa using hlt)
      refine srtE_cons.2 ⟨fun y hy => ?_, h⟩
      rcases List.mem_cons.1 hy with rfl | hy
      · exact hwx
      · exact ltB_trans hwx (h'.1 y hy)
theorem hasC_iff {c : ByteArray} {ks : List ByteArray} : hasC c ks = true ↔ c ∈ ks := by
  unfold hasC
  simp
def keysE (E : List En) : List ByteArray := E.map (·.1)
theorem bkE_iff {A : List (ByteArray × Int)} : ∀ (E : List En) (ks : List ByteArray) (p : Option En), (∀ y, p = some y → ∀ z, z ∈ E → True) → (bkE A ks p E = 0 ↔ (∀ x ∈ E, enX x = 0 ∧ knownB A x = true) ∧ (keysE E).Nodup ∧ (∀ x ∈ E, x.1 ∉ ks) ∧ srtE E ∧ ∀ y, p = some y → ∀ z, E.head? = some z → ltB y z = true)
  | [], ks, p, _ => by
    refine ⟨fun _ => ⟨by simp, by simp [keysE], by simp, fun i k y z _ hy => by simp at hy, by simp⟩, fun _ => rfl⟩
  | x :: r, ks, p, _ => by
    unfold bkE
    have ih := bkE_iff (A := A) r (ks ++ [x.1]) (some x) (fun _ _ _ _ => trivial)
    by_cases h1 : enX x = 0
    · rw [if_neg (fun hh => hh h1)]
      cases h2 : knownB A x with
      | false =>
        rw [if_pos rfl]
        refine ⟨fun h => by omega, fun h => ?_⟩
        have := (h.1 x List.mem_cons_self).2
        rw [h2] at this; cases this
      | true =>
        rw [if_neg (by simp)]
        by_cases h3 : hasC x.1 ks = true
        · rw [if_pos h3]
          exact ⟨fun h => by omega, fun h => absurd (hasC_iff.1 h3) (h.2.2.1 x List.mem_cons_self)⟩
        rw [if_neg h3]
        by_cases h4 : badO p x = true
        · rw [if_pos h4]
          refine ⟨fun h => by omega, fun h => ?_⟩
          cases p with
          | none => cases h4
          | some y =>
            have := h.2.2.2.2 y rfl x rfl
            simp [badO, this] at h4
        · rw [if_neg h4, ih]
          constructor
          · rintro ⟨g1, g2, g3, g4, g5⟩
            refine ⟨fun y hy => ?_, ?_, fun y hy => ?_, srtE_cons.2 ⟨?_, g4⟩, fun y hy z hz => ?_⟩
            · rcases List.mem_cons.1 hy with rfl | hy
              · exact ⟨h1, h2⟩
              · exact g1 y hy
            · refine List.nodup_cons.2 ⟨fun hm => ?_, g2⟩
              obtain ⟨y, hy, he⟩ := List.mem_map.1 hm
              exact g3 y hy (by rw [he]; simp)
            · rcases List.mem_cons.1 hy with rfl | hy
              · exact fun hm => h3 (hasC_iff.2 hm)
              · exact fun hm => g3 y hy (List.mem_append_left _ hm)
            · intro y hy
              cases r with
              | nil => simp at hy
              | cons z r' =>
                have hz := g5 x rfl z rfl
                rcases List.mem_cons.1 hy with rfl | hy
                · exact hz
                · exact ltB_trans hz ((srtE_cons.1 g4).1 y hy)
            · simp at hz
              subst hz
              subst hy
              simpa [badO] using h4
          · rintro ⟨g1, g2, g3, g4, g5⟩
            have g2' := List.nodup_cons.1 g2
            refine ⟨fun y hy => g1 y (List.mem_cons_of_mem _ hy), g2'.2, fun y hy hm => ?_, (srtE_cons.1 g4).2, fun y hy z hz => ?_⟩
            · rcases List.mem_append.1 hm with hm | hm
              · exact g3 y (List.mem_cons_of_mem _ hy) hm
              · simp at hm
                exact g2'.1 (List.mem_map.2 ⟨y, hy, hm⟩)
            · simp at hy
              subst hy
              exact (srtE_cons.1 g4).1 z (List.mem_of_head? hz)
    · rw [if_pos h1]
      exact ⟨fun h => absurd h h1, fun h => absurd (h.1 x List.mem_cons_self).1 h1⟩
theorem bkChk_iff {A : List (ByteArray × Int)} {E : List En} {s : Int} : bkChk A E s = 0 ↔ acChk A = 0 ∧ (-1 ≤ s ∧ s ≤ 292193) ∧ E.length ≤ 60 ∧ (∀ x ∈ E, enX x = 0 ∧ knownB A x = true) ∧ (keysE E).Nodup ∧ srtE E := by
  unfold bkChk
  by_cases h1 : acChk A = 0
  · rw [if_neg (fun hh => hh h1)]
    by_cases h2 : -1 ≤ s ∧ s ≤ 292193
    · rw [if_neg (fun hh => hh h2)]
      by_cases h3 : 60 < E.length
      · rw [if_pos h3]
        exact ⟨fun h => by omega, fun h => by omega⟩
      · rw [if_neg h3, bkE_iff E [] none (fun _ _ _ _ => trivial)]
        constructor
        · rintro ⟨g1, g2, _, g4, _⟩
          exact ⟨h1, h2, by omega, g1, g2, g4⟩
        · rintro ⟨_, _, _, g1, g2, g4⟩
          exact ⟨g1, g2, by simp, g4, by simp⟩
    · rw [if_pos h2]
      exact ⟨fun h => by omega, fun h => absurd h.2.1 h2⟩
  · rw [if_pos h1]
    exact ⟨fun h => absurd h h1, fun h => absurd h.1 h1⟩
/-! ### posted -/
def getE (k : ByteArray) (E : List En) : Option En := E.find? fun y => decide (y.1 = k)
theorem getE_none {k : ByteArray} {E : List En} (h : getE k E = none) : ∀ y ∈ E, y.1 ≠ k := fun y hy => by
  have := List.find?_eq_none.1 h y hy
  simpa using this
theorem getE_some {k : ByteArray} {E : List En} {y : En} (h : getE k E = some y) : y ∈ E ∧ y.1 = k := by
  refine ⟨List.mem_of_find?_eq_some h, ?_⟩
  have := List.find?_some h
  simpa using this
def postE (A : List (ByteArray × Int)) (E : List En) (s : Int) (x : En) : Int :=
  if bkChk A E s ≠ 0 then bkChk A E s else if enX x ≠ 0 then enX x else match getE x.1 E with
  | some y => if y = x then 0 else 5
  | none => if knownB A x = false then 4 else if x.2.1 ≤ s then 9 else if E.length = 60 then 2 else 0
def postB (E : List En) (x : En) : List En := match getE x.1 E with
  | some _ => E
  | none => insE x E
theorem insE_len (x : En) (E : List En) : (insE x E).length = E.length + 1 := by
  have := posE_le x E
  unfold insE
  simp only [List.length_append, List.length_cons, List.length_take, List.length_drop]
  omega
theorem insE_perm (x : En) (E : List En) : (insE x E).Perm (x :: E) := by
  unfold insE
  refine List.perm_middle.trans ?_
  rw [List.take_append_drop]
theorem postE_ok {A : List (ByteArray × Int)} {E : List En} {s : Int} {x : En} (h : postE A E s x = 0) : bkChk A E s = 0 ∧ enX x = 0 ∧ bkChk A (postB E x) s = 0 := by
  unfold postE at h
  by_cases h1 : bkChk A E s = 0
  · rw [if_neg (fun hh => hh h1)] at h
    by_cases h2 : enX x = 0
    · rw [if_neg (fun hh => hh h2)] at h
      refine ⟨h1, h2, ?_⟩
      unfold postB
      split at h
      · rename_i y hy
        exact h1
      · rename_i hn
        cases h3 : knownB A x with
        | false => rw [if_pos h3] at h; omega
        | true =>
          rw [if_neg (by rw [h3]; simp)] at h
          by_cases h4 : x.2.1 ≤ s
          · rw [if_pos h4] at h; omega
          rw [if_neg h4] at h
          by_cases h5 : E.length = 60
          · rw [if_pos h5] at h; omega
          obtain ⟨g1, g2, g3, g4, g5, g6⟩ := bkChk_iff.1 h1
          have hno := getE_none hn
          refine bkChk_iff.2 ⟨g1, g2, by show (insE x E).length ≤ 60; rw [insE_len]; omega, fun y hy => ?_, ?_, insE_srt g6 hno⟩
          · rcases mem_insE.1 hy with rfl | hy
            · exact ⟨h2, h3⟩
            · exact g4 y hy
          · have hp : (keysE (insE x E)).Perm (x.1 :: keysE E) := (insE_perm x E).map (fun y : En => y.1)
            rw [hp.nodup_iff]
            refine List.nodup_cons.2 ⟨fun hm => ?_, g5⟩
            obtain ⟨y, hy, he⟩ := List.mem_map.1 hm
            exact hno y hy he
    · rw [if_pos h2] at h; exact absurd h h2
  · rw [if_pos h1] at h; exact absurd h h1
theorem ofB_ins (c : ByteArray) (f t : Int) (x : En) (E : List En) : ofB c f t (insE x E) = ofX c f t x + ofB c f t E := by
  unfold ofB insE
  have h : (E.map (ofX c f t)).sum = ((E.take (posE x E)).map (ofX c f t)).sum + ((E.drop (posE x E)).map (ofX c f t)).sum := by
    rw [← List.sum_append, ← List.map_append, List.take_append_drop]
  rw [List.map_append, List.map_cons, List.sum_append, List.sum_cons, h]
  omega
end Go.Acc
namespace Go.Acc
open Go
set_option linter.unusedVariables false
set_option linter.unusedSimpArgs false
def pos (n : Int) : Int := if 0 < n then n else 0
def neg (n : Int) : Int := if 0 < n then 0 else -n
def trD (E : List En) (day : Int) (A : List (ByteArray × Int)) : Int := (A.map fun a => pos (ofB a.1 0 day E)).sum
def trC (E : List En) (day : Int) (A : List (ByteArray × Int)) : Int := (A.map fun a => neg (ofB a.1 0 day E)).sum
def kdS (E : List En) (f t k : Int) (A : List (ByteArray × Int)) : Int := (A.map fun a => if a.2 = k then ofB a.1 f t E else 0).sum
theorem sum_take {α : Type} (g : α → Int) {l : List α} {k : Nat} {x : α} (h : l[k]? = some x) : ((l.take (k + 1)).map g).sum = ((l.take k).map g).sum + g x := by
  have hlt : k < l.length := (List.getElem?_eq_some_iff.1 h).1
  have he : l[k] = x := (List.getElem?_eq_some_iff.1 h).2
  rw [List.take_succ_eq_append_getElem hlt, he, List.map_append, List.sum_append]
  simp
theorem sum_bdk {α : Type} (g : α → Int) (M : Int) (hM : 0 ≤ M) {l : List α} (h : ∀ x, -M ≤ g x ∧ g x ≤ M) (n : Nat) (hl : l.length ≤ n) (k : Nat) : -(n * M) ≤ ((l.take k).map g).sum ∧ ((l.take k).map g).sum ≤ n * M := by
  have h1 := sum_bd g M hM (l.take k) fun x _ => h x
  have h2 : ((l.take k).length : Int) * M ≤ n * M := Int.mul_le_mul_of_nonneg_right (by rw [List.length_take]; omega) hM
  omega
theorem trD_bd {E : List En} (hE : ∀ x ∈ E, enX x = 0) (hl : E.length ≤ 60) (day : Int) {A : List (ByteArray × Int)} (hA : A.length ≤ 24) (k : Nat) : -17280000000000000 ≤ trD E day (A.take k) ∧ trD E day (A.take k) ≤ 17280000000000000 := by
  have := sum_bdk (fun a : ByteArray × Int => pos (ofB a.1 0 day E)) 720000000000000 (by omega) (l := A) (fun a => by have := ofB_bd a.1 0 day hE hl; unfold pos; split <;> omega) 24 hA k
  exact this
theorem trC_bd {E : List En} (hE : ∀ x ∈ E, enX x = 0) (hl : E.length ≤ 60) (day : Int) {A : List (ByteArray × Int)} (hA : A.length ≤ 24) (k : Nat) : -17280000000000000 ≤ trC E day (A.take k) ∧ trC E day (A.take k) ≤ 17280000000000000 := by
  have := sum_bdk (fun a : ByteArray × Int => neg (ofB a.1 0 day E)) 720000000000000 (by omega) (l := A) (fun a => by have := ofB_bd a.1 0 day hE hl; unfold neg; split <;> omega) 24 hA k
  exact this
theorem kdS_bd {E : List En} (hE : ∀ x ∈ E, enX x = 0) (hl : E.length ≤ 60) (f t i : Int) {A : List (ByteArray × Int)} (hA : A.length ≤ 24) (k : Nat) : -17280000000000000 ≤ kdS E f t i (A.take k) ∧ kdS E f t i (A.take k) ≤ 17280000000000000 := by
  have := sum_bdk (fun a : ByteArray × Int => if a.2 = i then ofB a.1 f t E else 0) 720000000000000 (by omega) (l := A) (fun a => by have := ofB_bd a.1 f t hE hl; split <;> omega) 24 hA k
  exact this
/-! ### the map of sums: its keys are accounts, each once -/
def keyed (A M : List (ByteArray × Int)) : Prop := (M.map (·.1)).Nodup ∧ ∀ p ∈ M, hasA A p.1 = true
theorem putM_keys (c : ByteArray) (v : Int) : ∀ M : List (ByteArray × Int), (c ∈ M.map (·.1) ∧ (putM c v M).map (·.1) = M.map (·.1)) ∨ (c ∉ M.map (·.1) ∧ (putM c v M).map (·.1) = M.map (·.1) ++ [c])
  | [] => .inr ⟨by simp, rfl⟩
  | p :: M => by
    unfold putM
    by_cases h : c = p.1
    · rw [if_pos h]; exact .inl ⟨by rw [h]; exact List.mem_cons_self, rfl⟩
    · rw [if_neg h]
      rcases putM_keys c v M with ⟨h1, h2⟩ | ⟨h1, h2⟩
      · exact .inl ⟨List.mem_cons_of_mem _ h1, by rw [List.map_cons, h2]; rfl⟩
      · exact .inr ⟨by simp only [List.map_cons, List.mem_cons, not_or]; exact ⟨h, h1⟩, by rw [List.map_cons, h2]; rfl⟩
theorem keyed_put {A M : List (ByteArray × Int)} (h : keyed A M) (c : ByteArray) (v : Int) (hc : hasA A c = true) : keyed A (putM c v M) := by
  have key : ∀ x, x ∈ M.map (·.1) → hasA A x = true := fun x hm => by
    obtain ⟨q, hq, he⟩ := List.mem_map.1 hm
    rw [← he]; exact h.2 q hq
  rcases putM_keys c v M with ⟨_, hk⟩ | ⟨hn, hk⟩
  · refine ⟨by rw [hk]; exact h.1, fun p hp => key _ ?_⟩
    rw [← hk]; exact List.mem_map.2 ⟨p, hp, rfl⟩
  · refine ⟨?_, fun p hp => ?_⟩
    · rw [hk, List.nodup_append]
      refine ⟨h.1, by simp, fun x hx y hy e => ?_⟩
      simp at hy
      subst hy; subst e
      exact hn hx
    · have hm : p.1 ∈ (putM c v M).map (·.1) := List.mem_map.2 ⟨p, hp, rfl⟩
      rw [hk] at hm
      rcases List.mem_append.1 hm with hm | hm
      · exact key _ hm
      · simp at hm
        rw [hm]; exact hc
theorem keyed_lines {A : List (ByteArray × Int)} : ∀ (l M : List (ByteArray × Int)), keyed A M → (∀ p ∈ l, hasA A p.1 = true) → keyed A (l.foldl addM M)
  | [], _, h, _ => h
  | p :: l, M, h, hl => keyed_lines l _ (keyed_put h _ _ (hl p List.mem_cons_self)) fun q hq => hl q (List.mem_cons_of_mem _ hq)
theorem keyed_fold {A : List (ByteArray × Int)} (f t : Int) : ∀ (E : List En) (M : List (ByteArray × Int)), keyed A M → (∀ x ∈ E, knownB A x = true) → keyed A (E.foldl (addE f t) M)
  | [], _, h, _ => h
  | x :: E, M, h, hE => by
    refine keyed_fold f t E _ ?_ fun y hy => hE y (List.mem_cons_of_mem _ hy)
    unfold addE
    split
    · refine keyed_lines _ _ h fun p hp => ?_
      have := hE x List.mem_cons_self
      unfold knownB at this
      exact List.all_eq_true.1 this p hp
    · exact h
theorem keyed_sums {A : List (ByteArray × Int)} (f t : Int) {E : List En} (hE : ∀ x ∈ E, knownB A x = true) : keyed A (sumsM f t E) := keyed_fold f t E [] ⟨List.nodup_nil, fun _ h => by cases h⟩ hE
/-! ### codes of accounts that may be: each once -/
theorem acE_codes : ∀ (A : List (ByteArray × Int)) (p : Option ByteArray), acE p A = 0 → (∀ a ∈ A, 0 ≤ a.2 ∧ a.2 ≤ 4) ∧ (A.map (·.1)).Nodup ∧ ∀ c, p = some c → ∀ a ∈ A, Op.bytesLess c.toList a.1.toList = true
  | [], _, _ => ⟨by simp, by simp, by simp⟩
  | (c, k) :: A, p, h => by
    unfold acE at h
    by_cases h1 : codeOk c = false
    · rw [if_pos h1] at h; omega
    rw [if_neg h1] at h
    by_cases h2 : ¬ (0 ≤ k ∧ k ≤ 4)
    · rw [if_pos h2] at h; omega
    rw [if_neg h2] at h
    obtain ⟨h, h3⟩ : acE (some c) A = 0 ∧ ∀ d, p = some d → Op.bytesLess d.toList c.toList = true := by
      cases p with
      | none => exact ⟨by simpa using h, fun d hd => by cases hd⟩
      | some d =>
        cases hb : Op.bytesLess d.toList c.toList with
        | true => exact ⟨by simpa [hb] using h, fun d' hd => by cases hd; exact hb⟩
        | false => simp [hb] at h
    obtain ⟨g1, g2, g3⟩ := acE_codes A (some c) h
    refine ⟨fun a ha => ?_, ?_, fun d hd a ha => ?_⟩
    · rcases List.mem_cons.1 ha with rfl | ha
      · exact Decidable.not_not.1 h2
      · exact g1 a ha
    · rw [List.map_cons, List.nodup_cons]
      refine ⟨fun hm => ?_, g2⟩
      obtain ⟨a, ha, he⟩ := List.mem_map.1 hm
      have := g3 c rfl a ha
      rw [he, lessB_irrefl] at this
      cases this
    · subst hd
      have hdc : Op.bytesLess d.toList c.toList = true := h3 d rfl
      rcases List.mem_cons.1 ha with rfl | ha
      · exact hdc
      · exact lessB_trans hdc (g3 c rfl a ha)
theorem acChk_codes {A : List (ByteArray × Int)} (h : acChk A = 0) : A.length ≤ 24 ∧ (∀ a ∈ A, 0 ≤ a.2 ∧ a.2 ≤ 4) ∧ (A.map (·.1)).Nodup := by
  unfold acChk at h
  by_cases h1 : 24 < A.length
  · rw [if_pos h1] at h; omega
  · rw [if_neg h1] at h
    obtain ⟨g1, g2, _⟩ := acE_codes A none h
    exact ⟨by omega, g1, g2⟩
/-! ### a sum over accounts is one over the map -/
theorem lookM_none {c : ByteArray} : ∀ {M : List (ByteArray × Int)}, c ∉ M.map (·.1) → lookM c M = none
  | [], _ => rfl
  | p :: M, h => by
    simp only [List.map_cons, List.mem_cons, not_or] at h
    unfold lookM
    rw [if_neg h.1, lookM_none h.2]
theorem sum_one (c : ByteArray) (x : Int) : ∀ A : List (ByteArray × Int), (A.map (·.1)).Nodup → hasA A c = true → (A.map fun a => if a.1 = c then x else 0).sum = x
  | [], _, h => by simp [hasA] at h
  | a :: A, hn, h => by
    rw [List.map_cons, List.nodup_cons] at hn
    rw [List.map_cons, List.sum_cons]
    by_cases hc : a.1 = c
    · rw [if_pos hc]
      have : (A.map fun a => if a.1 = c then x else 0).sum = 0 := by
        have h0 : ∀ B : List (ByteArray × Int), c ∉ B.map (·.1) → (B.map fun a => if a.1 = c then x else 0).sum = 0 := by
          intro B
          induction B with
          | nil => intro _; rfl
          | cons b B ih =>
            intro hb
            simp only [List.map_cons, List.mem_cons, not_or] at hb
            rw [List.map_cons, List.sum_cons, ih hb.2, if_neg (fun e => hb.1 e.symm)]; rfl
        exact h0 A (by rw [← hc]; exact hn.1)
      omega
    · rw [if_neg hc, sum_one c x A hn.2 (by
        unfold hasA at h ⊢
        rw [List.any_cons] at h
        have : isC c a = false := by unfold isC; simpa using hc
        rw [this, Bool.false_or] at h
        exact h)]
      omega
theorem sum_keys (g : Int → Int) (g0 : g 0 = 0) {A : List (ByteArray × Int)} (hA : (A.map (·.1)).Nodup) : ∀ M : List (ByteArray × Int), keyed A M → (M.map fun p => g p.2).sum = (A.map fun a => g ((lookM a.1 M).getD 0)).sum
  | [], _ => by
    have : ∀ B : List (ByteArray × Int), (B.map fun a => g ((lookM a.1 []).getD 0)).sum = 0 := by
      intro B
      induction B with
      | nil => rfl
      | cons b B ih => rw [List.map_cons, List.sum_cons, ih]; simp [lookM, g0]
    rw [this]; rfl
  | p :: M, h => by
    have hn := h.1
    rw [List.map_cons, List.nodup_cons] at hn
    have hM : keyed A M := ⟨hn.2, fun q hq => h.2 q (List.mem_cons_of_mem _ hq)⟩
    have hl := lookM_none hn.1
    rw [List.map_cons, List.sum_cons, sum_keys g g0 hA M hM]
    have h1 := sum_one p.1 (g p.2) A hA (h.2 p List.mem_cons_self)
    have : ∀ B : List (ByteArray × Int), (B.map fun a => g ((lookM a.1 (p :: M)).getD 0)).sum = (B.map fun a => if a.1 = p.1 then g p.2 else 0).sum + (B.map fun a => g ((lookM a.1 M).getD 0)).sum := by
      intro B
      induction B with
      | nil => rfl
      | cons b B ih =>
        simp only [List.map_cons, List.sum_cons]
        rw [ih]
        simp only [lookM]
        by_cases hb : b.1 = p.1
        · rw [if_pos hb, if_pos hb, hb, hl]
          simp only [Option.getD_some, Option.getD_none, g0]
          omega
        · rw [if_neg hb, if_neg hb]
          omega
    rw [this, h1]
theorem trD_map {A : List (ByteArray × Int)} {E : List En} {s : Int} (h : bkChk A E s = 0) (day : Int) : ((sumsM 0 day E).map fun p => pos p.2).sum = trD E day A := by
  obtain ⟨h1, _, _, h4⟩ := bkChk_ok h
  rw [sum_keys pos rfl (acChk_codes h1).2.2 _ (keyed_sums 0 day fun x hx => (h4 x hx).2)]
  unfold trD
  congr 1
  exact List.map_congr_left fun a _ => by rw [lookM_sums]
theorem trC_map {A : List (ByteArray × Int)} {E : List En} {s : Int} (h : bkChk A E s = 0) (day : Int) : ((sumsM 0 day E).map fun p => neg p.2).sum = trC E day A := by
  obtain ⟨h1, _, _, h4⟩ := bkChk_ok h
  rw [sum_keys neg rfl (acChk_codes h1).2.2 _ (keyed_sums 0 day fun x hx => (h4 x hx).2)]
  unfold trC
  congr 1
  exact List.map_congr_left fun a _ => by rw [lookM_sums]
/-! ### entries that a loop over a map has seen -/
def seenG (g : Int → Int) : List MapEntry → Array Nat → Int
  | [], _ => 0
  | x :: l, seen => (if seen.contains x.born then g (valOf x.val) else 0) + seenG g l seen
theorem seenG_none (g : Int → Int) : ∀ l : List MapEntry, seenG g l #[] = 0
  | [] => rfl
  | x :: l => by
    unfold seenG
    rw [seenG_none g l]
    simp
theorem seenG_other (g : Int → Int) (seen : Array Nat) (b : Nat) : ∀ (es : List MapEntry), b ∉ es.map (·.born) → seenG g es (seen.push b) = seenG g es seen
  | [], _ => rfl
  | x :: l, h => by
    simp only [List.map_cons, List.mem_cons, not_or] at h
    unfold seenG
    rw [seenG_other g seen b l h.2, Array.contains_push]
    have : (x.born == b) = false := by rw [beq_eq_false_iff_ne]; exact fun e => h.1 e.symm
    rw [this, Bool.or_false]
theorem seenG_push (g : Int → Int) (seen : Array Nat) (e : MapEntry) (hs : seen.contains e.born = false) : ∀ (es : List MapEntry), (es.map (·.born)).Nodup → e ∈ es → seenG g es (seen.push e.born) = seenG g es seen + g (valOf e.val)
  | [], _, h => by cases h
  | x :: l, hn, he => by
    rw [List.map_cons, List.nodup_cons] at hn
    unfold seenG
    rw [Array.contains_push]
    rcases List.mem_cons.1 he with rfl | he'
    · rw [seenG_other g seen e.born l hn.1, hs, beq_self_eq_true]
      simp only [Bool.or_true, if_true, Bool.false_eq_true, if_false]
      omega
    · have hne : (x.born == e.born) = false := by
        rw [beq_eq_false_iff_ne]
        intro eq
        exact hn.1 (List.mem_map.2 ⟨e, he', eq.symm⟩)
      rw [seenG_push g seen e hs l hn.2 he', hne, Bool.or_false]
      omega
theorem seenG_le (g : Int → Int) (hg : ∀ n, 0 ≤ g n) (seen : Array Nat) : ∀ es : List MapEntry, 0 ≤ seenG g es seen ∧ seenG g es seen ≤ (es.map fun e => g (valOf e.val)).sum
  | [] => by simp [seenG]
  | x :: l => by
    have := seenG_le g hg seen l
    have := hg (valOf x.val)
    unfold seenG
    rw [List.map_cons, List.sum_cons]
    split <;> omega
theorem seenG_all (g : Int → Int) (es : Array MapEntry) (seen : Array Nat) (h : (leftOf es seen).size = 0) : seenG g es.toList seen = (es.toList.map fun e => g (valOf e.val)).sum := by
  have hall : ∀ e ∈ es.toList, seen.contains e.born = true := fun e he => by
    cases hc : seen.contains e.born with
    | true => rfl
    | false =>
      exfalso
      have hm : e ∈ leftOf es seen := by
        unfold leftOf
        rw [Array.mem_filter]
        exact ⟨Array.mem_toList_iff.1 he, by rw [hc]; rfl⟩
      have := Array.size_pos_of_mem hm
      omega
  have key : ∀ l : List MapEntry, (∀ e ∈ l, seen.contains e.born = true) → seenG g l seen = (l.map fun e => g (valOf e.val)).sum := by
    intro l
    induction l with
    | nil => intro _; rfl
    | cons x l ih =>
      intro hl
      unfold seenG
      rw [hl x List.mem_cons_self, if_pos rfl, ih fun e he => hl e (List.mem_cons_of_mem _ he)]
      rfl
  exact key _ hall
/-- a map's entries as codes and sums -/
theorem entries_vals (g : Int → Int) (M : List (ByteArray × Int)) : ∀ (es : List MapEntry), es.map (fun e => (some e.key, some e.val)) = M.map (fun p => (some (Value.string p.1), some (Value.int .i64 p.2))) →
    (es.map fun e => g (valOf e.val)).sum = (M.map fun p => g p.2).sum ∧ ∀ e ∈ es, ∃ n, e.val = .int .i64 n := by
  induction M with
  | nil => intro es h; simp at h; subst h; simp
  | cons p M ih =>
    intro es h
    match es, h with
    | e :: es, h =>
      simp only [List.map_cons, List.cons.injEq, Prod.mk.injEq, Option.some.injEq] at h
      obtain ⟨⟨h1, h2⟩, h3⟩ := h
      obtain ⟨i1, i2⟩ := ih es h3
      refine ⟨?_, fun x hx => ?_⟩
      · rw [List.map_cons, List.map_cons, List.sum_cons, List.sum_cons, i1, h2]
        rfl
      · rcases List.mem_cons.1 hx with rfl | hx
        · exact ⟨p.2, h2⟩
        · exact i2 x hx
end Go.Acc
namespace Go.Proofs.YtdmkmbaaemhhhaaDoor
open Go Go.Ev Go.RowKit Go.Acc
set_option maxHeartbeats 4000000
set_option linter.unusedSimpArgs false
set_option linter.unusedVariables false
attribute [local go_sem] mutV getB mvB bkB V.mv V.mvL V.bk V.bkL Blk.mv Blk.bk posN nmN backN noDup app_writes setHL_nil setHL_cons postM_ret postM_normal resM hasB_nil hasB_cons St.mut names_nil names_cons sortV cellOf mkX_M mkX_S mkX_ln lnL_at ms0_mt ms0_st V.lone V.loneL List.zip_cons_cons List.zip_nil_left Option.isNone_none bornV subE partR unB bytesW boundsV ownP sliceW copyV clearV lenM takeV tk1 mapsV mkMapV hintOk lookV updV mapKE keyOk V.key app_lend callW_fn lendV postL_ret postL_normal postT_ret postT_normal takeR St.lent mkX_L bin_eql_vz bin_eql_zv bin_eql_rz bin_eql_zr bin_eql_zz bin_neq_vz bin_neq_zv bin_neq_rz bin_neq_zr bin_neq_zz eqH nilEq nonE plainI gOf_bool gOf_skip g_some g_none Int.ofNat_zero Int.cast_ofNat_Int Bool.false_and Bool.and_false sliceV noBox elemsZ V.scrub V.scrubL Blk.scrub appendV isSlice maxLen_eq leT List.contains_nil List.contains_cons nvL_at fzL_at fillV V.plain V.plainL Blk.plain List.size_toArray mapO_nil mapO_cons Option.isNone_some beqT beqF oI_not mkX_e phi_nil phi_cons bin_eql_bool bin_neq_bool bin_eql_agg bin_neq_agg eqV eqFs eqK_int eqK_bool' eqK_str mkX_T mkX_Φ mkX_n mkX_f mkX_d mkX_r nv0_at fz0_at evQ_dr evP_W evW_nil evW_cons evW_guard okW_eq tame_none tame_new tame_write wb_none wb_new wb_write okU_some offW_none offW_some touchOf V.noRef V.noRefL Option.isSome_some Option.isSome_none mild_none mild_new Option.getD_some Option.getD_none evQ_seq evQ_region evQ_block evQ_cond evQ_ret evQ_skip evQ_exit evO_cons evO_nil evO_guard freezeL_nil oS_some oS_none oS_ite oS_ite' oB_bool oI_true oI_false oE_normal oE_exit oE_ret bQ_normal bQ_ret bQ_exit lQ_normal lQ_ret lQ_exit List.zipIdx_cons List.zipIdx_nil List.map_cons List.map_nil evalOp opd_const opd_tmp opd_func ofC_int ofC_bool ofC_str ofC_nil app_none app_new app_write app_change putE_some putE_none setA_cons setA_nil setH_cons setH_nil mapA_cons mapA_nil look_cons look_nil e_mk h_mk drop_nil drop_mk keep_mk dstOk_some dstOk_none guardT_eq true_and and_true Bool.not_false Bool.not_true selB_true selB_false mem_nil mem_cons kpL_nil kpL_cons drL_nil drL_cons closed_mk V.refsIn V.refsInL Blk.refsIn List.all_cons List.all_nil lenV bin_add bin_sub bin_mul bin_quo bin_rem bin_eql bin_neq bin_lss bin_leq bin_gtr bin_geq un_neg un_not post_ret post_normal St.init Bool.false_eq_true List.length_map Bool.or_false Bool.or_true Bool.false_or Bool.true_or beq_self_eq_true Option.map_some Option.map_none Option.bind_some List.getElem?_cons_zero List.getElem?_cons_succ scalar stor isAggV V.cells List.cons_append List.nil_append if_true if_false wrap_of callV V.dataL V.data Bool.and_true Bool.true_and fresh names V.ren V.renL retV resV packL packV packC getBlks wrapR subV putV decide_true decide_false TK.agg List.length_cons List.length_nil List.take_succ_cons List.take_zero List.drop_succ_cons List.drop_zero List.take_nil List.drop_nil Nat.zero_add Nat.add_zero List.append_nil List.getElem?_nil elemsV ro ro0 ro1 roC ty1 ty2 ty3 ty4 ty5 ty6 ty7 ty8 ty9 ty10 ty11 ty12 ty13 ty14 ty15 ty16 ty17 ty18 ty19 ty21 ty22 ty23 ty24 ty26 ty27 ty28 ty29 ty30 ty31 ty32 ty33 ty34 ty35 ty36 ty37 ty38 ty39 ty40 ty41 ty42 ty44 ty45 ty47 ty49 ty51 ty53 ty54 ty55 ty56 ty57 ty58 ty59 ty60 ty61 ty62 ty63 ty64 ty65 ty66 ty67 ty68 ty69 ty70 ty71 ty72 ty73 ty74 ty75 ty76 ty77 ty78 ty79 ty80 ty81 ty82 ty83 ty84 ty85 ty86 ty87 ty88 ty89 ty90 ty92 ty93 ty94 ty95 ty96 ty97 ty98 ty99 ty100 ty101 ty102 ty103 ty104 ty105 ty107 ty108 ty109 ty110 ty111 ty112 ty113 ty114 ty115 ty116 ty117 ty118 ty119 ty123 ty124 ty125 ty126 ty127 ty128 ty129 ty130 ty131 ty132 ty133 ty135 ty136 ty137 ty138 ty139 ty141 ty142 ty143 ty144 ty146 ty147 ty148 ty149 ty153 ty154 ty155 ty156 ty157 ty158 ty159 ty160 ty161 eqs29 eqs61 eqs79 eqs94
/-- contracts at a family of arguments -/
theorem fam_ex {P : Program} {J : World → Prop} {f : FuncId} {α : Type} (a : α → List V) (r : α → V × List Ev.Blk) (hi : ∀ i j, a i = a j → r i = r j) (h : ∀ i, SoundAt P J f (a i) (r i).1 (r i).2) :
    ∃ F : List V → Option (V × List Ev.Blk), (∀ i, F (a i) = some (r i)) ∧ Snd P J f F := by
  refine ⟨fun x => open Classical in if h : ∃ i, a i = x then some (r h.choose) else none, fun i => ?_, fun args r' bs h' => ?_⟩
  · have hx : ∃ j, a j = a i := ⟨i, rfl⟩
    simp only [dif_pos hx]
    rw [hi _ _ hx.choose_spec]
  · by_cases hx : ∃ i, a i = args
    · simp only [dif_pos hx] at h'
      have e := Option.some.inj h'
      have := h hx.choose
      rw [e, hx.choose_spec] at this
      exact this
    · simp only [dif_neg hx] at h'
      cases h'
def tlookE (A : List (ByteArray × Int)) (E : List En) (s : Int) (day : Int) : Int := if bkChk A E s ≠ 0 then bkChk A E s else if 0 ≤ day ∧ day ≤ 292193 then 0 else 1
theorem tlook_sound {J : World → Prop} (hJ : Stable J) (A : List (ByteArray × Int)) (E : List En) (s : Int) (day : Int) (hE : E.length ≤ maxLen) : SoundAt Tryd.prog J 46 [bkV A E s, .int .i64 day] (.int .i64 (tlookE A E s day)) [] := by
  have hB := bcheck_sound hJ A E s hE
  unfold bkV at hB ⊢
  refine evFn (l := [(20, at1 _ (.int .i64 (bkChk A E s), [])), (21, dayF)]) (nv := nv0) (fz := fz0) (dr := dr46) (dd := dd46) (lam := []) (ms := ms0) ⟨at1_snd hB, is_snd hJ, trivial⟩ hJ trivial ms0_ok Tryd.func46 rfl rfl (Nat.le_of_ble_eq_true rfl) (Nat.le_of_ble_eq_true rfl) drOk46 ?_
  dsimp only [Tryd.f46, dr46, dd46, Option.getD_some]
  refine ev_start ?_
  by_cases hz : bkChk A E s = 0
  · by_cases hd : 0 ≤ day ∧ day ≤ 292193
    · have e1 : tlookE A E s day = 0 := by unfold tlookE; rw [if_neg (fun h => h hz), if_pos hd]
      have hd' := decide_eq_true hd
      simp (disch := omega) only [at1_eq, dayF_eq, hz, hd', e1, go_sem, Int.reduceEq, Int.reduceLT, Int.reduceLE, Int.reduceNeg, Nat.reduceAdd, Nat.reduceLT, Nat.reduceEqDiff, Nat.reduceMul, Nat.reduceLeDiff, reduceIte, Nat.reduceBEq, reduceCtorEq, evP_D, evD_guard, evD_cons, evD_zero, evD_nil]
    · have e1 : tlookE A E s day = 1 := by unfold tlookE; rw [if_neg (fun h => h hz), if_neg hd]
      have hd' := decide_eq_false hd
      simp (disch := omega) only [at1_eq, dayF_eq, hz, hd', e1, go_sem, Int.reduceEq, Int.reduceLT, Int.reduceLE, Int.reduceNeg, Nat.reduceAdd, Nat.reduceLT, Nat.reduceEqDiff, Nat.reduceMul, Nat.reduceLeDiff, reduceIte, Nat.reduceBEq, reduceCtorEq, evP_D, evD_guard, evD_cons, evD_zero, evD_nil]
  · have e1 : tlookE A E s day = bkChk A E s := by unfold tlookE; rw [if_pos hz]
    simp (disch := omega) only [at1_eq, hz, e1, go_sem, Int.reduceEq, Int.reduceLT, Int.reduceLE, Int.reduceNeg, Nat.reduceAdd, Nat.reduceLT, Nat.reduceEqDiff, Nat.reduceMul, Nat.reduceLeDiff, reduceIte, Nat.reduceBEq, reduceCtorEq, evP_D, evD_guard, evD_cons, evD_zero, evD_nil]
theorem of_ex {J : World → Prop} (hJ : Stable J) (A : List (ByteArray × Int)) (E : List En) (s : Int) (f t : Int) (hE : ∀ x ∈ E, enX x = 0) (hl : E.length ≤ 60) :
    ∃ F : List V → Option (V × List Ev.Blk), (∀ c : ByteArray, F [.agg [.row 2 (A.map acV), .row 3 (E.map enW), .int .i64 s], .str c, .int .i64 f, .int .i64 t] = some (.int .i64 (ofB c f t E), [])) ∧ Snd Tryd.prog J 42 F :=
  fam_ex (fun c : ByteArray => [bkV A E s, .str c, .int .i64 f, .int .i64 t]) (fun c => (.int .i64 (ofB c f t E), [])) (fun i j h => by
    simp only [List.cons.injEq, V.str.injEq, true_and, and_true] at h
    rw [h]) fun c => of_sound hJ A E s c f t hE hl
set_option maxHeartbeats 4000000 in
theorem trial_sound {J : World → Prop} (hJ : Stable J) (A : List (ByteArray × Int)) (E : List En) (s : Int) (day : Int) (hE : E.length ≤ maxLen) :
    SoundAt Tryd.prog J 17 [bkV A E s, .int .i64 day] (.tup [.int .i64 (if tlookE A E s day = 0 then trD E day A else 0), .int .i64 (if tlookE A E s day = 0 then trC E day A else 0), .int .i64 (tlookE A E s day)]) [] := by
  have hL := tlook_sound hJ A E s day hE
  unfold bkV at hL ⊢
  by_cases hz : tlookE A E s day = 0
  case neg =>
    refine evFn (l := [(46, at1 _ (.int .i64 (tlookE A E s day), []))]) (nv := nv0) (fz := fz0) (dr := dr17) (dd := dd17) (lam := []) (ms := ms0) ⟨at1_snd hL, trivial⟩ hJ trivial ms0_ok Tryd.func17 rfl rfl (Nat.le_of_ble_eq_true rfl) (Nat.le_of_ble_eq_true rfl) drOk17 ?_
    dsimp only [Tryd.f17, dr17, dd17, Option.getD_some]
    refine ev_start ?_
    simp (disch := omega) only [at1_eq, hz, if_false, go_sem, Int.reduceEq, Int.reduceLT, Int.reduceLE, Int.reduceNeg, Nat.reduceAdd, Nat.reduceLT, Nat.reduceEqDiff, Nat.reduceMul, Nat.reduceLeDiff, reduceIte, Nat.reduceBEq, reduceCtorEq, evP_D, evD_guard, evD_cons, evD_zero, evD_nil]
  have hc : bkChk A E s = 0 := by
    unfold tlookE at hz
    by_cases h : bkChk A E s = 0
    · exact h
    · rw [if_pos h] at hz; exact hz
  obtain ⟨h1, _, h3, h4⟩ := bkChk_ok hc
  have hEn : ∀ x ∈ E, enX x = 0 := fun x hx => (h4 x hx).1
  have hA24 := (acChk_codes h1).1
  obtain ⟨OF, hOF, hOFs⟩ := of_ex hJ A E s 0 day hEn h3
  refine evFn (l := [(46, at1 _ (.int .i64 (tlookE A E s day), [])), (42, OF)]) (nv := nv0) (fz := fz0) (dr := dr17) (dd := dd17) (lam := []) (ms := ms0) ⟨at1_snd hL, hOFs, trivial⟩ hJ trivial ms0_ok Tryd.func17 rfl rfl (Nat.le_of_ble_eq_true rfl) (Nat.le_of_ble_eq_true rfl) drOk17 ?_
  dsimp only [Tryd.f17, dr17, dd17, Option.getD_some]
  refine ev_start ?_
  rw [if_pos hz, if_pos hz]
  simp (disch := omega) only [at1_eq, hz, List.length_map, go_sem, Int.reduceEq, Int.reduceLT, Int.reduceLE, Int.reduceNeg, Nat.reduceAdd, Nat.reduceLT, Nat.reduceEqDiff, Nat.reduceMul, Nat.reduceLeDiff, reduceIte, Nat.reduceBEq, reduceCtorEq, evP_D, evD_guard, evD_cons, evD_zero, evD_nil]
  refine evQ_loop [1, 2, 8, 9, 20, 21, 22] [16] (fun σ => ∃ (k : Nat), k ≤ A.length ∧ σ = ⟨[(1, .int .i64 day), (2, .ptr 16 0), (8, .int .i64 (trD E day (A.take k))), (9, .int .i64 (trC E day (A.take k))), (20, .row 2 (A.map acV)), (21, .int .i64 A.length), (22, .int .i64 k)], [(16, .box (.agg [.row 2 (A.map acV), .row 3 (E.map enW), .int .i64 s]))]⟩)
    (fun σ => A.length - (match Ev.look 22 σ.env with | some (.int _ n) => n.toNat | _ => 0)) ?_ ?_
  · simp only [go_sem, Int.reduceEq, Int.reduceLT, Int.reduceLE, Int.reduceNeg, Nat.reduceAdd, Nat.reduceLT, Nat.reduceEqDiff, Nat.reduceMul, Nat.reduceLeDiff, reduceIte, Nat.reduceBEq, reduceCtorEq, evP_D, evD_guard, evD_cons, evD_zero, evD_nil]
    exact ⟨0, Nat.zero_le _, rfl⟩
  · rintro σ ⟨k, hkl, rfl⟩
    by_cases hlt : k < A.length
    · have hlt' : (k : Int) < A.length := by omega
      obtain ⟨⟨c, kd⟩, hcn⟩ : ∃ p, A[k]? = some p := ⟨_, List.getElem?_eq_getElem hlt⟩
      have hg := acV_get hcn
      have hD : trD E day (A.take (k + 1)) = trD E day (A.take k) + pos (ofB c 0 day E) := sum_take (fun a : ByteArray × Int => pos (ofB a.1 0 day E)) hcn
      have hC : trC E day (A.take (k + 1)) = trC E day (A.take k) + neg (ofB c 0 day E) := sum_take (fun a : ByteArray × Int => neg (ofB a.1 0 day E)) hcn
      have bD := trD_bd hEn h3 day hA24 k
      have bC := trC_bd hEn h3 day hA24 k
      have bO := ofB_bd c 0 day hEn h3
      have hms : A.length - ((k : Int) + 1).toNat < A.length - (k : Int).toNat := by
        have e3 : ((k : Int) + 1).toNat = k + 1 := by omega
        rw [e3, Int.toNat_natCast]; exact Nat.sub_lt_sub_left hlt (Nat.lt_succ_self k)
      by_cases hp : 0 < ofB c 0 day E
      · have e1 : pos (ofB c 0 day E) = ofB c 0 day E := if_pos hp
        have e2 : neg (ofB c 0 day E) = 0 := if_pos hp
        rw [e1] at hD
        rw [e2, Int.add_zero] at hC
        simp (disch := (first | omega | assumption)) only [hlt', idx_nat, List.length_map, hg, hOF, hp, go_sem, Int.reduceEq, Int.reduceLT, Int.reduceLE, Int.reduceNeg, Nat.reduceAdd, Nat.reduceLT, Nat.reduceEqDiff, Nat.reduceMul, Nat.reduceLeDiff, reduceIte, Nat.reduceBEq, reduceCtorEq, evP_D, evD_guard, evD_cons, evD_zero, evD_nil]
        exact ⟨⟨k + 1, hlt, by rw [hD, hC]; rfl⟩, hms⟩
      · have e1 : pos (ofB c 0 day E) = 0 := if_neg hp
        have e2 : neg (ofB c 0 day E) = - ofB c 0 day E := if_neg hp
        rw [e1, Int.add_zero] at hD
        rw [e2] at hC
        simp (disch := (first | omega | assumption)) only [hlt', idx_nat, List.length_map, hg, hOF, hp, go_sem, Int.reduceEq, Int.reduceLT, Int.reduceLE, Int.reduceNeg, Nat.reduceAdd, Nat.reduceLT, Nat.reduceEqDiff, Nat.reduceMul, Nat.reduceLeDiff, reduceIte, Nat.reduceBEq, reduceCtorEq, evP_D, evD_guard, evD_cons, evD_zero, evD_nil]
        exact ⟨⟨k + 1, hlt, by rw [hD, hC, ← Int.sub_eq_add_neg]; rfl⟩, hms⟩
    · have hk' : k = A.length := by omega
      subst hk'
      have hlt' : ¬ ((A.length : Int) < A.length) := by omega
      simp (disch := (first | omega | assumption)) only [hlt', hz, List.take_length, go_sem, Int.reduceEq, Int.reduceLT, Int.reduceLE, Int.reduceNeg, Nat.reduceAdd, Nat.reduceLT, Nat.reduceEqDiff, Nat.reduceMul, Nat.reduceLeDiff, reduceIte, Nat.reduceBEq, reduceCtorEq, evP_D, evD_guard, evD_cons, evD_zero, evD_nil]
end Go.Proofs.YtdmkmbaaemhhhaaDoor
namespace Go.Acc
open Go
def digB (n : Nat) : ByteArray := (⟨#[48, 49, 50, 51, 52, 53, 54, 55, 56, 57]⟩ : ByteArray).extract n (n + 1)
def decF : Nat → Nat → ByteArray
  | 0, n => digB n
  | k + 1, n => if n < 10 then digB n else decF k (n / 10) ++ digB (n % 10)
theorem decF_lt (k : Nat) {n : Nat} (h : n < 10) : decF k n = digB n := by
  cases k with
  | zero => rfl
  | succ k => unfold decF; rw [if_pos h]
theorem digB_size {n : Nat} (h : n < 10) : (digB n).size = 1 := by
  unfold digB
  rw [ByteArray.size_extract]
  have : (⟨#[48, 49, 50, 51, 52, 53, 54, 55, 56, 57]⟩ : ByteArray).size = 10 := rfl
  omega
theorem decF_size : ∀ (k n : Nat), n < 10 ^ (k + 1) → (decF k n).size ≤ k + 1
  | 0, n, h => by
    have h10 : n < 10 := by simpa using h
    show (digB n).size ≤ 1
    rw [digB_size h10]
    exact Nat.le_refl _
  | k + 1, n, h => by
    unfold decF
    split
    · rename_i h10; rw [digB_size h10]; omega
    · have h1 : n / 10 < 10 ^ (k + 1) := by rw [Nat.div_lt_iff_lt_mul (by omega)]; rw [Nat.pow_succ] at h; exact h
      have := decF_size k (n / 10) h1
      rw [ByteArray.size_append, digB_size (Nat.mod_lt _ (by omega))]
      omega
end Go.Acc
namespace Go.Proofs.YtdmkmbaaemhhhaaDoor
open Go Go.Ev Go.RowKit Go.Acc
set_option maxHeartbeats 4000000
set_option linter.unusedSimpArgs false
set_option linter.unusedVariables false
attribute [local go_sem] mutV getB mvB bkB V.mv V.mvL V.bk V.bkL Blk.mv Blk.bk posN nmN backN noDup app_writes setHL_nil setHL_cons postM_ret postM_normal resM hasB_nil hasB_cons St.mut names_nil names_cons sortV cellOf mkX_M mkX_S mkX_ln lnL_at ms0_mt ms0_st V.lone V.loneL List.zip_cons_cons List.zip_nil_left Option.isNone_none bornV subE partR unB bytesW boundsV ownP sliceW copyV clearV lenM takeV tk1 mapsV mkMapV hintOk lookV updV mapKE keyOk V.key app_lend callW_fn lendV postL_ret postL_normal postT_ret postT_normal takeR St.lent mkX_L bin_eql_vz bin_eql_zv bin_eql_rz bin_eql_zr bin_eql_zz bin_neq_vz bin_neq_zv bin_neq_rz bin_neq_zr bin_neq_zz eqH nilEq nonE plainI gOf_bool gOf_skip g_some g_none Int.ofNat_zero Int.cast_ofNat_Int Bool.false_and Bool.and_false sliceV noBox elemsZ V.scrub V.scrubL Blk.scrub appendV isSlice maxLen_eq leT List.contains_nil List.contains_cons nvL_at fzL_at fillV V.plain V.plainL Blk.plain List.size_toArray mapO_nil mapO_cons Option.isNone_some beqT beqF oI_not mkX_e phi_nil phi_cons bin_eql_bool bin_neq_bool bin_eql_agg bin_neq_agg eqV eqFs eqK_int eqK_bool' eqK_str mkX_T mkX_Φ mkX_n mkX_f mkX_d mkX_r nv0_at fz0_at evQ_dr evP_W evW_nil evW_cons evW_guard okW_eq tame_none tame_new tame_write wb_none wb_new wb_write okU_some offW_none offW_some touchOf V.noRef V.noRefL Option.isSome_some Option.isSome_none mild_none mild_new Option.getD_some Option.getD_none evQ_seq evQ_region evQ_block evQ_cond evQ_ret evQ_skip evQ_exit evO_cons evO_nil evO_guard freezeL_nil oS_some oS_none oS_ite oS_ite' oB_bool oI_true oI_false oE_normal oE_exit oE_ret bQ_normal bQ_ret bQ_exit lQ_normal lQ_ret lQ_exit List.zipIdx_cons List.zipIdx_nil List.map_cons List.map_nil evalOp opd_const opd_tmp opd_func ofC_int ofC_bool ofC_str ofC_nil app_none app_new app_write app_change putE_some putE_none setA_cons setA_nil setH_cons setH_nil mapA_cons mapA_nil look_cons look_nil e_mk h_mk drop_nil drop_mk keep_mk dstOk_some dstOk_none guardT_eq true_and and_true Bool.not_false Bool.not_true selB_true selB_false mem_nil mem_cons kpL_nil kpL_cons drL_nil drL_cons closed_mk V.refsIn V.refsInL Blk.refsIn List.all_cons List.all_nil lenV bin_add bin_sub bin_mul bin_quo bin_rem bin_eql bin_neq bin_lss bin_leq bin_gtr bin_geq un_neg un_not post_ret post_normal St.init Bool.false_eq_true List.length_map Bool.or_false Bool.or_true Bool.false_or Bool.true_or beq_self_eq_true Option.map_some Option.map_none Option.bind_some List.getElem?_cons_zero List.getElem?_cons_succ scalar stor isAggV V.cells List.cons_append List.nil_append if_true if_false wrap_of callV V.dataL V.data Bool.and_true Bool.true_and fresh names V.ren V.renL retV resV packL packV packC getBlks wrapR subV putV decide_true decide_false TK.agg List.length_cons List.length_nil List.take_succ_cons List.take_zero List.drop_succ_cons List.drop_zero List.take_nil List.drop_nil Nat.zero_add Nat.add_zero List.append_nil List.getElem?_nil elemsV ro ro0 ro1 roC ty1 ty2 ty3 ty4 ty5 ty6 ty7 ty8 ty9 ty10 ty11 ty12 ty13 ty14 ty15 ty16 ty17 ty18 ty19 ty21 ty22 ty23 ty24 ty26 ty27 ty28 ty29 ty30 ty31 ty32 ty33 ty34 ty35 ty36 ty37 ty38 ty39 ty40 ty41 ty42 ty44 ty45 ty47 ty49 ty51 ty53 ty54 ty55 ty56 ty57 ty58 ty59 ty60 ty61 ty62 ty63 ty64 ty65 ty66 ty67 ty68 ty69 ty70 ty71 ty72 ty73 ty74 ty75 ty76 ty77 ty78 ty79 ty80 ty81 ty82 ty83 ty84 ty85 ty86 ty87 ty88 ty89 ty90 ty92 ty93 ty94 ty95 ty96 ty97 ty98 ty99 ty100 ty101 ty102 ty103 ty104 ty105 ty107 ty108 ty109 ty110 ty111 ty112 ty113 ty114 ty115 ty116 ty117 ty118 ty119 ty123 ty124 ty125 ty126 ty127 ty128 ty129 ty130 ty131 ty132 ty133 ty135 ty136 ty137 ty138 ty139 ty141 ty142 ty143 ty144 ty146 ty147 ty148 ty149 ty153 ty154 ty155 ty156 ty157 ty158 ty159 ty160 ty161 eqs29 eqs61 eqs79 eqs94
theorem bin_add_str {x y : ByteArray} (h : ((x.size + y.size : Nat) : Int) ≤ 9223372036854775807) : binV .add (.str x) (.str y) = some (.str (x ++ y)) := by
  unfold binV
  exact if_pos (by omega)
theorem dec_small {J : World → Prop} (hJ : Stable J) (n : Nat) (h : n < 10) : SoundAt Tryd.prog J 34 [.int .i64 n] (.str (digB n)) [] := by
  have h0 : ¬ (n : Int) < 0 := by omega
  have h1 : (n : Int) < 10 := by omega
  have hs : ByteArray.size (⟨#[48, 49, 50, 51, 52, 53, 54, 55, 56, 57]⟩ : ByteArray) = 10 := rfl
  have e1 : ((n : Int)).toNat = n := by omega
  have e2 : ((n : Int) + 1).toNat = n + 1 := by omega
  have c1 : (n : Int) + 1 ≤ 10 := by omega
  have c2 : (n : Int) ≤ ((n + 1 : Nat) : Int) := by omega
  have c3 : 0 ≤ (n : Int) + 1 := by omega
  have c4 : 0 ≤ (n : Int) := by omega
  have hd : digB n = (⟨#[48, 49, 50, 51, 52, 53, 54, 55, 56, 57]⟩ : ByteArray).extract n (n + 1) := rfl
  rw [hd]
  refine evFn (l := []) (nv := nv0) (fz := fz0) (dr := dr34) (dd := dd34) (lam := []) (ms := ms0) trivial hJ trivial ms0_ok Tryd.func34 rfl rfl (Nat.le_of_ble_eq_true rfl) (Nat.le_of_ble_eq_true rfl) drOk34 ?_
  dsimp only [Tryd.f34, dr34, dd34, Option.getD_some]
  refine ev_start ?_
  simp (disch := omega) only [h0, h1, hs, c1, c2, c3, c4, e1, e2, and_self, go_sem, Int.reduceEq, Int.reduceLT, Int.reduceLE, Int.reduceNeg, Nat.reduceAdd, Nat.reduceLT, Nat.reduceEqDiff, Nat.reduceMul, Nat.reduceLeDiff, reduceIte, Nat.reduceBEq, reduceCtorEq, evP_D, evD_guard, evD_cons, evD_zero, evD_nil]
theorem dec_nat {J : World → Prop} (hJ : Stable J) : ∀ (k n : Nat), n < 10 ^ (k + 1) → k ≤ 18 → (n : Int) ≤ 9223372036854775807 → SoundAt Tryd.prog J 34 [.int .i64 n] (.str (decF k n)) []
  | 0, n, h, _, _ => dec_small hJ n (by simpa using h)
  | k + 1, n, h, hk, hn => by
    by_cases h10 : n < 10
    · rw [decF_lt _ h10]; exact dec_small hJ n h10
    obtain ⟨DF, hDF, hDFs⟩ := fam_ex (f := 34) (fun m : { m : Nat // m < 10 ^ (k + 1) ∧ (m : Int) ≤ 9223372036854775807 } => [V.int .i64 (m.1 : Int)]) (fun m => (V.str (decF k m.1), [])) (fun i j hij => by
      simp only [List.cons.injEq, V.int.injEq, true_and, and_true] at hij
      have : i.1 = j.1 := by omega
      rw [this]) (fun m => dec_nat hJ k m.1 m.2.1 (by omega) m.2.2)
    have hq : (n : Int).tdiv 10 = ((n / 10 : Nat) : Int) := rfl
    have hr : (n : Int).tmod 10 = ((n % 10 : Nat) : Int) := rfl
    have d1 : n / 10 < 10 ^ (k + 1) := by rw [Nat.div_lt_iff_lt_mul (by omega)]; rw [Nat.pow_succ] at h; exact h
    have hp : 10 ≤ 10 ^ (k + 1) := by rw [Nat.pow_succ]; have : 0 < 10 ^ k := Nat.pow_pos (by omega); omega
    have m1 := Nat.mod_lt n (show 0 < 10 by omega)
    have f1 := hDF ⟨n / 10, d1, by omega⟩
    have f2 := hDF ⟨n % 10, by omega, by omega⟩
    simp only [decF_lt k m1] at f1 f2
    have s1 := decF_size k (n / 10) d1
    have s2 := digB_size m1
    have e : decF (k + 1) n = decF k (n / 10) ++ digB (n % 10) := by rw [decF]; exact if_neg h10
    have h0 : ¬ (n : Int) < 0 := by omega
    have h1 : ¬ (n : Int) < 10 := by omega
    have w1 : IntKind.i64.wrap ((n / 10 : Nat) : Int) = ((n / 10 : Nat) : Int) := by rw [IntKind.wrap_i64]; omega
    rw [e]
    generalize n / 10 = Q at *
    generalize n % 10 = R at *
    refine evFn (l := [(34, DF)]) (nv := nv0) (fz := fz0) (dr := dr34) (dd := dd34) (lam := []) (ms := ms0) ⟨hDFs, trivial⟩ hJ trivial ms0_ok Tryd.func34 rfl rfl (Nat.le_of_ble_eq_true rfl) (Nat.le_of_ble_eq_true rfl) drOk34 ?_
    dsimp only [Tryd.f34, dr34, dd34, Option.getD_some]
    refine ev_start ?_
    simp (disch := omega) only [h0, h1, hq, hr, w1, f1, f2, bin_add_str, go_sem, Int.reduceEq, Int.reduceLT, Int.reduceLE, Int.reduceNeg, Nat.reduceAdd, Nat.reduceLT, Nat.reduceEqDiff, Nat.reduceMul, Nat.reduceLeDiff, reduceIte, Nat.reduceBEq, reduceCtorEq, evP_D, evD_guard, evD_cons, evD_zero, evD_nil]
end Go.Proofs.YtdmkmbaaemhhhaaDoor
namespace Go.Proofs.YtdmkmbaaemhhhaaDoor
open Go Go.Ev Go.RowKit Go.Job Go.Acc
set_option maxHeartbeats 4000000
set_option linter.unusedSimpArgs false
set_option linter.unusedVariables false
attribute [local go_sem] mutV getB mvB bkB V.mv V.mvL V.bk V.bkL Blk.mv Blk.bk posN nmN backN noDup app_writes setHL_nil setHL_cons postM_ret postM_normal resM hasB_nil hasB_cons St.mut names_nil names_cons sortV cellOf mkX_M mkX_S mkX_ln lnL_at ms0_mt ms0_st V.lone V.loneL List.zip_cons_cons List.zip_nil_left Option.isNone_none bornV subE partR unB bytesW boundsV ownP sliceW copyV clearV lenM takeV tk1 mapsV mkMapV hintOk lookV updV mapKE keyOk V.key app_lend callW_fn lendV postL_ret postL_normal postT_ret postT_normal takeR St.lent mkX_L bin_eql_vz bin_eql_zv bin_eql_rz bin_eql_zr bin_eql_zz bin_neq_vz bin_neq_zv bin_neq_rz bin_neq_zr bin_neq_zz eqH nilEq nonE plainI gOf_bool gOf_skip g_some g_none Int.ofNat_zero Int.cast_ofNat_Int Bool.false_and Bool.and_false sliceV noBox elemsZ V.scrub V.scrubL Blk.scrub appendV isSlice maxLen_eq leT List.contains_nil List.contains_cons nvL_at fzL_at fillV V.plain V.plainL Blk.plain List.size_toArray mapO_nil mapO_cons Option.isNone_some beqT beqF oI_not mkX_e phi_nil phi_cons bin_eql_bool bin_neq_bool bin_eql_agg bin_neq_agg eqV eqFs eqK_int eqK_bool' eqK_str mkX_T mkX_Φ mkX_n mkX_f mkX_d mkX_r nv0_at fz0_at evQ_dr evP_W evW_nil evW_cons evW_guard okW_eq tame_none tame_new tame_write wb_none wb_new wb_write okU_some offW_none offW_some touchOf V.noRef V.noRefL Option.isSome_some Option.isSome_none mild_none mild_new Option.getD_some Option.getD_none evQ_seq evQ_region evQ_block evQ_cond evQ_ret evQ_skip evQ_exit evO_cons evO_nil evO_guard freezeL_nil oS_some oS_none oS_ite oS_ite' oB_bool oI_true oI_false oE_normal oE_exit oE_ret bQ_normal bQ_ret bQ_exit lQ_normal lQ_ret lQ_exit List.zipIdx_cons List.zipIdx_nil List.map_cons List.map_nil evalOp opd_const opd_tmp opd_func ofC_int ofC_bool ofC_str ofC_nil app_none app_new app_write app_change putE_some putE_none setA_cons setA_nil setH_cons setH_nil mapA_cons mapA_nil look_cons look_nil e_mk h_mk drop_nil drop_mk keep_mk dstOk_some dstOk_none guardT_eq true_and and_true Bool.not_false Bool.not_true selB_true selB_false mem_nil mem_cons kpL_nil kpL_cons drL_nil drL_cons closed_mk V.refsIn V.refsInL Blk.refsIn List.all_cons List.all_nil lenV bin_add bin_sub bin_mul bin_quo bin_rem bin_eql bin_neq bin_lss bin_leq bin_gtr bin_geq un_neg un_not post_ret post_normal St.init Bool.false_eq_true List.length_map Bool.or_false Bool.or_true Bool.false_or Bool.true_or beq_self_eq_true Option.map_some Option.map_none Option.bind_some List.getElem?_cons_zero List.getElem?_cons_succ scalar stor isAggV V.cells List.cons_append List.nil_append if_true if_false wrap_of callV V.dataL V.data Bool.and_true Bool.true_and fresh names V.ren V.renL retV resV packL packV packC getBlks wrapR subV putV decide_true decide_false TK.agg List.length_cons List.length_nil List.take_succ_cons List.take_zero List.drop_succ_cons List.drop_zero List.take_nil List.drop_nil Nat.zero_add Nat.add_zero List.append_nil List.getElem?_nil elemsV ro ro0 ro1 roC ty1 ty2 ty3 ty4 ty5 ty6 ty7 ty8 ty9 ty10 ty11 ty12 ty13 ty14 ty15 ty16 ty17 ty18 ty19 ty21 ty22 ty23 ty24 ty26 ty27 ty28 ty29 ty30 ty31 ty32 ty33 ty34 ty35 ty36 ty37 ty38 ty39 ty40 ty41 ty42 ty44 ty45 ty47 ty49 ty51 ty53 ty54 ty55 ty56 ty57 ty58 ty59 ty60 ty61 ty62 ty63 ty64 ty65 ty66 ty67 ty68 ty69 ty70 ty71 ty72 ty73 ty74 ty75 ty76 ty77 ty78 ty79 ty80 ty81 ty82 ty83 ty84 ty85 ty86 ty87 ty88 ty89 ty90 ty92 ty93 ty94 ty95 ty96 ty97 ty98 ty99 ty100 ty101 ty102 ty103 ty104 ty105 ty107 ty108 ty109 ty110 ty111 ty112 ty113 ty114 ty115 ty116 ty117 ty118 ty119 ty123 ty124 ty125 ty126 ty127 ty128 ty129 ty130 ty131 ty132 ty133 ty135 ty136 ty137 ty138 ty139 ty141 ty142 ty143 ty144 ty146 ty147 ty148 ty149 ty153 ty154 ty155 ty156 ty157 ty158 ty159 ty160 ty161 eqs29 eqs61 eqs79 eqs94
theorem u8w {x : Int} (h : 0 ≤ x ∧ x ≤ 255) : IntKind.u8.wrap x = x := by simp [IntKind.wrap, IntKind.bits, IntKind.signed]; omega
theorem u8_nat (a : Nat) : UInt8.ofNat (48 + (a : Int)).toNat = (48 + a).toUInt8 := by rw [show (48 + (a : Int)).toNat = 48 + a by omega]
theorem digB_fin : ∀ n : Fin 10, digB n.val = ⟨#[(48 + n.val).toUInt8]⟩ := by decide +kernel
theorem digB_eq {n : Nat} (h : n < 10) : digB n = ⟨#[(48 + n).toUInt8]⟩ := digB_fin ⟨n, h⟩
theorem dig2_eq {k : Nat} (h : k < 100) : digB (k / 10) ++ digB (k % 10) = dig2 k := by
  rw [digB_eq (show k / 10 < 10 by omega), digB_eq (show k % 10 < 10 by omega)]
  rfl
theorem size_cat (x y : ByteArray) : (x ++ y).size = x.size + y.size := ByteArray.size_append
theorem size_dash : ByteArray.size (⟨#[45]⟩ : ByteArray) = 1 := rfl
theorem size_dig2 (k : Nat) : (dig2 k).size = 2 := rfl
theorem size_digB {n : Nat} (h : n < 10) : (digB n).size = 1 := by rw [digB_eq h]; rfl
theorem partL_len {p : Pl} (h : 1 ≤ p.num ∧ p.num ≤ 40) : ((partL p).length : Int) = p.num := by
  unfold partL
  rw [steps_len]
  omega
theorem partF_1 {p : Pl} (h : p.kind = 1) : partF p = lnD p.amt p.num := by funext k; unfold partF; rw [if_pos h]
theorem partF_0 {p : Pl} (h : ¬ p.kind = 1) : partF p = lnS p.amt p.num := by funext k; unfold partF; rw [if_neg h]
theorem jparts_sound {J : World → Prop} (hJ : Stable J) (p : Pl) (h : PlOk keyOk' codeOk p) : SoundAt Tryd.prog J 22 [plV p] (.vec 0) [.vec 3 1 ((partL p).map (V.int .i64))] := by
  obtain ⟨n, hn⟩ : ∃ n : Nat, p.num = n := ⟨p.num.toNat, by have := h.num; omega⟩
  have hb := h.num
  have ha := h.amt
  have hk := h.kind
  have hD := digits_sound hJ p.amt 0 n (by omega) (by omega) (by omega) (by omega) (by omega)
  have hS := straight_sound hJ p.amt 0 n (by omega) (by omega) (by omega) (by omega) (by omega)
  rw [Int.sub_zero] at hD hS
  unfold plV
  by_cases h1 : p.kind = 1
  · have e : partL p = steps (lnD p.amt n) n := by unfold partL; rw [partF_1 h1, hn, Int.toNat_natCast]
    rw [e]
    refine evFn (l := [(52, at1 _ (_, [.vec 3 1 ((steps (lnD p.amt n) n).map (V.int .i64))]))]) (nv := nv0) (fz := fz0) (dr := dr22) (dd := dd22) (lam := []) (ms := ms0) ⟨at1_snd hD, trivial⟩ hJ trivial ms0_ok Tryd.func22 rfl rfl (Nat.le_of_ble_eq_true rfl) (Nat.le_of_ble_eq_true rfl) drOk22 ?_
    dsimp only [Tryd.f22, dr22, dd22, Option.getD_some]
    refine ev_start ?_
    simp (disch := omega) only [at1_eq, h1, hn, go_sem, Int.reduceEq, Int.reduceLT, Int.reduceLE, Int.reduceNeg, Nat.reduceAdd, Nat.reduceLT, Nat.reduceEqDiff, Nat.reduceMul, Nat.reduceLeDiff, reduceIte, Nat.reduceBEq, reduceCtorEq, evP_D, evD_guard, evD_cons, evD_zero, evD_nil]
  · have e : partL p = steps (lnS p.amt n) n := by unfold partL; rw [partF_0 h1, hn, Int.toNat_natCast]
    rw [e]
    refine evFn (l := [(53, at1 _ (_, [.vec 3 1 ((steps (lnS p.amt n) n).map (V.int .i64))]))]) (nv := nv0) (fz := fz0) (dr := dr22) (dd := dd22) (lam := []) (ms := ms0) ⟨at1_snd hS, trivial⟩ hJ trivial ms0_ok Tryd.func22 rfl rfl (Nat.le_of_ble_eq_true rfl) (Nat.le_of_ble_eq_true rfl) drOk22 ?_
    dsimp only [Tryd.f22, dr22, dd22, Option.getD_some]
    refine ev_start ?_
    simp (disch := omega) only [at1_eq, h1, hn, go_sem, Int.reduceEq, Int.reduceLT, Int.reduceLE, Int.reduceNeg, Nat.reduceAdd, Nat.reduceLT, Nat.reduceEqDiff, Nat.reduceMul, Nat.reduceLeDiff, reduceIte, Nat.reduceBEq, reduceCtorEq, evP_D, evD_guard, evD_cons, evD_zero, evD_nil]
def rdgF : List V → Option (V × List Ev.Blk)
  | [.int .i64 n, .int .i64 k] => if (1 ≤ n ∧ n ≤ 40) ∧ 0 ≤ k ∧ k ≤ n then some (.int .i64 (lnG n k), []) else none
  | _ => none
theorem rdgF_eq {n k : Int} (h : (1 ≤ n ∧ n ≤ 40) ∧ 0 ≤ k ∧ k ≤ n) : rdgF [.int .i64 n, .int .i64 k] = some (.int .i64 (lnG n k), []) := if_pos h
theorem rdg_snd {J : World → Prop} (hJ : Stable J) : Snd Tryd.prog J 71 rdgF := by
  intro args r bs h
  unfold rdgF at h
  split at h
  · split at h
    · rename_i n k hc
      obtain ⟨rfl, rfl⟩ := some_pair h
      obtain ⟨m, rfl⟩ : ∃ m : Nat, k = m := ⟨k.toNat, by omega⟩
      obtain ⟨n, rfl⟩ : ∃ m : Nat, n = m := ⟨n.toNat, by omega⟩
      refine evFn (l := []) (nv := nv0) (fz := fz0) (dr := dr71) (dd := dd71) (lam := []) (ms := ms0) trivial hJ trivial ms0_ok Tryd.func71 rfl rfl (Nat.le_of_ble_eq_true rfl) (Nat.le_of_ble_eq_true rfl) drOk71 ?_
      dsimp only [Tryd.f71, dr71, dd71, Option.getD_some]
      refine ev_start ?_
      simp (disch := omega) only [go_sem, Int.reduceEq, Int.reduceLT, Int.reduceLE, Int.reduceNeg, Nat.reduceAdd, Nat.reduceLT, Nat.reduceEqDiff, Nat.reduceMul, Nat.reduceLeDiff, reduceIte, Nat.reduceBEq, reduceCtorEq, evP_D, evD_guard, evD_cons, evD_zero, evD_nil]
      refine evQ_loop [0, 1, 5, 6] [] (fun σ => ∃ (j : Nat), j ≤ m ∧ σ = ⟨[(0, .int .i64 n), (1, .int .i64 m), (5, .int .i64 (lnG n j)), (6, .int .i64 ((n : Int) - j))], []⟩)
        (fun σ => (match Ev.look 6 σ.env with | some (.int _ n) => n.toNat | _ => 0)) ?_ ?_
      · simp only [go_sem, Int.reduceEq, Int.reduceLT, Int.reduceLE, Int.reduceNeg, Nat.reduceAdd, Nat.reduceLT, Nat.reduceEqDiff, Nat.reduceMul, Nat.reduceLeDiff, reduceIte, Nat.reduceBEq, reduceCtorEq, evP_D, evD_guard, evD_cons, evD_zero, evD_nil]
        exact ⟨0, Nat.zero_le _, by rw [show ((0 : Nat) : Int) = 0 from rfl, lnG_0, Int.sub_zero]⟩
      · rintro σ ⟨j, hj, rfl⟩
        have hg0 := lnG_bd (n := n) j (by omega)
        have hg1 := lnG_le (n := n) (n - j) j (by omega)
        have hT := lnT_bd (n := n) (by omega) (by omega)
        by_cases hlt : j < m
        · have hlt' : (n : Int) - j > (n : Int) - m := by omega
          have hlt2 : (n : Int) - m < (n : Int) - j := by omega
          simp (disch := omega) only [hlt', hlt2, go_sem, Int.reduceEq, Int.reduceLT, Int.reduceLE, Int.reduceNeg, Nat.reduceAdd, Nat.reduceLT, Nat.reduceEqDiff, Nat.reduceMul, Nat.reduceLeDiff, reduceIte, Nat.reduceBEq, reduceCtorEq, evP_D, evD_guard, evD_cons, evD_zero, evD_nil]
          exact ⟨⟨j + 1, hlt, by rw [show ((j + 1 : Nat) : Int) = (j : Int) + 1 by omega, lnG_step, show (n : Int) - ((j : Int) + 1) = (n : Int) - j - 1 by omega]⟩, by omega⟩
        · have hj' : j = m := by omega
          subst hj'
          have hlt2 : ¬ (n : Int) - j < (n : Int) - j := by omega
          simp (disch := omega) only [hlt2, go_sem, Int.reduceEq, Int.reduceLT, Int.reduceLE, Int.reduceNeg, Nat.reduceAdd, Nat.reduceLT, Nat.reduceEqDiff, Nat.reduceMul, Nat.reduceLeDiff, reduceIte, Nat.reduceBEq, reduceCtorEq, evP_D, evD_guard, evD_cons, evD_zero, evD_nil]
    · cases h
  · cases h
def rp1C (p : Pl) : List V := [.rd (plV p) 0]
theorem rp1_sound {J : World → Prop} (hJ : Stable J) (p : Pl) (h : PlOk keyOk' codeOk p) (k : Nat) (hk : (k : Int) ≤ p.num) : SoundAt Tryd.prog J 69 (.int .i64 k :: rp1C p) (.int .i64 (partF p k)) [] := by
  obtain ⟨n, hn⟩ : ∃ n : Nat, p.num = n := ⟨p.num.toNat, by have := h.num; omega⟩
  have hb := h.num
  have ha := h.amt
  unfold rp1C plV
  rw [hn] at hk hb ⊢
  have hT := lnT_bd (n := n) (by omega) (by omega)
  have hg0 := lnG_bd (n := n) k (by omega)
  have hg1 := lnG_le (n := n) (n - k) k (by omega)
  have m1 := lnm_bd (D := p.amt) (k := lnG n k) (by omega) (by omega) hg0 (by omega)
  have m2 := lnm_bd (D := p.amt) (k := k) (by omega) (by omega) (by omega) (by omega)
  have d1 := rdgF_eq (n := n) (k := k) (by omega)
  have d2 := rdgF_eq (n := n) (k := n) (by omega)
  rw [lnG_n] at d2
  by_cases h1 : p.kind = 1
  · have e : partF p k = lnD p.amt n k := by rw [partF_1 h1, hn]
    rw [e]
    have hr : rndF [.int .i64 (p.amt * lnG n k), .int .i64 (lnT n), .int .i64 2] = some (.int .i64 (lnD p.amt n k), []) := rndF_eq (by omega)
    refine evFn (l := [(71, rdgF), (70, rndF)]) (nv := nv0) (fz := fz0) (dr := dr69) (dd := dd69) (lam := []) (ms := ms0) ⟨rdg_snd hJ, rround_snd, trivial⟩ hJ trivial ms0_ok Tryd.func69 rfl rfl (Nat.le_of_ble_eq_true rfl) (Nat.le_of_ble_eq_true rfl) drOk69 ?_
    dsimp only [Tryd.f69, dr69, dd69, Option.getD_some]
    refine ev_start ?_
    simp (disch := omega) only [h1, d1, d2, hr, go_sem, Int.reduceEq, Int.reduceLT, Int.reduceLE, Int.reduceNeg, Nat.reduceAdd, Nat.reduceLT, Nat.reduceEqDiff, Nat.reduceMul, Nat.reduceLeDiff, reduceIte, Nat.reduceBEq, reduceCtorEq, evP_D, evD_guard, evD_cons, evD_zero, evD_nil]
  · have e : partF p k = lnS p.amt n k := by rw [partF_0 h1, hn]
    rw [e]
    have hr : rndF [.int .i64 (p.amt * k), .int .i64 n, .int .i64 2] = some (.int .i64 (lnS p.amt n k), []) := rndF_eq (by omega)
    refine evFn (l := [(71, rdgF), (70, rndF)]) (nv := nv0) (fz := fz0) (dr := dr69) (dd := dd69) (lam := []) (ms := ms0) ⟨rdg_snd hJ, rround_snd, trivial⟩ hJ trivial ms0_ok Tryd.func69 rfl rfl (Nat.le_of_ble_eq_true rfl) (Nat.le_of_ble_eq_true rfl) drOk69 ?_
    dsimp only [Tryd.f69, dr69, dd69, Option.getD_some]
    refine ev_start ?_
    simp (disch := omega) only [h1, hr, go_sem, Int.reduceEq, Int.reduceLT, Int.reduceLE, Int.reduceNeg, Nat.reduceAdd, Nat.reduceLT, Nat.reduceEqDiff, Nat.reduceMul, Nat.reduceLeDiff, reduceIte, Nat.reduceBEq, reduceCtorEq, evP_D, evD_guard, evD_cons, evD_zero, evD_nil]
theorem rparts_sound {J : World → Prop} (hJ : Stable J) (p : Pl) (h : PlOk keyOk' codeOk p) : SoundAt Tryd.prog J 33 [plV p] (.vec 0) [.vec 3 1 ((partL p).map (V.int .i64))] := by
  obtain ⟨n, hn⟩ : ∃ n : Nat, p.num = n := ⟨p.num.toNat, by have := h.num; omega⟩
  have hb := h.num
  have ha := h.amt
  obtain ⟨G, hG, sG⟩ := famj (P := Tryd.prog) (J := J) (f := 69) (fun k : { k : Nat // (k : Int) ≤ p.num } => .int .i64 k.1 :: rp1C p) (fun k => (.int .i64 (partF p k.1), [])) (fun i j hij => by
    simp only [List.cons.injEq, V.int.injEq, true_and, and_true] at hij
    rw [hij]) fun k => rp1_sound hJ p h k.1 k.2
  have hP := parted_sound hJ 69 (rp1C p) G sG (by simp [rp1C, V.dataL, V.data, plV]) (partF p) n (by omega) (fun k hk => hG ⟨k, by omega⟩) (fun k hk => by
    by_cases h1 : p.kind = 1
    · rw [partF_1 h1, hn]
      have := lnD_bd (D := p.amt) (n := n) (k := k) (by omega) (by omega) (by omega) (by omega)
      omega
    · rw [partF_0 h1, hn]
      have := lnS_bd (D := p.amt) (n := n) (k := k) (by omega) (by omega) (by omega) (by omega)
      omega)
  have e : partL p = steps (partF p) n := by unfold partL; rw [hn, Int.toNat_natCast]
  rw [e]
  unfold rp1C at hP
  unfold plV at hP ⊢
  refine evFn (l := [(68, at1 _ (_, [.vec 3 1 ((steps (partF p) n).map (V.int .i64))]))]) (nv := nv0) (fz := fz0) (dr := dr33) (dd := dd33) (lam := []) (ms := ms0) ⟨at1_snd hP, trivial⟩ hJ trivial ms0_ok Tryd.func33 rfl rfl (Nat.le_of_ble_eq_true rfl) (Nat.le_of_ble_eq_true rfl) drOk33 ?_
  dsimp only [Tryd.f33, dr33, dd33, Option.getD_some]
  refine ev_start ?_
  simp (disch := omega) only [at1_eq, hn, List.mapM_cons, List.mapM_nil, Option.bind_eq_bind, Option.pure_def, Option.bind_some, go_sem, Int.reduceEq, Int.reduceLT, Int.reduceLE, Int.reduceNeg, Nat.reduceAdd, Nat.reduceLT, Nat.reduceEqDiff, Nat.reduceMul, Nat.reduceLeDiff, reduceIte, Nat.reduceBEq, reduceCtorEq, evP_D, evD_guard, evD_cons, evD_zero, evD_nil]
end Go.Proofs.YtdmkmbaaemhhhaaDoor
namespace Go.Proofs.YtdmkmbaaemhhhaaDoor
open Go Go.Ev Go.RowKit Go.Job Go.Acc Go.Lib
theorem u8_of {a : Nat} (h : a < 10) : (((48 + a).toUInt8.toNat : Nat) : Int) = 48 + a := by
  have : (48 + a).toUInt8.toNat = 48 + a := by
    rw [Nat.toUInt8, UInt8.toNat_ofNat']
    omega
  omega
set_option maxHeartbeats 1000000 in
set_option maxRecDepth 100000 in
theorem jkey_any (s d c : ByteArray) (a1 a2 a3 a4 : Int) (k a b : Nat) (hs : s.size ≤ 9) (ha : (k : Int).tdiv 10 = a) (hb : (k : Int).tmod 10 = b) (ha2 : a < 10) (hb2 : b < 10) (w : World) :
    Calls Tryd.prog 24 #[.agg #[.string s, .int .i64 a1, .int .i64 a2, .int .i64 a3, .int .i64 a4, .string d, .string c], .int .i64 k] w fun e w' => e = .returned (.string (s ++ ⟨#[45]⟩ ++ ⟨#[(48 + a).toUInt8, (48 + b).toUInt8]⟩)) ∧ Below w.heap.size w w' := by
  have mixed := mixOk
  have hconv : ∀ (W : World), W.cell? ⟨w.heap.size + 1, 0, none⟩ = some (.int .u8 (48 + (a : Int))) → W.cell? ⟨w.heap.size + 1, 1, none⟩ = some (.int .u8 (48 + (b : Int))) →
      (convert 97 9 (.slice (some ⟨w.heap.size + 1, 0, none⟩) 2 2)).run Tryd.prog W = .ok (.string ⟨#[(48 + a).toUInt8, (48 + b).toUInt8]⟩) W := by
    intro W h0 h1
    refine run_convert_bytes_back W 97 9 5 ⟨w.heap.size + 1, 0, none⟩ 2 [(48 + a).toUInt8, (48 + b).toUInt8] (by kernel_rfl) (by kernel_rfl) (by kernel_rfl) fun j hj => ?_
    match j, hj with
    | 0, _ => simp only [List.getElem_cons_zero]; rw [u8_of ha2]; exact h0
    | 1, _ => simp only [List.getElem_cons_succ, List.getElem_cons_zero]; rw [u8_of hb2]; exact h1
    | _ + 2, hj => simp at hj; omega
  go_enter Tryd.func24, Tryd.ntmps24
  go_wp2
  refine bodyPost_ret (v := Value.string (s ++ ⟨#[45]⟩ ++ ⟨#[(48 + a).toUInt8, (48 + b).toUInt8]⟩)) (by simp [results, Tryd.results24, go_sem]) rfl ⟨rfl, ?_⟩
  (repeat' (first | (with_reducible exact Below.refl _ _) | (with_reducible assumption) | (with_reducible refine Below.alloc ?_ ?_ _) | (with_reducible refine Below.drew ?_) | (with_reducible refine below_drewN ?_ _) | (with_reducible refine Below.setCell ?_ ?_ _) | go_size))
theorem jkey_sound {J : World → Prop} (p : Pl) (k : Nat) (hs : p.key.size ≤ 9) (hk : k < 100) : SoundAt Tryd.prog J 24 [plV p, .int .i64 k] (.str (keyP p k)) [] := by
  have t1 : (k : Int).tdiv 10 = ((k / 10 : Nat) : Int) := by rw [Int.tdiv_eq_ediv_of_nonneg (by omega)]; omega
  have t2 : (k : Int).tmod 10 = ((k % 10 : Nat) : Int) := by rw [Int.tmod_eq_emod_of_nonneg (by omega)]; omega
  exact sound_plain (callOk Tryd.func24 rfl rfl) rfl rfl fun w _ => jkey_any p.key p.deb p.cre p.kind p.at_ p.amt p.num k (k / 10) (k % 10) hs t1 t2 (by omega) (by omega) w
end Go.Proofs.YtdmkmbaaemhhhaaDoor
namespace Go.Proofs.YtdmkmbaaemhhhaaDoor
open Go Go.Ev Go.RowKit Go.Job Go.Acc
set_option maxHeartbeats 4000000
set_option linter.unusedSimpArgs false
set_option linter.unusedVariables false
attribute [local go_sem] mutV getB mvB bkB V.mv V.mvL V.bk V.bkL Blk.mv Blk.bk posN nmN backN noDup app_writes setHL_nil setHL_cons postM_ret postM_normal resM hasB_nil hasB_cons St.mut names_nil names_cons sortV cellOf mkX_M mkX_S mkX_ln lnL_at ms0_mt ms0_st V.lone V.loneL List.zip_cons_cons List.zip_nil_left Option.isNone_none bornV subE partR unB bytesW boundsV ownP sliceW copyV clearV lenM takeV tk1 mapsV mkMapV hintOk lookV updV mapKE keyOk V.key app_lend callW_fn lendV postL_ret postL_normal postT_ret postT_normal takeR St.lent mkX_L bin_eql_vz bin_eql_zv bin_eql_rz bin_eql_zr bin_eql_zz bin_neq_vz bin_neq_zv bin_neq_rz bin_neq_zr bin_neq_zz eqH nilEq nonE plainI gOf_bool gOf_skip g_some g_none Int.ofNat_zero Int.cast_ofNat_Int Bool.false_and Bool.and_false sliceV noBox elemsZ V.scrub V.scrubL Blk.scrub appendV isSlice maxLen_eq leT List.contains_nil List.contains_cons nvL_at fzL_at fillV V.plain V.plainL Blk.plain List.size_toArray mapO_nil mapO_cons Option.isNone_some beqT beqF oI_not mkX_e phi_nil phi_cons bin_eql_bool bin_neq_bool bin_eql_agg bin_neq_agg eqV eqFs eqK_int eqK_bool' eqK_str mkX_T mkX_Φ mkX_n mkX_f mkX_d mkX_r nv0_at fz0_at evQ_dr evP_W evW_nil evW_cons evW_guard okW_eq tame_none tame_new tame_write wb_none wb_new wb_write okU_some offW_none offW_some touchOf V.noRef V.noRefL Option.isSome_some Option.isSome_none mild_none mild_new Option.getD_some Option.getD_none evQ_seq evQ_region evQ_block evQ_cond evQ_ret evQ_skip evQ_exit evO_cons evO_nil evO_guard freezeL_nil oS_some oS_none oS_ite oS_ite' oB_bool oI_true oI_false oE_normal oE_exit oE_ret bQ_normal bQ_ret bQ_exit lQ_normal lQ_ret lQ_exit List.zipIdx_cons List.zipIdx_nil List.map_cons List.map_nil evalOp opd_const opd_tmp opd_func ofC_int ofC_bool ofC_str ofC_nil app_none app_new app_write app_change putE_some putE_none setA_cons setA_nil setH_cons setH_nil mapA_cons mapA_nil look_cons look_nil e_mk h_mk drop_nil drop_mk keep_mk dstOk_some dstOk_none guardT_eq true_and and_true Bool.not_false Bool.not_true selB_true selB_false mem_nil mem_cons kpL_nil kpL_cons drL_nil drL_cons closed_mk V.refsIn V.refsInL Blk.refsIn List.all_cons List.all_nil lenV bin_add bin_sub bin_mul bin_quo bin_rem bin_eql bin_neq bin_lss bin_leq bin_gtr bin_geq un_neg un_not post_ret post_normal St.init Bool.false_eq_true List.length_map Bool.or_false Bool.or_true Bool.false_or Bool.true_or beq_self_eq_true Option.map_some Option.map_none Option.bind_some List.getElem?_cons_zero List.getElem?_cons_succ scalar stor isAggV V.cells List.cons_append List.nil_append if_true if_false wrap_of callV V.dataL V.data Bool.and_true Bool.true_and fresh names V.ren V.renL retV resV packL packV packC getBlks wrapR subV putV decide_true decide_false TK.agg List.length_cons List.length_nil List.take_succ_cons List.take_zero List.drop_succ_cons List.drop_zero List.take_nil List.drop_nil Nat.zero_add Nat.add_zero List.append_nil List.getElem?_nil elemsV ro ro0 ro1 roC ty1 ty2 ty3 ty4 ty5 ty6 ty7 ty8 ty9 ty10 ty11 ty12 ty13 ty14 ty15 ty16 ty17 ty18 ty19 ty21 ty22 ty23 ty24 ty26 ty27 ty28 ty29 ty30 ty31 ty32 ty33 ty34 ty35 ty36 ty37 ty38 ty39 ty40 ty41 ty42 ty44 ty45 ty47 ty49 ty51 ty53 ty54 ty55 ty56 ty57 ty58 ty59 ty60 ty61 ty62 ty63 ty64 ty65 ty66 ty67 ty68 ty69 ty70 ty71 ty72 ty73 ty74 ty75 ty76 ty77 ty78 ty79 ty80 ty81 ty82 ty83 ty84 ty85 ty86 ty87 ty88 ty89 ty90 ty92 ty93 ty94 ty95 ty96 ty97 ty98 ty99 ty100 ty101 ty102 ty103 ty104 ty105 ty107 ty108 ty109 ty110 ty111 ty112 ty113 ty114 ty115 ty116 ty117 ty118 ty119 ty123 ty124 ty125 ty126 ty127 ty128 ty129 ty130 ty131 ty132 ty133 ty135 ty136 ty137 ty138 ty139 ty141 ty142 ty143 ty144 ty146 ty147 ty148 ty149 ty153 ty154 ty155 ty156 ty157 ty158 ty159 ty160 ty161 eqs29 eqs61 eqs79 eqs94
def enJ (x : Job.En) : V := .agg [.str x.1, .int .i64 x.2.1, .row 2 (x.2.2.map acV)]
theorem enJ_P (p : Pl) (k : Nat) (n : Int) : enJ (enP p k n) = .agg [.str (keyP p k), .int .i64 (Cal.add p.at_ k), .row 2 [.agg [.str p.deb, .int .i64 n], .agg [.str p.cre, .int .i64 (-n)]]] := rfl
theorem partL_bd {p : Pl} (h : PlOk keyOk' codeOk p) (x : Int) (hx : x ∈ partL p) : 0 ≤ x ∧ x ≤ 1000000000000 := by
  obtain ⟨n, hn⟩ : ∃ n : Nat, p.num = n := ⟨p.num.toNat, by have := h.num; omega⟩
  have hb := h.num
  have ha := h.amt
  unfold partL at hx
  rw [hn, Int.toNat_natCast] at hx
  have := steps_bd (F := partF p) (n := n) (M := p.amt) (fun k hk => ?_) (fun k hk => ?_) x hx
  · omega
  · by_cases h1 : p.kind = 1
    · rw [partF_1 h1, hn]; exact lnD_mono ha.1 (by omega) (by omega) hk
    · rw [partF_0 h1, hn]; exact lnS_mono ha.1 (by omega) (by omega)
  · by_cases h1 : p.kind = 1
    · rw [partF_1 h1, hn]; exact lnD_bd ha.1 (by omega) (by omega) hk
    · rw [partF_0 h1, hn]; exact lnS_bd ha.1 (by omega) (by omega) (by omega)
theorem due_len {day : Int} {p : Pl} (h : 1 ≤ p.num ∧ p.num ≤ 40) : (dueP day p).length ≤ 40 := by
  have h1 := dueFrom_len day p 0 (partL p)
  have h2 := partL_len h
  unfold dueP
  omega
theorem dueL_len {day : Int} : ∀ {l : List Pl}, (∀ p ∈ l, 1 ≤ p.num ∧ p.num ≤ 40) → (dueL day l).length ≤ l.length * 40
  | [], _ => by simp [dueL]
  | p :: l, h => by
    have h1 := due_len (day := day) (h p (by simp))
    have h2 := dueL_len (day := day) (l := l) fun q hq => h q (by simp [hq])
    unfold dueL at h2 ⊢
    rw [List.flatMap_cons, List.length_append, List.length_cons]
    omega
theorem dueL_succ {day : Int} {l : List Pl} {i : Nat} {p : Pl} (h : l[i]? = some p) : dueL day (l.take (i + 1)) = dueL day (l.take i) ++ dueP day p := by
  obtain ⟨hk, rfl⟩ := List.getElem?_eq_some_iff.1 h
  unfold dueL
  rw [List.take_succ_eq_append_getElem hk, List.flatMap_append]
  simp
theorem jkeyx {J : World → Prop} : ∃ F : List V → Option (V × List Ev.Blk), (∀ (p : Pl) (k : Nat), p.key.size ≤ 9 → k < 100 → F [plV p, .int .i64 k] = some (.str (keyP p k), [])) ∧ Snd Tryd.prog J 24 F := by
  obtain ⟨F, h1, h2⟩ := famj (P := Tryd.prog) (J := J) (f := 24) (fun q : { q : Pl × Nat // q.1.key.size ≤ 9 ∧ q.2 < 100 } => [plV q.1.1, .int .i64 q.1.2]) (fun q => (.str (keyP q.1.1 q.1.2), [])) (fun i j h => by
    simp only [List.cons.injEq, V.int.injEq, true_and, and_true] at h
    rw [plV_inj1 h.1, Int.ofNat.inj h.2]) fun q => jkey_sound q.1.1 q.1.2 q.2.1 q.2.2
  exact ⟨F, fun p k ha hb => h1 ⟨(p, k), ha, hb⟩, h2⟩
theorem jpartsx {J : World → Prop} (hJ : Stable J) : ∃ F : List V → Option (V × List Ev.Blk), (∀ p : Pl, PlOk keyOk' codeOk p → F [plV p] = some (.vec 0, [.vec 3 1 ((partL p).map (V.int .i64))])) ∧ Snd Tryd.prog J 22 F := by
  obtain ⟨F, h1, h2⟩ := famj (P := Tryd.prog) (J := J) (f := 22) (fun q : { p : Pl // PlOk keyOk' codeOk p } => [plV q.1]) (fun q => (.vec 0, [.vec 3 1 ((partL q.1).map (V.int .i64))])) (fun i j h => by
    simp only [List.cons.injEq, and_true] at h
    rw [plV_inj1 h]) fun q => jparts_sound hJ q.1 q.2
  exact ⟨F, fun p h => h1 ⟨p, h⟩, h2⟩
theorem jdue_bad (l : List Pl) (day : Int) (e : Int) (h : (if plChk keyOk' codeOk l = 0 then (if 0 ≤ day ∧ day ≤ 292193 then 0 else 1) else plChk keyOk' codeOk l) = e) (he : e ≠ 0) : SoundAt Tryd.prog Tab 5 [.row 7 (l.map plV), .int .i64 day] (.tup [.zero, .int .i64 e]) [] := by
  have hJ := stableTab
  have hC := jcheck_sound l
  refine evFn (l := [(7, at1 _ (_, [])), (21, dayF)]) (nv := nv0) (fz := fz0) (dr := dr5) (dd := dd5) (lam := []) (ms := ms0) ⟨at1_snd hC, is_snd hJ, trivial⟩ hJ trivial ms0_ok Tryd.func5 rfl rfl (Nat.le_of_ble_eq_true rfl) (Nat.le_of_ble_eq_true rfl) drOk5 ?_
  dsimp only [Tryd.f5, dr5, dd5, Option.getD_some]
  refine ev_start ?_
  by_cases h0 : plChk keyOk' codeOk l = 0
  · rw [if_pos h0] at h
    by_cases hd : 0 ≤ day ∧ day ≤ 292193
    · rw [if_pos hd] at h
      exact absurd h.symm he
    · rw [if_neg hd] at h
      subst h
      have hd' : decide (0 ≤ day ∧ day ≤ 292193) = false := decide_eq_false hd
      simp (disch := omega) only [at1_eq, h0, dayF_eq, hd', go_sem, Int.reduceEq, Int.reduceLT, Int.reduceLE, Int.reduceNeg, Nat.reduceAdd, Nat.reduceLT, Nat.reduceEqDiff, Nat.reduceMul, Nat.reduceLeDiff, reduceIte, Nat.reduceBEq, reduceCtorEq, evP_D, evD_guard, evD_cons, evD_zero, evD_nil]
  · rw [if_neg h0] at h
    rw [h] at hC ⊢
    simp (disch := omega) only [at1_eq, he, go_sem, Int.reduceEq, Int.reduceLT, Int.reduceLE, Int.reduceNeg, Nat.reduceAdd, Nat.reduceLT, Nat.reduceEqDiff, Nat.reduceMul, Nat.reduceLeDiff, reduceIte, Nat.reduceBEq, reduceCtorEq, evP_D, evD_guard, evD_cons, evD_zero, evD_nil]
set_option maxHeartbeats 8000000 in
theorem jdue_sound (l : List Pl) (day : Int) (hok : plChk keyOk' codeOk l = 0) (hd : 0 ≤ day ∧ day ≤ 292193) : SoundAt Tryd.prog Tab 5 [.row 7 (l.map plV), .int .i64 day] (.tup [.vec 0, .int .i64 0]) [.vec 34 3 ((dueL day l).map enJ)] := by
  have hJ := stableTab
  have hC := jcheck_sound l
  rw [hok] at hC
  obtain ⟨hl12, hall⟩ := chk_one keyOk' codeOk hok
  have hPl : ∀ p ∈ l, PlOk keyOk' codeOk p := fun p hp => one_ok keyOk' codeOk (hall p hp)
  obtain ⟨PF, hPF, sPF⟩ := jpartsx hJ
  obtain ⟨KF, hKF, sKF⟩ := jkeyx (J := Tab)
  refine evFn (l := [(7, at1 _ (_, [])), (21, dayF), (22, PF), (23, addF), (24, KF)]) (nv := (nvL [(7, (34, 3)), (62, (34, 3))])) (fz := fz0) (dr := dr5) (dd := dd5) (lam := []) (ms := ms0) ⟨at1_snd hC, is_snd hJ, sPF, add_snd, sKF, trivial⟩ hJ trivial ms0_ok Tryd.func5 rfl rfl (Nat.le_of_ble_eq_true rfl) (Nat.le_of_ble_eq_true rfl) drOk5 ?_
  dsimp only [Tryd.f5, dr5, dd5, Option.getD_some]
  refine ev_start ?_
  simp (disch := omega) only [at1_eq, dayF_eq, hd, and_self, List.length_map, go_sem, Int.reduceEq, Int.reduceLT, Int.reduceLE, Int.reduceNeg, Nat.reduceAdd, Nat.reduceLT, Nat.reduceEqDiff, Nat.reduceMul, Nat.reduceLeDiff, reduceIte, Nat.reduceBEq, reduceCtorEq, evP_D, evD_guard, evD_cons, evD_zero, evD_nil]
  refine evQ_loop [1, 7, 22, 23, 24] [56] (fun σ => ∃ (i : Nat), i ≤ l.length ∧ σ = ⟨[(1, .int .i64 day), (7, .vec 56), (22, .row 7 (l.map plV)), (23, .int .i64 l.length), (24, .int .i64 i)], [(56, .vec 34 3 ((dueL day (l.take i)).map enJ))]⟩)
    (fun σ => l.length - (match Ev.look 24 σ.env with | some (.int _ n) => n.toNat | _ => 0)) ?_ ?_
  · simp only [go_sem, Int.reduceEq, Int.reduceLT, Int.reduceLE, Int.reduceNeg, Nat.reduceAdd, Nat.reduceLT, Nat.reduceEqDiff, Nat.reduceMul, Nat.reduceLeDiff, reduceIte, Nat.reduceBEq, reduceCtorEq, evP_D, evD_guard, evD_cons, evD_zero, evD_nil]
    exact ⟨0, Nat.zero_le _, rfl⟩
  · rintro σ ⟨i, hi, rfl⟩
    by_cases hlt : i < l.length
    case neg =>
      have hi' : i = l.length := by omega
      subst hi'
      have hlt' : ¬ ((l.length : Int) < l.length) := by omega
      simp (disch := (first | omega | assumption)) only [hlt', List.take_length, go_sem, Int.reduceEq, Int.reduceLT, Int.reduceLE, Int.reduceNeg, Nat.reduceAdd, Nat.reduceLT, Nat.reduceEqDiff, Nat.reduceMul, Nat.reduceLeDiff, reduceIte, Nat.reduceBEq, reduceCtorEq, evP_D, evD_guard, evD_cons, evD_zero, evD_nil]
    have hlt' : (i : Int) < l.length := by omega
    obtain ⟨p, hp⟩ : ∃ p, l[i]? = some p := ⟨_, List.getElem?_eq_getElem hlt⟩
    have hg := plV_get hp
    have ok := hPl p (List.mem_of_getElem? hp)
    have hP1 := hPF p ok
    unfold plV at hP1
    have hsu := dueL_succ (day := day) hp
    have hnum := ok.num
    have hat := ok.at_
    have hlen := partL_len hnum
    have hbd := partL_bd ok
    have hol : (dueL day (l.take (i + 1))).length ≤ 480 := by
      have h1 := dueL_len (day := day) (l := l.take (i + 1)) fun q hq => (hPl q (List.mem_of_mem_take hq)).num
      have h2 : (l.take (i + 1)).length ≤ 12 := by rw [List.length_take]; omega
      have h3 : (l.take (i + 1)).length * 40 ≤ 12 * 40 := Nat.mul_le_mul_right _ h2
      omega
    have hms : l.length - ((i : Int) + 1).toNat < l.length - (i : Int).toNat := by
      have e3 : ((i : Int) + 1).toNat = i + 1 := by omega
      rw [e3, Int.toNat_natCast]; exact Nat.sub_lt_sub_left hlt (Nat.lt_succ_self i)
    have hKp := fun (j : Nat) (hj : j < 100) => hKF p j ok.key.2.1 hj
    unfold plV at hKp
    obtain ⟨L, hL⟩ : ∃ L, L = partL p := ⟨_, rfl⟩
    rw [← hL] at hlen hbd hP1
    simp (disch := (first | omega | assumption)) only [hlt', idx_nat, List.length_map, hg, hP1, go_sem, Int.reduceEq, Int.reduceLT, Int.reduceLE, Int.reduceNeg, Nat.reduceAdd, Nat.reduceLT, Nat.reduceEqDiff, Nat.reduceMul, Nat.reduceLeDiff, reduceIte, Nat.reduceBEq, reduceCtorEq, evP_D, evD_guard, evD_cons, evD_zero, evD_nil]
    refine evQ_loop [1, 7, 9, 22, 23, 24, 29, 30, 31] [56, 72, 232] (fun σ => ∃ (j : Nat) (O : List Job.En), (j ≤ L.length ∧ O ++ dueFrom day p j (L.drop j) = dueL day (l.take (i + 1))) ∧ σ = ⟨[(1, .int .i64 day), (7, .vec 56), (9, .ptr 72 0), (22, .row 7 (l.map plV)), (23, .int .i64 l.length), (24, .int .i64 i), (29, .vec 232), (30, .int .i64 L.length), (31, .int .i64 j)], [(56, .vec 34 3 (O.map enJ)), (72, .box (.agg [.str p.key, .int .i64 p.kind, .int .i64 p.at_, .int .i64 p.amt, .int .i64 p.num, .str p.deb, .str p.cre])), (232, .vec 3 1 (L.map (V.int .i64)))]⟩)
      (fun σ => L.length - (match Ev.look 31 σ.env with | some (.int _ n) => n.toNat | _ => 0)) ?_ ?_
    · simp only [go_sem, Int.reduceEq, Int.reduceLT, Int.reduceLE, Int.reduceNeg, Nat.reduceAdd, Nat.reduceLT, Nat.reduceEqDiff, Nat.reduceMul, Nat.reduceLeDiff, reduceIte, Nat.reduceBEq, reduceCtorEq, evP_D, evD_guard, evD_cons, evD_zero, evD_nil]
      exact ⟨0, dueL day (l.take i), ⟨Nat.zero_le _, by rw [hsu, hL]; rfl⟩, rfl⟩
    · rintro σ ⟨j, O, ⟨hj, hO⟩, rfl⟩
      by_cases hjt : j < L.length
      case neg =>
        have hj' : j = L.length := by omega
        subst hj'
        have hjt' : ¬ ((L.length : Int) < L.length) := by omega
        have e : O = dueL day (l.take (i + 1)) := by rw [← hO, List.drop_length]; simp [dueFrom]
        simp (disch := (first | omega | assumption)) only [hjt', go_sem, Int.reduceEq, Int.reduceLT, Int.reduceLE, Int.reduceNeg, Nat.reduceAdd, Nat.reduceLT, Nat.reduceEqDiff, Nat.reduceMul, Nat.reduceLeDiff, reduceIte, Nat.reduceBEq, reduceCtorEq, evP_D, evD_guard, evD_cons, evD_zero, evD_nil]
        exact ⟨⟨i + 1, hlt, by rw [e]; rfl⟩, hms⟩
      have hjt' : (j : Int) < L.length := by omega
      obtain ⟨n, hn⟩ : ∃ n, L[j]? = some n := ⟨_, List.getElem?_eq_getElem hjt⟩
      have hgn := get_map (V.int .i64) L j n hn
      have hnb := hbd n (List.mem_of_getElem? hn)
      have hdr := dueFrom_drop (day := day) (p := p) hn
      obtain ⟨hm1, hm2⟩ := add_month (k := (j : Int)) hat ok.add (by omega) (by omega)
      have hA := addF_eq (n := p.at_) (k := (j : Int)) (by omega)
      have eN : addN p.at_ j = Cal.add p.at_ j := if_pos hm1
      have eE : addE p.at_ j = 0 := if_pos hm1
      rw [eN, eE] at hA
      have hmj : L.length - ((j : Int) + 1).toNat < L.length - (j : Int).toNat := by
        have e3 : ((j : Int) + 1).toNat = j + 1 := by omega
        rw [e3, Int.toNat_natCast]; exact Nat.sub_lt_sub_left hjt (Nat.lt_succ_self j)
      have hOl : O.length ≤ 480 := by
        have := congrArg List.length hO
        rw [List.length_append] at this
        omega
      by_cases hgt : day < Cal.add p.at_ j
      · have hno : dueFrom day p j (L.drop j) = [] := dueFrom_none j _ fun q h1 h2 => by
          rw [List.length_drop] at h2
          by_cases e : q = j
          · rw [e]; exact hgt
          · have := add_lt (j := (j : Int)) (k := (q : Int)) hat ok.add (by omega) (by omega) (by omega)
            omega
        have e : O = dueL day (l.take (i + 1)) := by rw [← hO, hno, List.append_nil]
        simp (disch := (first | omega | assumption)) only [hjt', idx_nat, List.length_map, hgn, hA, hgt, go_sem, Int.reduceEq, Int.reduceLT, Int.reduceLE, Int.reduceNeg, Nat.reduceAdd, Nat.reduceLT, Nat.reduceEqDiff, Nat.reduceMul, Nat.reduceLeDiff, reduceIte, Nat.reduceBEq, reduceCtorEq, evP_D, evD_guard, evD_cons, evD_zero, evD_nil]
        exact ⟨⟨i + 1, hlt, by rw [e]; rfl⟩, hms⟩
      · by_cases hn0 : n = 0
        · rw [if_neg (by omega), List.nil_append] at hdr
          simp (disch := (first | omega | assumption)) only [hjt', idx_nat, List.length_map, hgn, hA, hgt, hn0, go_sem, Int.reduceEq, Int.reduceLT, Int.reduceLE, Int.reduceNeg, Nat.reduceAdd, Nat.reduceLT, Nat.reduceEqDiff, Nat.reduceMul, Nat.reduceLeDiff, reduceIte, Nat.reduceBEq, reduceCtorEq, evP_D, evD_guard, evD_cons, evD_zero, evD_nil]
          exact ⟨⟨j + 1, O, ⟨hjt, by rw [← hdr]; exact hO⟩, rfl⟩, hmj⟩
        · rw [if_pos (by omega)] at hdr
          have hK := hKp j (by omega)
          simp (disch := (first | omega | assumption)) only [hjt', idx_nat, List.length_map, hgn, hA, hgt, hn0, hK, Int.zero_sub, go_sem, Int.reduceEq, Int.reduceLT, Int.reduceLE, Int.reduceNeg, Nat.reduceAdd, Nat.reduceLT, Nat.reduceEqDiff, Nat.reduceMul, Nat.reduceLeDiff, reduceIte, Nat.reduceBEq, reduceCtorEq, evP_D, evD_guard, evD_cons, evD_zero, evD_nil]
          exact ⟨⟨j + 1, O ++ [enP p j n], ⟨hjt, by rw [List.append_assoc, ← hdr]; exact hO⟩, by rw [List.map_append, List.map_cons, enJ_P]; rfl⟩, hmj⟩
end Go.Proofs.YtdmkmbaaemhhhaaDoor
