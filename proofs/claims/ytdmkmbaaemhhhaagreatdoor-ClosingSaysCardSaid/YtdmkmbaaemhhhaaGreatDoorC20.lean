/-
  Steps of the proof of ClosingSays: PoP TsP TsE.
-/
import Derived.Test.YtdmkmbaaemhhhaaGreatDoorC14
import Derived.Test.YtdmkmbaaemhhhaaGreatDoorC17
import Derived.Test.YtdmkmbaaemhhhaaGreatDoorC18
set_option linter.unusedVariables false
set_option linter.unusedSimpArgs false
section
namespace Go.Acc
open Go
theorem lessB_irrefl : ∀ a : List UInt8, Op.bytesLess a a = false
 | [] => rfl
 | x :: a => by
  unfold Op.bytesLess
  rw [lessB_irrefl a, decide_eq_false (fun h => by rw [UInt8.lt_iff_toNat_lt] at h; omega)]; simp
theorem lessB_trans : ∀ {a b c : List UInt8}, Op.bytesLess a b = true → Op.bytesLess b c = true → Op.bytesLess a c = true
 | _, _, [], _, h2 => by simp [Op.bytesLess] at h2
 | _, [], z :: c, h1, _ => by simp [Op.bytesLess] at h1
 | [], y :: b, z :: c, _, _ => rfl
 | x :: a, y :: b, z :: c, h1, h2 => by
  simp only [Op.bytesLess, Bool.or_eq_true, decide_eq_true_eq, Bool.and_eq_true, beq_iff_eq, UInt8.lt_iff_toNat_lt] at h1 h2 ⊢
  rcases h1 with h1 | ⟨rfl, h1⟩ <;> rcases h2 with h2 | ⟨rfl, h2⟩
  ·left; omega
  ·left; exact h1
  ·left; exact h2
  ·right; exact ⟨rfl, lessB_trans h1 h2⟩
theorem lessB_tri : ∀ {a b : List UInt8}, Op.bytesLess a b = false → Op.bytesLess b a = false → a = b
 | [], [], _, _ => rfl
 | [], y :: b, h1, _ => by simp [Op.bytesLess] at h1
 | x :: a, [], _, h2 => by simp [Op.bytesLess] at h2
 | x :: a, y :: b, h1, h2 => by
  simp only [Op.bytesLess, Bool.or_eq_false_iff, decide_eq_false_iff_not, Bool.and_eq_false_iff, beq_eq_false_iff_ne, UInt8.lt_iff_toNat_lt] at h1 h2
  have e : x = y := UInt8.toNat_inj.1 (by omega)
  subst e
  rcases h1.2 with h | h
  ·exact absurd rfl h
  rcases h2.2 with h' | h'
  ·exact absurd rfl h'
  rw [lessB_tri h h']
theorem ltB_iff (x y : En) : ltB x y = true ↔ x.2.1 < y.2.1 ∨ (x.2.1 = y.2.1 ∧ Op.bytesLess x.1.toList y.1.toList = true) := by
 unfold ltB
 rw [Bool.or_eq_true, decide_eq_true_eq, Bool.and_eq_true, decide_eq_true_eq]
theorem ltB_trans {x y z : En} (h1 : ltB x y = true) (h2 : ltB y z = true) : ltB x z = true := by
 rw [ltB_iff] at h1 h2 ⊢
 rcases h1 with h1 | ⟨h1, g1⟩ <;> rcases h2 with h2 | ⟨h2, g2⟩
 ·left; omega
 ·left; omega
 ·left; omega
 ·right; exact ⟨by omega, lessB_trans g1 g2⟩
theorem toList_inj {a b : ByteArray} (h : a.toList = b.toList) : a = b := by
 rw [ByteArray.toList_eq, ByteArray.toList_eq] at h
 cases a; cases b
 simp only at h
 rw [Array.toList_inj] at h
 rw [h]
theorem ltB_tri {x y : En} (hne : x.1 ≠ y.1) (h : ltB x y = false) : ltB y x = true := by
 cases h2 : ltB y x with
 | true => rfl
 | false =>
  exfalso
  have h1' : ¬ ltB x y = true := by rw [h]; simp
  have h2' : ¬ ltB y x = true := by rw [h2]; simp
  rw [ltB_iff] at h1' h2'
  have hd : x.2.1 = y.2.1 := by omega
  refine hne (toList_inj (lessB_tri ?_ ?_))
  ·cases hb : Op.bytesLess x.1.toList y.1.toList with
   | false => rfl
   | true => exact absurd (.inr ⟨hd, hb⟩) h1'
  ·cases hb : Op.bytesLess y.1.toList x.1.toList with
   | false => rfl
   | true => exact absurd (.inr ⟨hd.symm, hb⟩) h2'
def posE (x : En) : List En → Nat
 | [] => 0
 | y :: r => if ltB y x = true then posE x r + 1 else 0
theorem posE_le (x : En) : ∀ E, posE x E ≤ E.length
 | [] => Nat.le_refl _
 | y :: r => by
  unfold posE
  split
  ·exact Nat.succ_le_succ (posE_le x r)
  ·exact Nat.zero_le _
theorem posE_uniq (x : En) : ∀ (E : List En) (i : Nat), i ≤ E.length → (∀ k y, k < i → E[k]? = some y → ltB y x = true) → (∀ k y, i ≤ k → E[k]? = some y → ltB y x = false) → posE x E = i
 | [], i, hi, _, _ => by simp at hi; subst hi; rfl
 | y :: r, 0, _, _, h2 => by
  unfold posE
  rw [if_neg (by rw [h2 0 y (Nat.le_refl _) rfl]; simp)]
 | y :: r, i + 1, hi, h1, h2 => by
  unfold posE
  rw [if_pos (h1 0 y (Nat.succ_pos _) rfl), posE_uniq x r i (by simpa using hi) (fun k z hk hz => h1 (k + 1) z (by omega) (by simpa using hz)) (fun k z hk hz => h2 (k + 1) z (by omega) (by simpa using hz))]
def srtE (E : List En) : Prop := ∀ (i k : Nat) (y z : En), i < k → E[i]? = some y → E[k]? = some z → ltB y z = true
theorem srtE_cons {x : En} {r : List En} : srtE (x :: r) ↔ (∀ y ∈ r, ltB x y = true) ∧ srtE r := by
 constructor
 ·intro h
  refine ⟨fun y hy => ?_, fun i k y z hik hy hz => h (i + 1) (k + 1) y z (by omega) (by simpa using hy) (by simpa using hz)⟩
  obtain ⟨k, hk⟩ := List.mem_iff_getElem?.1 hy
  exact h 0 (k + 1) x y (by omega) rfl (by simpa using hk)
 ·rintro ⟨h1, h2⟩ i k y z hik hy hz
  cases k with
  | zero => omega
  | succ k =>
   cases i with
   | zero => simp at hy hz; subst hy; exact h1 z (List.mem_of_getElem? hz)
   | succ i => exact h2 i k y z (by omega) (by simpa using hy) (by simpa using hz)
def insE (x : En) (E : List En) : List En := E.take (posE x E) ++ x :: E.drop (posE x E)
theorem insE_cons (x y : En) (r : List En) : insE x (y :: r) = if ltB y x = true then y :: insE x r else x :: y :: r := by
 unfold insE
 rw [posE]
 split
 ·rw [List.take_succ_cons, List.drop_succ_cons, List.cons_append]
 ·rfl
theorem mem_insE {x y : En} {E : List En} : y ∈ insE x E ↔ y = x ∨ y ∈ E := by
 unfold insE
 rw [List.mem_append, List.mem_cons]
 have : y ∈ E ↔ y ∈ E.take (posE x E) ∨ y ∈ E.drop (posE x E) := by rw [← List.mem_append, List.take_append_drop]
 rw [this]
 constructor
 ·rintro (h | h | h)
  ·exact .inr (.inl h)
  ·exact .inl h
  ·exact .inr (.inr h)
 ·rintro (h | h | h)
  ·exact .inr (.inl h)
  ·exact .inl h
  ·exact .inr (.inr h)
theorem insE_srt {x : En} : ∀ {E : List En}, srtE E → (∀ y ∈ E, y.1 ≠ x.1) → srtE (insE x E)
 | [], _, _ => by
  intro i k y z hik hy hz
  have hk : k < (insE x []).length := (List.getElem?_eq_some_iff.1 hz).1
  simp [insE] at hk
  omega
 | w :: r, h, hk => by
  have h' := srtE_cons.1 h
  rw [insE_cons]
  split
  ·rename_i hlt
   refine srtE_cons.2 ⟨fun y hy => ?_, insE_srt h'.2 fun y hy => hk y (List.mem_cons_of_mem _ hy)⟩
   rcases mem_insE.1 hy with rfl | hy
   ·exact hlt
   ·exact h'.1 y hy
  ·rename_i hlt
   have hwx : ltB x w = true := ltB_tri (hk w List.mem_cons_self) (by simpa using hlt)
   refine srtE_cons.2 ⟨fun y hy => ?_, h⟩
   rcases List.mem_cons.1 hy with rfl | hy
   ·exact hwx
   ·exact ltB_trans hwx (h'.1 y hy)
theorem hasC_iff {c : ByteArray} {ks : List ByteArray} : hasC c ks = true ↔ c ∈ ks := by
 unfold hasC
 simp
def keysE (E : List En) : List ByteArray := E.map (·.1)
theorem bkE_iff {A : List (ByteArray × Int)} : ∀ (E : List En) (ks : List ByteArray) (p : Option En), (∀ y, p = some y → ∀ z, z ∈ E → True) → (bkE A ks p E = 0 ↔ (∀ x ∈ E, enX x = 0 ∧ knownB A x = true) ∧ (keysE E).Nodup ∧ (∀ x ∈ E, x.1 ∉ ks) ∧ srtE E ∧ ∀ y, p = some y → ∀ z, E.head? = some z → ltB y z = true)
 | [], ks, p, _ => by
  refine ⟨fun _ => ⟨by simp, by simp [keysE], by simp, fun i k y z _ hy => by simp at hy, by simp⟩, fun _ => rfl⟩
 | x :: r, ks, p, _ => by
  unfold bkE
  have ih := bkE_iff (A := A) r (ks ++ [x.1]) (some x) (fun _ _ _ _ => trivial)
  by_cases h1 : enX x = 0
  ·rw [if_neg (fun hh => hh h1)]
   cases h2 : knownB A x with
   | false =>
    rw [if_pos rfl]
    refine ⟨fun h => by omega, fun h => ?_⟩
    have := (h.1 x List.mem_cons_self).2
    rw [h2] at this; cases this
   | true =>
    rw [if_neg (by simp)]
    by_cases h3 : hasC x.1 ks = true
    ·rw [if_pos h3]
     exact ⟨fun h => by omega, fun h => absurd (hasC_iff.1 h3) (h.2.2.1 x List.mem_cons_self)⟩
    rw [if_neg h3]
    by_cases h4 : badO p x = true
    ·rw [if_pos h4]
     refine ⟨fun h => by omega, fun h => ?_⟩
     cases p with
     | none => cases h4
     | some y =>
      have := h.2.2.2.2 y rfl x rfl
      simp [badO, this] at h4
    ·rw [if_neg h4, ih]
     constructor
     ·rintro ⟨g1, g2, g3, g4, g5⟩
      refine ⟨fun y hy => ?_, ?_, fun y hy => ?_, srtE_cons.2 ⟨?_, g4⟩, fun y hy z hz => ?_⟩
      ·rcases List.mem_cons.1 hy with rfl | hy
       ·exact ⟨h1, h2⟩
       ·exact g1 y hy
      ·refine List.nodup_cons.2 ⟨fun hm => ?_, g2⟩
       obtain ⟨y, hy, he⟩ := List.mem_map.1 hm
       exact g3 y hy (by rw [he]; simp)
      ·rcases List.mem_cons.1 hy with rfl | hy
       ·exact fun hm => h3 (hasC_iff.2 hm)
       ·exact fun hm => g3 y hy (List.mem_append_left _ hm)
      ·intro y hy
       cases r with
       | nil => simp at hy
       | cons z r' =>
        have hz := g5 x rfl z rfl
        rcases List.mem_cons.1 hy with rfl | hy
        ·exact hz
        ·exact ltB_trans hz ((srtE_cons.1 g4).1 y hy)
      ·simp at hz
       subst hz
       subst hy
       simpa [badO] using h4
     ·rintro ⟨g1, g2, g3, g4, g5⟩
      have g2' := List.nodup_cons.1 g2
      refine ⟨fun y hy => g1 y (List.mem_cons_of_mem _ hy), g2'.2, fun y hy hm => ?_, (srtE_cons.1 g4).2, fun y hy z hz => ?_⟩
      ·rcases List.mem_append.1 hm with hm | hm
       ·exact g3 y (List.mem_cons_of_mem _ hy) hm
       ·simp at hm
        exact g2'.1 (List.mem_map.2 ⟨y, hy, hm⟩)
      ·simp at hy
       subst hy
       exact (srtE_cons.1 g4).1 z (List.mem_of_head? hz)
  ·rw [if_pos h1]
   exact ⟨fun h => absurd h h1, fun h => absurd (h.1 x List.mem_cons_self).1 h1⟩
theorem bkChk_iff {A : List (ByteArray × Int)} {E : List En} {s : Int} : bkChk A E s = 0 ↔ acChk A = 0 ∧ (-1 ≤ s ∧ s ≤ 292193) ∧ E.length ≤ 60 ∧ (∀ x ∈ E, enX x = 0 ∧ knownB A x = true) ∧ (keysE E).Nodup ∧ srtE E := by
 unfold bkChk
 by_cases h1 : acChk A = 0
 ·rw [if_neg (fun hh => hh h1)]
  by_cases h2 : -1 ≤ s ∧ s ≤ 292193
  ·rw [if_neg (fun hh => hh h2)]
   by_cases h3 : 60 < E.length
   ·rw [if_pos h3]
    exact ⟨fun h => by omega, fun h => by omega⟩
   ·rw [if_neg h3, bkE_iff E [] none (fun _ _ _ _ => trivial)]
    constructor
    ·rintro ⟨g1, g2, _, g4, _⟩
     exact ⟨h1, h2, by omega, g1, g2, g4⟩
    ·rintro ⟨_, _, _, g1, g2, g4⟩
     exact ⟨g1, g2, by simp, g4, by simp⟩
  ·rw [if_pos h2]
   exact ⟨fun h => by omega, fun h => absurd h.2.1 h2⟩
 ·rw [if_pos h1]
  exact ⟨fun h => absurd h h1, fun h => absurd h.1 h1⟩
/-! ### posted -/
def getE (k : ByteArray) (E : List En) : Option En := E.find? fun y => decide (y.1 = k)
theorem getE_none {k : ByteArray} {E : List En} (h : getE k E = none) : ∀ y ∈ E, y.1 ≠ k := fun y hy => by
 have := List.find?_eq_none.1 h y hy
 simpa using this
theorem getE_some {k : ByteArray} {E : List En} {y : En} (h : getE k E = some y) : y ∈ E ∧ y.1 = k := by
 refine ⟨List.mem_of_find?_eq_some h, ?_⟩
 have := List.find?_some h
 simpa using this
def postE (A : List (ByteArray × Int)) (E : List En) (s : Int) (x : En) : Int :=
 if bkChk A E s ≠ 0 then bkChk A E s else if enX x ≠ 0 then enX x else match getE x.1 E with
 | some y => if y = x then 0 else 5
 | none => if knownB A x = false then 4 else if x.2.1 ≤ s then 9 else if E.length = 60 then 2 else 0
def postB (E : List En) (x : En) : List En := match getE x.1 E with
 | some _ => E
 | none => insE x E
theorem insE_len (x : En) (E : List En) : (insE x E).length = E.length + 1 := by
 have := posE_le x E
 unfold insE
 simp only [List.length_append, List.length_cons, List.length_take, List.length_drop]
 omega
theorem insE_perm (x : En) (E : List En) : (insE x E).Perm (x :: E) := by
 unfold insE
 refine List.perm_middle.trans ?_
 rw [List.take_append_drop]
theorem postE_ok {A : List (ByteArray × Int)} {E : List En} {s : Int} {x : En} (h : postE A E s x = 0) : bkChk A E s = 0 ∧ enX x = 0 ∧ bkChk A (postB E x) s = 0 := by
 unfold postE at h
 by_cases h1 : bkChk A E s = 0
 ·rw [if_neg (fun hh => hh h1)] at h
  by_cases h2 : enX x = 0
  ·rw [if_neg (fun hh => hh h2)] at h
   refine ⟨h1, h2, ?_⟩
   unfold postB
   split at h
   ·rename_i y hy
    exact h1
   ·rename_i hn
    cases h3 : knownB A x with
    | false => rw [if_pos h3] at h; omega
    | true =>
     rw [if_neg (by rw [h3]; simp)] at h
     by_cases h4 : x.2.1 ≤ s
     ·rw [if_pos h4] at h; omega
     rw [if_neg h4] at h
     by_cases h5 : E.length = 60
     ·rw [if_pos h5] at h; omega
     obtain ⟨g1, g2, g3, g4, g5, g6⟩ := bkChk_iff.1 h1
     have hno := getE_none hn
     refine bkChk_iff.2 ⟨g1, g2, by show (insE x E).length ≤ 60; rw [insE_len]; omega, fun y hy => ?_, ?_, insE_srt g6 hno⟩
     ·rcases mem_insE.1 hy with rfl | hy
      ·exact ⟨h2, h3⟩
      ·exact g4 y hy
     ·have hp : (keysE (insE x E)).Perm (x.1 :: keysE E) := (insE_perm x E).map (fun y : En => y.1)
      rw [hp.nodup_iff]
      refine List.nodup_cons.2 ⟨fun hm => ?_, g5⟩
      obtain ⟨y, hy, he⟩ := List.mem_map.1 hm
      exact hno y hy he
  ·rw [if_pos h2] at h; exact absurd h h2
 ·rw [if_pos h1] at h; exact absurd h h1
end Go.Acc
end
section
namespace Go.Acc
open Go
def neg (n : Int) : Int := if 0 < n then 0 else -n
/-! ### the map of sums: its keys are accounts, each once -/
/-! ### codes of accounts that may be: each once -/
theorem acE_codes : ∀ (A : List (ByteArray × Int)) (p : Option ByteArray), acE p A = 0 → (∀ a ∈ A, 0 ≤ a.2 ∧ a.2 ≤ 4) ∧ (A.map (·.1)).Nodup ∧ ∀ c, p = some c → ∀ a ∈ A, Op.bytesLess c.toList a.1.toList = true
 | [], _, _ => ⟨by simp, by simp, by simp⟩
 | (c, k) :: A, p, h => by
  unfold acE at h
  by_cases h1 : codeOk c = false
  ·rw [if_pos h1] at h; omega
  rw [if_neg h1] at h
  by_cases h2 : ¬ (0 ≤ k ∧ k ≤ 4)
  ·rw [if_pos h2] at h; omega
  rw [if_neg h2] at h
  obtain ⟨h, h3⟩ : acE (some c) A = 0 ∧ ∀ d, p = some d → Op.bytesLess d.toList c.toList = true := by
   cases p with
   | none => exact ⟨by simpa using h, fun d hd => by cases hd⟩
   | some d =>
    cases hb : Op.bytesLess d.toList c.toList with
    | true => exact ⟨by simpa [hb] using h, fun d' hd => by cases hd; exact hb⟩
    | false => simp [hb] at h
  obtain ⟨g1, g2, g3⟩ := acE_codes A (some c) h
  refine ⟨fun a ha => ?_, ?_, fun d hd a ha => ?_⟩
  ·rcases List.mem_cons.1 ha with rfl | ha
   ·exact Decidable.not_not.1 h2
   ·exact g1 a ha
  ·rw [List.map_cons, List.nodup_cons]
   refine ⟨fun hm => ?_, g2⟩
   obtain ⟨a, ha, he⟩ := List.mem_map.1 hm
   have := g3 c rfl a ha
   rw [he, lessB_irrefl] at this
   cases this
  ·subst hd
   have hdc : Op.bytesLess d.toList c.toList = true := h3 d rfl
   rcases List.mem_cons.1 ha with rfl | ha
   ·exact hdc
   ·exact lessB_trans hdc (g3 c rfl a ha)
theorem acChk_codes {A : List (ByteArray × Int)} (h : acChk A = 0) : A.length ≤ 24 ∧ (∀ a ∈ A, 0 ≤ a.2 ∧ a.2 ≤ 4) ∧ (A.map (·.1)).Nodup := by
 unfold acChk at h
 by_cases h1 : 24 < A.length
 ·rw [if_pos h1] at h; omega
 ·rw [if_neg h1] at h
  obtain ⟨g1, g2, _⟩ := acE_codes A none h
  exact ⟨by omega, g1, g2⟩
/-! ### a sum over accounts is one over the map -/
/-! ### entries that a loop over a map has seen -/
end Go.Acc
end
section
namespace Go.Proofs.YtdmkmbaaemhhhaaGreatDoor
open Go Go.Ev Go.RowKit Go.Acc
theorem fam_ex {P : Program} {J : World → Prop} {f : FuncId} {α : Type} (a : α → List V) (r : α → V × List Ev.Blk) (hi : ∀ i j, a i = a j → r i = r j) (h : ∀ i, SoundAt P J f (a i) (r i).1 (r i).2) :
  ∃ F : List V → Option (V × List Ev.Blk), (∀ i, F (a i) = some (r i)) ∧ Snd P J f F := by
 refine ⟨fun x => open Classical in if h : ∃ i, a i = x then some (r h.choose) else none, fun i => ?_, fun args r' bs h' => ?_⟩
 ·have hx : ∃ j, a j = a i := ⟨i, rfl⟩
  simp only [dif_pos hx]
  rw [hi _ _ hx.choose_spec]
 ·by_cases hx : ∃ i, a i = args
  ·simp only [dif_pos hx] at h'
   have e := Option.some.inj h'
   have := h hx.choose
   rw [e, hx.choose_spec] at this
   exact this
  ·simp only [dif_neg hx] at h'
   cases h'
end Go.Proofs.YtdmkmbaaemhhhaaGreatDoor
end
