/-
  Steps of the proof of LogReplays: BookTellsW PoP TsP TsE DecE.
-/
import Derived.Test.YtdmkmbaaemhhhaaGreatDoorP18
import Derived.Test.YtdmkmbaaemhhhaaGreatDoorP20
import Derived.Test.YtdmkmbaaemhhhaaGreatDoorP19
set_option linter.unusedVariables false
set_option linter.unusedSimpArgs false
section
namespace Go.Proofs.YtdmkmbaaemhhhaaGreatDoor
open Go Go.Ev Go.RowKit Go.Acc
set_option maxRecDepth 100000 in
theorem ty_acct {m : Nat} {c : V} (h : TyV Tryz.prog (m + 2) 78 c) : ∃ p, c = acV p ∧ True := by
 obtain ⟨cs, rfl, hl, hf⟩ := ty_struct h Tryz.underlying78
 have hc : Tryz.prog.cellsOf 78 = 2 := by kernel_rfl
 rw [hc] at hl
 match cs, hl, hf with
 | [a, b], _, hf =>
  have h0 := hf _ (by simp only [List.mem_toArray]; exact List.mem_cons_self)
  have h1 := hf _ (by simp only [List.mem_toArray]; exact List.mem_cons_of_mem _ List.mem_cons_self)
  have c0 : Tryz.prog.cellsOf 9 = 1 := by kernel_rfl
  have c1 : Tryz.prog.cellsOf 3 = 1 := by kernel_rfl
  simp only [c0, c1, List.drop_zero, List.take_succ_cons, List.take_zero, List.drop_succ_cons] at h0 h1
  obtain ⟨s, rfl, _⟩ := tyC_strs h0 Tryz.underlying9
  obtain ⟨n, rfl⟩ := tyC_ints h1 Tryz.underlying3
  exact ⟨(s, n), rfl, trivial⟩
set_option maxRecDepth 100000 in
theorem ty_book {m : Nat} {c : V} (h : TyV Tryz.prog (m + 6) 25 c) : ∃ (A : List (ByteArray × Int)) (E : List En) (s : Int), c = bkV A E s ∧ okEn E := by
 obtain ⟨cs, rfl, hl, hf⟩ := ty_struct h Tryz.underlying25
 have hc : Tryz.prog.cellsOf 25 = 3 := by kernel_rfl
 rw [hc] at hl
 match cs, hl, hf with
 | [a, b, d], _, hf =>
  have h0 := hf _ (by simp only [List.mem_toArray]; exact List.mem_cons_self)
  have h1 := hf _ (by simp only [List.mem_toArray]; exact List.mem_cons_of_mem _ List.mem_cons_self)
  have h2 := hf _ (by simp only [List.mem_toArray]; exact List.mem_cons_of_mem _ (List.mem_cons_of_mem _ List.mem_cons_self))
  have c0 : Tryz.prog.cellsOf 22 = 1 := by kernel_rfl
  have c1 : Tryz.prog.cellsOf 23 = 1 := by kernel_rfl
  have c2 : Tryz.prog.cellsOf 3 = 1 := by kernel_rfl
  have c3 : Tryz.prog.cellsOf 78 = 2 := by kernel_rfl
  have c4 : Tryz.prog.cellsOf 28 = 3 := by kernel_rfl
  simp only [c0, c1, c2, List.drop_zero, List.take_succ_cons, List.take_zero, List.drop_succ_cons] at h0 h1 h2
  obtain ⟨ac, rfl, ha, has⟩ := tyC_slices h0 Tryz.underlying22
  obtain ⟨es, rfl, he, hes⟩ := tyC_slices h1 Tryz.underlying23
  obtain ⟨s, rfl⟩ := tyC_ints h2 Tryz.underlying3
  obtain ⟨A, rfl, _⟩ := map_of_all (f := acV) (p := fun _ => True) fun x hx => ty_acct (m := m + 2) (has x hx)
  obtain ⟨E, rfl, hE⟩ := map_of_all (f := enW) (p := fun x : En => x.1.size ≤ maxLen ∧ x.2.2.length ≤ maxLen) fun x hx => by
   obtain ⟨k, d, l, rfl, hk, hl⟩ := ty_entry (m := m) (hes x hx)
   exact ⟨(k, d, l), rfl, hk, hl⟩
  rw [c3, c4]
  exact ⟨A, E, s, rfl, by simpa using he, hE⟩
end Go.Proofs.YtdmkmbaaemhhhaaGreatDoor
end
section
namespace Go.Acc
open Go
theorem lessB_irrefl : ∀ a : List UInt8, Op.bytesLess a a = false
 | [] => rfl
 | x :: a => by
  unfold Op.bytesLess
  rw [lessB_irrefl a, decide_eq_false (fun h => by rw [UInt8.lt_iff_toNat_lt] at h; omega)]; simp
theorem lessB_trans : ∀ {a b c : List UInt8}, Op.bytesLess a b = true → Op.bytesLess b c = true → Op.bytesLess a c = true
 | _, _, [], _, h2 => by simp [Op.bytesLess] at h2
 | _, [], z :: c, h1, _ => by simp [Op.bytesLess] at h1
 | [], y :: b, z :: c, _, _ => rfl
 | x :: a, y :: b, z :: c, h1, h2 => by
  simp only [Op.bytesLess, Bool.or_eq_true, decide_eq_true_eq, Bool.and_eq_true, beq_iff_eq, UInt8.lt_iff_toNat_lt] at h1 h2 ⊢
  rcases h1 with h1 | ⟨rfl, h1⟩ <;> rcases h2 with h2 | ⟨rfl, h2⟩
  ·left; omega
  ·left; exact h1
  ·left; exact h2
  ·right; exact ⟨rfl, lessB_trans h1 h2⟩
theorem lessB_tri : ∀ {a b : List UInt8}, Op.bytesLess a b = false → Op.bytesLess b a = false → a = b
 | [], [], _, _ => rfl
 | [], y :: b, h1, _ => by simp [Op.bytesLess] at h1
 | x :: a, [], _, h2 => by simp [Op.bytesLess] at h2
 | x :: a, y :: b, h1, h2 => by
  simp only [Op.bytesLess, Bool.or_eq_false_iff, decide_eq_false_iff_not, Bool.and_eq_false_iff, beq_eq_false_iff_ne, UInt8.lt_iff_toNat_lt] at h1 h2
  have e : x = y := UInt8.toNat_inj.1 (by omega)
  subst e
  rcases h1.2 with h | h
  ·exact absurd rfl h
  rcases h2.2 with h' | h'
  ·exact absurd rfl h'
  rw [lessB_tri h h']
theorem ltB_iff (x y : En) : ltB x y = true ↔ x.2.1 < y.2.1 ∨ (x.2.1 = y.2.1 ∧ Op.bytesLess x.1.toList y.1.toList = true) := by
 unfold ltB
 rw [Bool.or_eq_true, decide_eq_true_eq, Bool.and_eq_true, decide_eq_true_eq]
theorem ltB_trans {x y z : En} (h1 : ltB x y = true) (h2 : ltB y z = true) : ltB x z = true := by
 rw [ltB_iff] at h1 h2 ⊢
 rcases h1 with h1 | ⟨h1, g1⟩ <;> rcases h2 with h2 | ⟨h2, g2⟩
 ·left; omega
 ·left; omega
 ·left; omega
 ·right; exact ⟨by omega, lessB_trans g1 g2⟩
theorem toList_inj {a b : ByteArray} (h : a.toList = b.toList) : a = b := by
 rw [ByteArray.toList_eq, ByteArray.toList_eq] at h
 cases a; cases b
 simp only at h
 rw [Array.toList_inj] at h
 rw [h]
theorem ltB_tri {x y : En} (hne : x.1 ≠ y.1) (h : ltB x y = false) : ltB y x = true := by
 cases h2 : ltB y x with
 | true => rfl
 | false =>
  exfalso
  have h1' : ¬ ltB x y = true := by rw [h]; simp
  have h2' : ¬ ltB y x = true := by rw [h2]; simp
  rw [ltB_iff] at h1' h2'
  have hd : x.2.1 = y.2.1 := by omega
  refine hne (toList_inj (lessB_tri ?_ ?_))
  ·cases hb : Op.bytesLess x.1.toList y.1.toList with
   | false => rfl
   | true => exact absurd (.inr ⟨hd, hb⟩) h1'
  ·cases hb : Op.bytesLess y.1.toList x.1.toList with
   | false => rfl
   | true => exact absurd (.inr ⟨hd.symm, hb⟩) h2'
def posE (x : En) : List En → Nat
 | [] => 0
 | y :: r => if ltB y x = true then posE x r + 1 else 0
theorem posE_le (x : En) : ∀ E, posE x E ≤ E.length
 | [] => Nat.le_refl _
 | y :: r => by
  unfold posE
  split
  ·exact Nat.succ_le_succ (posE_le x r)
  ·exact Nat.zero_le _
theorem posE_uniq (x : En) : ∀ (E : List En) (i : Nat), i ≤ E.length → (∀ k y, k < i → E[k]? = some y → ltB y x = true) → (∀ k y, i ≤ k → E[k]? = some y → ltB y x = false) → posE x E = i
 | [], i, hi, _, _ => by simp at hi; subst hi; rfl
 | y :: r, 0, _, _, h2 => by
  unfold posE
  rw [if_neg (by rw [h2 0 y (Nat.le_refl _) rfl]; simp)]
 | y :: r, i + 1, hi, h1, h2 => by
  unfold posE
  rw [if_pos (h1 0 y (Nat.succ_pos _) rfl), posE_uniq x r i (by simpa using hi) (fun k z hk hz => h1 (k + 1) z (by omega) (by simpa using hz)) (fun k z hk hz => h2 (k + 1) z (by omega) (by simpa using hz))]
def srtE (E : List En) : Prop := ∀ (i k : Nat) (y z : En), i < k → E[i]? = some y → E[k]? = some z → ltB y z = true
theorem srtE_cons {x : En} {r : List En} : srtE (x :: r) ↔ (∀ y ∈ r, ltB x y = true) ∧ srtE r := by
 constructor
 ·intro h
  refine ⟨fun y hy => ?_, fun i k y z hik hy hz => h (i + 1) (k + 1) y z (by omega) (by simpa using hy) (by simpa using hz)⟩
  obtain ⟨k, hk⟩ := List.mem_iff_getElem?.1 hy
  exact h 0 (k + 1) x y (by omega) rfl (by simpa using hk)
 ·rintro ⟨h1, h2⟩ i k y z hik hy hz
  cases k with
  | zero => omega
  | succ k =>
   cases i with
   | zero => simp at hy hz; subst hy; exact h1 z (List.mem_of_getElem? hz)
   | succ i => exact h2 i k y z (by omega) (by simpa using hy) (by simpa using hz)
def insE (x : En) (E : List En) : List En := E.take (posE x E) ++ x :: E.drop (posE x E)
theorem insE_cons (x y : En) (r : List En) : insE x (y :: r) = if ltB y x = true then y :: insE x r else x :: y :: r := by
 unfold insE
 rw [posE]
 split
 ·rw [List.take_succ_cons, List.drop_succ_cons, List.cons_append]
 ·rfl
theorem mem_insE {x y : En} {E : List En} : y ∈ insE x E ↔ y = x ∨ y ∈ E := by
 unfold insE
 rw [List.mem_append, List.mem_cons]
 have : y ∈ E ↔ y ∈ E.take (posE x E) ∨ y ∈ E.drop (posE x E) := by rw [← List.mem_append, List.take_append_drop]
 rw [this]
 constructor
 ·rintro (h | h | h)
  ·exact .inr (.inl h)
  ·exact .inl h
  ·exact .inr (.inr h)
 ·rintro (h | h | h)
  ·exact .inr (.inl h)
  ·exact .inl h
  ·exact .inr (.inr h)
theorem insE_srt {x : En} : ∀ {E : List En}, srtE E → (∀ y ∈ E, y.1 ≠ x.1) → srtE (insE x E)
 | [], _, _ => by
  intro i k y z hik hy hz
  have hk : k < (insE x []).length := (List.getElem?_eq_some_iff.1 hz).1
  simp [insE] at hk
  omega
 | w :: r, h, hk => by
  have h' := srtE_cons.1 h
  rw [insE_cons]
  split
  ·rename_i hlt
   refine srtE_cons.2 ⟨fun y hy => ?_, insE_srt h'.2 fun y hy => hk y (List.mem_cons_of_mem _ hy)⟩
   rcases mem_insE.1 hy with rfl | hy
   ·exact hlt
   ·exact h'.1 y hy
  ·rename_i hlt
   have hwx : ltB x w = true := ltB_tri (hk w List.mem_cons_self) (by simpa using hlt)
   refine srtE_cons.2 ⟨fun y hy => ?_, h⟩
   rcases List.mem_cons.1 hy with rfl | hy
   ·exact hwx
   ·exact ltB_trans hwx (h'.1 y hy)
theorem hasC_iff {c : ByteArray} {ks : List ByteArray} : hasC c ks = true ↔ c ∈ ks := by
 unfold hasC
 simp
def keysE (E : List En) : List ByteArray := E.map (·.1)
theorem bkE_iff {A : List (ByteArray × Int)} : ∀ (E : List En) (ks : List ByteArray) (p : Option En), (∀ y, p = some y → ∀ z, z ∈ E → True) → (bkE A ks p E = 0 ↔ (∀ x ∈ E, enX x = 0 ∧ knownB A x = true) ∧ (keysE E).Nodup ∧ (∀ x ∈ E, x.1 ∉ ks) ∧ srtE E ∧ ∀ y, p = some y → ∀ z, E.head? = some z → ltB y z = true)
 | [], ks, p, _ => by
  refine ⟨fun _ => ⟨by simp, by simp [keysE], by simp, fun i k y z _ hy => by simp at hy, by simp⟩, fun _ => rfl⟩
 | x :: r, ks, p, _ => by
  unfold bkE
  have ih := bkE_iff (A := A) r (ks ++ [x.1]) (some x) (fun _ _ _ _ => trivial)
  by_cases h1 : enX x = 0
  ·rw [if_neg (fun hh => hh h1)]
   cases h2 : knownB A x with
   | false =>
    rw [if_pos rfl]
    refine ⟨fun h => by omega, fun h => ?_⟩
    have := (h.1 x List.mem_cons_self).2
    rw [h2] at this; cases this
   | true =>
    rw [if_neg (by simp)]
    by_cases h3 : hasC x.1 ks = true
    ·rw [if_pos h3]
     exact ⟨fun h => by omega, fun h => absurd (hasC_iff.1 h3) (h.2.2.1 x List.mem_cons_self)⟩
    rw [if_neg h3]
    by_cases h4 : badO p x = true
    ·rw [if_pos h4]
     refine ⟨fun h => by omega, fun h => ?_⟩
     cases p with
     | none => cases h4
     | some y =>
      have := h.2.2.2.2 y rfl x rfl
      simp [badO, this] at h4
    ·rw [if_neg h4, ih]
     constructor
     ·rintro ⟨g1, g2, g3, g4, g5⟩
      refine ⟨fun y hy => ?_, ?_, fun y hy => ?_, srtE_cons.2 ⟨?_, g4⟩, fun y hy z hz => ?_⟩
      ·rcases List.mem_cons.1 hy with rfl | hy
       ·exact ⟨h1, h2⟩
       ·exact g1 y hy
      ·refine List.nodup_cons.2 ⟨fun hm => ?_, g2⟩
       obtain ⟨y, hy, he⟩ := List.mem_map.1 hm
       exact g3 y hy (by rw [he]; simp)
      ·rcases List.mem_cons.1 hy with rfl | hy
       ·exact fun hm => h3 (hasC_iff.2 hm)
       ·exact fun hm => g3 y hy (List.mem_append_left _ hm)
      ·intro y hy
       cases r with
       | nil => simp at hy
       | cons z r' =>
        have hz := g5 x rfl z rfl
        rcases List.mem_cons.1 hy with rfl | hy
        ·exact hz
        ·exact ltB_trans hz ((srtE_cons.1 g4).1 y hy)
      ·simp at hz
       subst hz
       subst hy
       simpa [badO] using h4
     ·rintro ⟨g1, g2, g3, g4, g5⟩
      have g2' := List.nodup_cons.1 g2
      refine ⟨fun y hy => g1 y (List.mem_cons_of_mem _ hy), g2'.2, fun y hy hm => ?_, (srtE_cons.1 g4).2, fun y hy z hz => ?_⟩
      ·rcases List.mem_append.1 hm with hm | hm
       ·exact g3 y (List.mem_cons_of_mem _ hy) hm
       ·simp at hm
        exact g2'.1 (List.mem_map.2 ⟨y, hy, hm⟩)
      ·simp at hy
       subst hy
       exact (srtE_cons.1 g4).1 z (List.mem_of_head? hz)
  ·rw [if_pos h1]
   exact ⟨fun h => absurd h h1, fun h => absurd (h.1 x List.mem_cons_self).1 h1⟩
theorem bkChk_iff {A : List (ByteArray × Int)} {E : List En} {s : Int} : bkChk A E s = 0 ↔ acChk A = 0 ∧ (-1 ≤ s ∧ s ≤ 292193) ∧ E.length ≤ 60 ∧ (∀ x ∈ E, enX x = 0 ∧ knownB A x = true) ∧ (keysE E).Nodup ∧ srtE E := by
 unfold bkChk
 by_cases h1 : acChk A = 0
 ·rw [if_neg (fun hh => hh h1)]
  by_cases h2 : -1 ≤ s ∧ s ≤ 292193
  ·rw [if_neg (fun hh => hh h2)]
   by_cases h3 : 60 < E.length
   ·rw [if_pos h3]
    exact ⟨fun h => by omega, fun h => by omega⟩
   ·rw [if_neg h3, bkE_iff E [] none (fun _ _ _ _ => trivial)]
    constructor
    ·rintro ⟨g1, g2, _, g4, _⟩
     exact ⟨h1, h2, by omega, g1, g2, g4⟩
    ·rintro ⟨_, _, _, g1, g2, g4⟩
     exact ⟨g1, g2, by simp, g4, by simp⟩
  ·rw [if_pos h2]
   exact ⟨fun h => by omega, fun h => absurd h.2.1 h2⟩
 ·rw [if_pos h1]
  exact ⟨fun h => absurd h h1, fun h => absurd h.1 h1⟩
/-! ### posted -/
def getE (k : ByteArray) (E : List En) : Option En := E.find? fun y => decide (y.1 = k)
theorem getE_none {k : ByteArray} {E : List En} (h : getE k E = none) : ∀ y ∈ E, y.1 ≠ k := fun y hy => by
 have := List.find?_eq_none.1 h y hy
 simpa using this
def postE (A : List (ByteArray × Int)) (E : List En) (s : Int) (x : En) : Int :=
 if bkChk A E s ≠ 0 then bkChk A E s else if enX x ≠ 0 then enX x else match getE x.1 E with
 | some y => if y = x then 0 else 5
 | none => if knownB A x = false then 4 else if x.2.1 ≤ s then 9 else if E.length = 60 then 2 else 0
def postB (E : List En) (x : En) : List En := match getE x.1 E with
 | some _ => E
 | none => insE x E
theorem insE_len (x : En) (E : List En) : (insE x E).length = E.length + 1 := by
 have := posE_le x E
 unfold insE
 simp only [List.length_append, List.length_cons, List.length_take, List.length_drop]
 omega
theorem insE_perm (x : En) (E : List En) : (insE x E).Perm (x :: E) := by
 unfold insE
 refine List.perm_middle.trans ?_
 rw [List.take_append_drop]
theorem postE_ok {A : List (ByteArray × Int)} {E : List En} {s : Int} {x : En} (h : postE A E s x = 0) : bkChk A E s = 0 ∧ enX x = 0 ∧ bkChk A (postB E x) s = 0 := by
 unfold postE at h
 by_cases h1 : bkChk A E s = 0
 ·rw [if_neg (fun hh => hh h1)] at h
  by_cases h2 : enX x = 0
  ·rw [if_neg (fun hh => hh h2)] at h
   refine ⟨h1, h2, ?_⟩
   unfold postB
   split at h
   ·rename_i y hy
    exact h1
   ·rename_i hn
    cases h3 : knownB A x with
    | false => rw [if_pos h3] at h; omega
    | true =>
     rw [if_neg (by rw [h3]; simp)] at h
     by_cases h4 : x.2.1 ≤ s
     ·rw [if_pos h4] at h; omega
     rw [if_neg h4] at h
     by_cases h5 : E.length = 60
     ·rw [if_pos h5] at h; omega
     obtain ⟨g1, g2, g3, g4, g5, g6⟩ := bkChk_iff.1 h1
     have hno := getE_none hn
     refine bkChk_iff.2 ⟨g1, g2, by show (insE x E).length ≤ 60; rw [insE_len]; omega, fun y hy => ?_, ?_, insE_srt g6 hno⟩
     ·rcases mem_insE.1 hy with rfl | hy
      ·exact ⟨h2, h3⟩
      ·exact g4 y hy
     ·have hp : (keysE (insE x E)).Perm (x.1 :: keysE E) := (insE_perm x E).map (fun y : En => y.1)
      rw [hp.nodup_iff]
      refine List.nodup_cons.2 ⟨fun hm => ?_, g5⟩
      obtain ⟨y, hy, he⟩ := List.mem_map.1 hm
      exact hno y hy he
  ·rw [if_pos h2] at h; exact absurd h h2
 ·rw [if_pos h1] at h; exact absurd h h1
end Go.Acc
end
section
namespace Go.Acc
open Go
def pos (n : Int) : Int := if 0 < n then n else 0
def neg (n : Int) : Int := if 0 < n then 0 else -n
/-! ### the map of sums: its keys are accounts, each once -/
/-! ### codes of accounts that may be: each once -/
/-! ### a sum over accounts is one over the map -/
/-! ### entries that a loop over a map has seen -/
end Go.Acc
end
section
namespace Go.Proofs.YtdmkmbaaemhhhaaGreatDoor
open Go Go.Ev Go.RowKit Go.Acc
theorem fam_ex {P : Program} {J : World → Prop} {f : FuncId} {α : Type} (a : α → List V) (r : α → V × List Ev.Blk) (hi : ∀ i j, a i = a j → r i = r j) (h : ∀ i, SoundAt P J f (a i) (r i).1 (r i).2) :
  ∃ F : List V → Option (V × List Ev.Blk), (∀ i, F (a i) = some (r i)) ∧ Snd P J f F := by
 refine ⟨fun x => open Classical in if h : ∃ i, a i = x then some (r h.choose) else none, fun i => ?_, fun args r' bs h' => ?_⟩
 ·have hx : ∃ j, a j = a i := ⟨i, rfl⟩
  simp only [dif_pos hx]
  rw [hi _ _ hx.choose_spec]
 ·by_cases hx : ∃ i, a i = args
  ·simp only [dif_pos hx] at h'
   have e := Option.some.inj h'
   have := h hx.choose
   rw [e, hx.choose_spec] at this
   exact this
  ·simp only [dif_neg hx] at h'
   cases h'
end Go.Proofs.YtdmkmbaaemhhhaaGreatDoor
end
section
namespace Go.Acc
open Go
def digB (n : Nat) : ByteArray := (⟨#[48, 49, 50, 51, 52, 53, 54, 55, 56, 57]⟩ : ByteArray).extract n (n + 1)
def decF : Nat → Nat → ByteArray
 | 0, n => digB n
 | k + 1, n => if n < 10 then digB n else decF k (n / 10) ++ digB (n % 10)
theorem decF_lt (k : Nat) {n : Nat} (h : n < 10) : decF k n = digB n := by
 cases k with
 | zero => rfl
 | succ k => unfold decF; rw [if_pos h]
theorem digB_size {n : Nat} (h : n < 10) : (digB n).size = 1 := by
 unfold digB
 rw [ByteArray.size_extract]
 have : (⟨#[48, 49, 50, 51, 52, 53, 54, 55, 56, 57]⟩ : ByteArray).size = 10 := rfl
 omega
theorem decF_size : ∀ (k n : Nat), n < 10 ^ (k + 1) → (decF k n).size ≤ k + 1
 | 0, n, h => by
  have h10 : n < 10 := by simpa using h
  show (digB n).size ≤ 1
  rw [digB_size h10]
  exact Nat.le_refl _
 | k + 1, n, h => by
  unfold decF
  split
  ·rename_i h10; rw [digB_size h10]; omega
  ·have h1 : n / 10 < 10 ^ (k + 1) := by rw [Nat.div_lt_iff_lt_mul (by omega)]; rw [Nat.pow_succ] at h; exact h
   have := decF_size k (n / 10) h1
   rw [ByteArray.size_append, digB_size (Nat.mod_lt _ (by omega))]
   omega
end Go.Acc
namespace Go.Proofs.YtdmkmbaaemhhhaaGreatDoor
open Go Go.Ev Go.RowKit Go.Acc
set_option maxHeartbeats 4000000
theorem bin_add_str {x y : ByteArray} (h : ((x.size + y.size : Nat) : Int) ≤ 9223372036854775807) : binV .add (.str x) (.str y) = some (.str (x ++ y)) := by
 unfold binV
 exact if_pos (by omega)
theorem dec_small {J : World → Prop} (hJ : Stable J) (n : Nat) (h : n < 10) : SoundAt Tryz.prog J 60 [.int .i64 n] (.str (digB n)) [] := by
 have h0 : ¬ (n : Int) < 0 := by omega
 have h1 : (n : Int) < 10 := by omega
 have hs : ByteArray.size (⟨#[48, 49, 50, 51, 52, 53, 54, 55, 56, 57]⟩ : ByteArray) = 10 := rfl
 have e1 : ((n : Int)).toNat = n := by omega
 have e2 : ((n : Int) + 1).toNat = n + 1 := by omega
 have c1 : (n : Int) + 1 ≤ 10 := by omega
 have c2 : (n : Int) ≤ ((n + 1 : Nat) : Int) := by omega
 have c3 : 0 ≤ (n : Int) + 1 := by omega
 have c4 : 0 ≤ (n : Int) := by omega
 have hd : digB n = (⟨#[48, 49, 50, 51, 52, 53, 54, 55, 56, 57]⟩ : ByteArray).extract n (n + 1) := rfl
 rw [hd]
 refine evFn (l := []) (nv := nv0) (fz := fz0) (dr := dr60) (dd := dd60) (lam := []) (ms := ms0) trivial hJ trivial ms0_ok Tryz.func60 rfl rfl (Nat.le_of_ble_eq_true rfl) (Nat.le_of_ble_eq_true rfl) drOk60 ?_
 dsimp only [Tryz.f60, dr60, dd60, Option.getD_some]
 refine ev_start ?_
 simp (disch := omega) only [h0, h1, hs, c1, c2, c3, c4, e1, e2, and_self, go_sem, evP_D, evD_guard, evD_cons, evD_zero, evD_nil]
theorem dec_nat {J : World → Prop} (hJ : Stable J) : ∀ (k n : Nat), n < 10 ^ (k + 1) → k ≤ 18 → (n : Int) ≤ 9223372036854775807 → SoundAt Tryz.prog J 60 [.int .i64 n] (.str (decF k n)) []
 | 0, n, h, _, _ => dec_small hJ n (by simpa using h)
 | k + 1, n, h, hk, hn => by
  by_cases h10 : n < 10
  ·rw [decF_lt _ h10]; exact dec_small hJ n h10
  obtain ⟨DF, hDF, hDFs⟩ := fam_ex (f := 60) (fun m : { m : Nat // m < 10 ^ (k + 1) ∧ (m : Int) ≤ 9223372036854775807 } => [V.int .i64 (m.1 : Int)]) (fun m => (V.str (decF k m.1), [])) (fun i j hij => by
   simp only [List.cons.injEq, V.int.injEq, true_and, and_true] at hij
   have : i.1 = j.1 := by omega
   rw [this]) (fun m => dec_nat hJ k m.1 m.2.1 (by omega) m.2.2)
  have hq : (n : Int).tdiv 10 = ((n / 10 : Nat) : Int) := rfl
  have hr : (n : Int).tmod 10 = ((n % 10 : Nat) : Int) := rfl
  have d1 : n / 10 < 10 ^ (k + 1) := by rw [Nat.div_lt_iff_lt_mul (by omega)]; rw [Nat.pow_succ] at h; exact h
  have hp : 10 ≤ 10 ^ (k + 1) := by rw [Nat.pow_succ]; have : 0 < 10 ^ k := Nat.pow_pos (by omega); omega
  have m1 := Nat.mod_lt n (show 0 < 10 by omega)
  have f1 := hDF ⟨n / 10, d1, by omega⟩
  have f2 := hDF ⟨n % 10, by omega, by omega⟩
  simp only [decF_lt k m1] at f1 f2
  have s1 := decF_size k (n / 10) d1
  have s2 := digB_size m1
  have e : decF (k + 1) n = decF k (n / 10) ++ digB (n % 10) := by rw [decF]; exact if_neg h10
  have h0 : ¬ (n : Int) < 0 := by omega
  have h1 : ¬ (n : Int) < 10 := by omega
  have w1 : IntKind.i64.wrap ((n / 10 : Nat) : Int) = ((n / 10 : Nat) : Int) := by rw [IntKind.wrap_i64]; omega
  rw [e]
  generalize n / 10 = Q at *
  generalize n % 10 = R at *
  refine evFn (l := [(60, DF)]) (nv := nv0) (fz := fz0) (dr := dr60) (dd := dd60) (lam := []) (ms := ms0) ⟨hDFs, trivial⟩ hJ trivial ms0_ok Tryz.func60 rfl rfl (Nat.le_of_ble_eq_true rfl) (Nat.le_of_ble_eq_true rfl) drOk60 ?_
  dsimp only [Tryz.f60, dr60, dd60, Option.getD_some]
  refine ev_start ?_
  simp (disch := omega) only [h0, h1, hq, hr, w1, f1, f2, bin_add_str, go_sem, evP_D, evD_guard, evD_cons, evD_zero, evD_nil]
end Go.Proofs.YtdmkmbaaemhhhaaGreatDoor
end
