/-
  Entries as text, and back: the plain law.
-/
import Derived.Test.YtdmkmbaaemhhhaaGreatDoorP18
import Derived.Test.YtdmkmbaaemhhhaaGreatDoorP05
import Derived.Lib.Split
import Derived.Lib.LastIndexLaws
set_option linter.unusedVariables false
set_option linter.unusedSimpArgs false
namespace Go.Lg
open Go Go.Acc
/-! ### the text of an entry -/
def lnT (p : ByteArray × Int) : ByteArray := ⟨#[32]⟩ ++ p.1 ++ ⟨#[58]⟩ ++ itoaB p.2
def linesT (t : ByteArray) (l : List (ByteArray × Int)) : ByteArray := l.foldl (fun a p => a ++ lnT p) t
def headT (x : En) : ByteArray := x.1 ++ ⟨#[32]⟩ ++ itoaB x.2.1
def plainT (x : En) : ByteArray := linesT (headT x) x.2.2
def txtB (x : En) : ByteArray := plainT x ++ ⟨#[32, 61]⟩ ++ itoaB (sumB (plainT x)) ++ ⟨#[10]⟩
theorem linesT_snoc (t : ByteArray) (l : List (ByteArray × Int)) (p : ByteArray × Int) : linesT t (l ++ [p]) = linesT t l ++ lnT p := by unfold linesT; rw [List.foldl_append]; rfl
theorem linesT_take {l : List (ByteArray × Int)} {k : Nat} {p : ByteArray × Int} (t : ByteArray) (h : l[k]? = some p) : linesT t (l.take (k + 1)) = linesT t (l.take k) ++ lnT p := by
 rw [List.take_add_one, h]
 exact linesT_snoc _ _ _
def pcL (p : ByteArray × Int) : List UInt8 := p.1.data.toList ++ 58 :: Lib.itoa p.2
theorem linesT_data (l : List (ByteArray × Int)) : ∀ t : ByteArray, (linesT t l).data.toList = t.data.toList ++ (l.map pcL).flatMap (fun q => 32 :: q) := by
 induction l with
 | nil => intro t; simp [linesT]
 | cons p l ih =>
  intro t
  have e : linesT t (p :: l) = linesT (t ++ lnT p) l := rfl
  rw [e, ih, List.map_cons, List.flatMap_cons]
  simp [lnT, pcL, itoaB]
theorem plainT_data (x : En) : (plainT x).data.toList = x.1.data.toList ++ 32 :: (Lib.itoa x.2.1 ++ (x.2.2.map pcL).flatMap (fun q => 32 :: q)) := by
 unfold plainT
 rw [linesT_data]
 simp [headT, itoaB]
/-! ### words -/
theorem occ_one (s : List UInt8) (c : UInt8) (j : Nat) : Lib.occAt s [c] j = (s[j]? == some c) := by
 unfold Lib.occAt
 rw [← List.head?_drop]
 cases s.drop j with
 | nil => rfl
 | cons d t =>
  simp only [List.isPrefixOf, Bool.and_true, List.head?_cons]
  rw [Bool.eq_iff_iff]
  simp only [beq_iff_eq, Option.some.injEq]
  exact eq_comm
theorem index_at {a b : List UInt8} {c : UInt8} (h : c ∉ a) : Lib.index (a ++ c :: b) [c] = a.length := by
 refine Lib.index_first (by simp) ?_ fun j hj => ?_
 ·rw [occ_one, List.getElem?_append_right (Nat.le_refl _)]; simp
 ·rw [occ_one, List.getElem?_append_left hj, List.getElem?_eq_getElem hj]
  rw [beq_eq_false_iff_ne]
  intro e
  exact h (by have := Option.some.inj e; rw [← this]; exact List.getElem_mem hj)
theorem index_no {a : List UInt8} {c : UInt8} (h : c ∉ a) : Lib.index a [c] = -1 := by
 refine Lib.index_none fun j _ => ?_
 rw [occ_one, beq_eq_false_iff_ne]
 intro e
 exact h (List.mem_of_getElem? e)
theorem split_no {a : List UInt8} (h : (32 : UInt8) ∉ a) : Lib.split a [32] = [a] := by
 unfold Lib.split
 rw [Lib.count_miss (index_no h)]
 rfl
theorem split_at {a b : List UInt8} (h : (32 : UInt8) ∉ a) : Lib.split (a ++ 32 :: b) [32] = a :: Lib.split b [32] := by
 unfold Lib.split
 have hi := index_at (b := b) h
 have hd : (a ++ 32 :: b).drop (a.length + [(32 : UInt8)].length) = b := by
  rw [List.drop_append]
  simp
 rw [Lib.count_hit (by simp) hi, hd, Nat.add_comm, Lib.splitK, hi]
 rw [if_neg (by rw [beq_iff_eq]; omega)]
 have e : ((a.length : Nat) : Int).toNat = a.length := by omega
 rw [e, hd]
 congr 1
 simp
theorem split_pieces : ∀ (ps : List (List UInt8)) {a : List UInt8}, (32 : UInt8) ∉ a → (∀ q ∈ ps, (32 : UInt8) ∉ q) → Lib.split (a ++ ps.flatMap (fun q => 32 :: q)) [32] = a :: ps
 | [], a, h, _ => by simpa using split_no h
 | q :: ps, a, h, hp => by
  rw [List.flatMap_cons, List.cons_append, split_at h]
  exact congrArg _ (split_pieces ps (hp q (by simp)) fun x hx => hp x (List.mem_cons_of_mem _ hx))
def wordsB (s : ByteArray) : List ByteArray := Lib.splitB ⟨#[32]⟩ 0 (Lib.countB s ⟨#[32]⟩) s
theorem wordsB_data (s : ByteArray) : (wordsB s).map (·.data.toList) = Lib.split s.data.toList [32] := Lib.splitB_data _ _ _ _
theorem map_data_inj : ∀ {a b : List ByteArray}, a.map (·.data.toList) = b.map (·.data.toList) → a = b
 | [], [], _ => rfl
 | [], y :: b, h => by simp at h
 | x :: a, [], h => by simp at h
 | x :: a, y :: b, h => by
  rw [List.map_cons, List.map_cons, List.cons.injEq] at h
  rw [ba_ext h.1, map_data_inj h.2]
def pcB (p : ByteArray × Int) : ByteArray := p.1 ++ ⟨#[58]⟩ ++ itoaB p.2
theorem pcB_data (p : ByteArray × Int) : (pcB p).data.toList = pcL p := by simp [pcB, pcL, itoaB]
theorem words_plain {x : En} (hk : (32 : UInt8) ∉ x.1.data.toList) (hl : ∀ p ∈ x.2.2, (32 : UInt8) ∉ p.1.data.toList) : wordsB (plainT x) = x.1 :: itoaB x.2.1 :: x.2.2.map pcB := by
 refine map_data_inj ?_
 have hn : ∀ n, (32 : UInt8) ∉ Lib.itoa n := itoa_no (by decide) (by decide)
 rw [wordsB_data, plainT_data, split_at hk, split_pieces _ (hn _)]
 ·simp only [List.map_cons, itoaB_data, List.map_map]
  congr 2
  refine List.map_congr_left fun p _ => ?_
  exact (pcB_data p).symm
 ·intro q hq
  obtain ⟨p, hp, rfl⟩ := List.mem_map.1 hq
  unfold pcL
  rw [List.mem_append, List.mem_cons]
  rintro (h | h | h)
  ·exact hl p hp h
  ·exact absurd h (by decide)
  ·exact hn _ h
def cutW (w : ByteArray) : ByteArray × ByteArray := (⟨(Lib.cut w.data.toList [58]).1.toArray⟩, ⟨(Lib.cut w.data.toList [58]).2.1.toArray⟩)
theorem cutW_pc {p : ByteArray × Int} (h : (58 : UInt8) ∉ p.1.data.toList) : cutW (pcB p) = (p.1, itoaB p.2) := by
 unfold cutW
 rw [pcB_data]
 unfold pcL Lib.cut
 rw [index_at h, if_pos (by omega)]
 have e : ((p.1.data.toList.length : Nat) : Int).toNat = p.1.data.toList.length := by omega
 simp only [e]
 have e1 : (p.1.data.toList ++ 58 :: Lib.itoa p.2).take p.1.data.toList.length = p.1.data.toList := by simp
 have e2 : (p.1.data.toList ++ 58 :: Lib.itoa p.2).drop (p.1.data.toList.length + [(58 : UInt8)].length) = Lib.itoa p.2 := by
  rw [List.drop_append]; simp
 rw [e1, e2]
 refine Prod.ext ?_ rfl
 exact ba_ext (by simp)
def lnR (rd : ByteArray → Int) (w : ByteArray) : ByteArray × Int := ((cutW w).1, rd (cutW w).2)
def parseG (rd : ByteArray → Int) : List ByteArray → En
 | [] => (ByteArray.empty, 0, [])
 | [a] => (a, 0, [])
 | a :: b :: r => (a, rd b, r.map (lnR rd))
theorem parseG_two (rd : ByteArray → Int) (a b : ByteArray) (r : List ByteArray) : parseG rd (a :: b :: r) = (a, rd b, r.map (lnR rd)) := rfl
theorem parse_plain {rd : ByteArray → Int} (hr : ∀ n : Int, -1000000000000 ≤ n → n ≤ 1000000000000 → rd (itoaB n) = n) {x : En} (hk : (32 : UInt8) ∉ x.1.data.toList) (hd : -1000000000000 ≤ x.2.1 ∧ x.2.1 ≤ 1000000000000)
  (hl : ∀ p ∈ x.2.2, (32 : UInt8) ∉ p.1.data.toList ∧ (58 : UInt8) ∉ p.1.data.toList ∧ -1000000000000 ≤ p.2 ∧ p.2 ≤ 1000000000000) : parseG rd (wordsB (plainT x)) = x := by
 rw [words_plain hk fun p hp => (hl p hp).1, parseG_two, hr _ hd.1 hd.2, List.map_map]
 have e : x.2.2.map (lnR rd ∘ pcB) = x.2.2 := by
  conv => rhs; rw [← List.map_id x.2.2]
  refine List.map_congr_left fun p hp => ?_
  obtain ⟨h1, h2, h3, h4⟩ := hl p hp
  simp only [Function.comp_apply, lnR, id_eq]
  rw [cutW_pc h2, hr _ h3 h4]
 rw [e]
/-! ### the last blank with = behind it -/
theorem last_eq {p1 q1 p2 q2 : List UInt8} (h1 : (32 : UInt8) ∉ q1) (h2 : (32 : UInt8) ∉ q2) (h : p1 ++ 32 :: 61 :: q1 = p2 ++ 32 :: 61 :: q2) : p1 = p2 ∧ q1 = q2 := by
 have key : ∀ {p q a r : List UInt8}, (32 : UInt8) ∉ q → 32 :: 61 :: q = a ++ 32 :: 61 :: r → a = [] := by
  intro p q a r hq h
  cases a with
  | nil => rfl
  | cons c t =>
   rw [List.cons_append, List.cons.injEq] at h
   exfalso
   have hm : (32 : UInt8) ∈ 61 :: q := by rw [h.2]; simp
   rw [List.mem_cons] at hm
   rcases hm with hm | hm
   ·exact absurd hm (by decide)
   ·exact hq hm
 rcases List.append_eq_append_iff.1 h with ⟨a, e1, e2⟩ | ⟨a, e1, e2⟩
 ·have := key (p := p1) h1 e2
  subst this
  simp at e1 e2
  exact ⟨e1.symm, e2⟩
 ·have := key (p := p1) h2 e2
  subst this
  simp at e1 e2
  exact ⟨e1, e2.symm⟩
theorem last_split {l : List UInt8} {k : Nat} (h : Lib.lastIndex l [32, 61] = k) : k + 2 ≤ l.length ∧ l = l.take k ++ 32 :: 61 :: l.drop (k + 2) := by
 unfold Lib.lastIndex at h
 split at h
 ·rename_i hl
  rcases Lib.lastOcc_spec l [32, 61] (l.length - [(32 : UInt8), 61].length + 1) with ⟨e, _⟩ | ⟨i, hi, e, ho, _⟩
  ·omega
  ·have : i = k := by omega
   subst this
   simp only [List.length_cons, List.length_nil] at hi hl
   have hr : i + 2 ≤ l.length := by omega
   refine ⟨hr, ?_⟩
   rw [Lib.occAt_iff_take _ _ _ (by simpa using hr)] at ho
   have e1 : (l.drop i).take 2 = [32, 61] := by simpa using ho
   conv => lhs; rw [← List.take_append_drop i l, ← List.take_append_drop 2 (l.drop i), e1, List.drop_drop]
   rfl
 ·omega
/-! ### what a text says -/
noncomputable def num5 (w : ByteArray) : Option Int := open Classical in if h : ∃ n : Int, (0 ≤ n ∧ n ≤ 65520) ∧ itoaB n = w then some (Classical.choose h) else none
theorem num5_some {w : ByteArray} {n : Int} (h : num5 w = some n) : (0 ≤ n ∧ n ≤ 65520) ∧ itoaB n = w := by
 unfold num5 at h
 split at h
 ·rename_i hh
  have := Classical.choose_spec hh
  rw [Option.some.inj h] at this
  exact this
 ·cases h
theorem num5_of {w : ByteArray} {n : Int} (h : (0 ≤ n ∧ n ≤ 65520) ∧ itoaB n = w) : num5 w = some n := by
 have hh : ∃ n : Int, (0 ≤ n ∧ n ≤ 65520) ∧ itoaB n = w := ⟨n, h⟩
 unfold num5
 rw [dif_pos hh]
 have hs := Classical.choose_spec hh
 exact congrArg some (itoaB_inj (by omega) (by omega) (hs.2.trans h.2.symm))
theorem num5_none {w : ByteArray} (h : ¬ ∃ n : Int, (0 ≤ n ∧ n ≤ 65520) ∧ itoaB n = w) : num5 w = none := by unfold num5; rw [dif_neg h]
theorem num5_atoi (w : ByteArray) : num5 w = match Lib.atoiAll w.data.toList with
  | .ok n => if (0 ≤ n ∧ n ≤ 65520) ∧ itoaB n = w then some n else none
  | _ => none := by
 by_cases hh : ∃ n : Int, (0 ≤ n ∧ n ≤ 65520) ∧ itoaB n = w
 ·obtain ⟨n, hn, hw⟩ := hh
  rw [num5_of ⟨hn, hw⟩]
  have := atoi_itoa (n := n) (by omega) (by omega)
  rw [← itoaB_data, hw] at this
  rw [this]
  simp only
  rw [if_pos ⟨hn, hw⟩]
 ·rw [num5_none hh]
  cases ha : Lib.atoiAll w.data.toList with
  | ok n =>
   simp only
   rw [if_neg fun h => hh ⟨n, h⟩]
  | range => rfl
  | _ => rfl
theorem num5_num (w : ByteArray) : num5 w = if (num2 5 w).2 = true ∧ 0 ≤ (num2 5 w).1 ∧ (num2 5 w).1 ≤ 65520 then some (num2 5 w).1 else none := by
 by_cases hh : ∃ n : Int, (0 ≤ n ∧ n ≤ 65520) ∧ itoaB n = w
 ·obtain ⟨n, hn, hw⟩ := hh
  rw [num5_of ⟨hn, hw⟩]
  have hs : (itoaB n).size ≤ 5 := by
   have e : (itoaB n).size = (Lib.itoa n).length := by simp [itoaB, ByteArray.size]
   rw [e]
   unfold Lib.itoa
   rw [if_neg (by omega), Lib.decDigits_length]
   exact nDigits_le 4 n.toNat (by omega)
  rw [← hw, num2_itoa (by omega)]
  simp only
  rw [if_pos ⟨trivial, hn⟩]
 ·rw [num5_none hh, if_neg]
  rintro ⟨h1, h2⟩
  refine hh ⟨_, h2, ?_⟩
  unfold num2 at h1 ⊢
  split at h1
  ·cases h1
  ·rename_i ha
   split at h1
   ·rename_i hb
    rw [if_neg ha, if_pos hb]
    exact of_decide_eq_true h1
   ·cases h1
def nlAt (s : ByteArray) : Int := Lib.indexByte s.data.toList 10
def eqAt (l : ByteArray) : Int := Lib.lastIndex l.data.toList [32, 61]
noncomputable def lgR (rd : ByteArray → Int) (s : ByteArray) : Option En × Int × Int :=
 if nlAt s < 0 then (none, 0, 8)
 else if eqAt (s.extract 0 (nlAt s).toNat) < 0 then (none, 0, 3)
 else match num5 ((s.extract 0 (nlAt s).toNat).extract ((eqAt (s.extract 0 (nlAt s).toNat)).toNat + 2) (s.extract 0 (nlAt s).toNat).size) with
  | none => (none, 0, 3)
  | some n =>
   if n = sumB ((s.extract 0 (nlAt s).toNat).extract 0 (eqAt (s.extract 0 (nlAt s).toNat)).toNat) then
    (if enX (parseG rd (wordsB ((s.extract 0 (nlAt s).toNat).extract 0 (eqAt (s.extract 0 (nlAt s).toNat)).toNat))) = 0 ∧ txtB (parseG rd (wordsB ((s.extract 0 (nlAt s).toNat).extract 0 (eqAt (s.extract 0 (nlAt s).toNat)).toNat))) = s.extract 0 (nlAt s).toNat ++ ⟨#[10]⟩ then (some (parseG rd (wordsB ((s.extract 0 (nlAt s).toNat).extract 0 (eqAt (s.extract 0 (nlAt s).toNat)).toNat))), nlAt s + 1, 0) else (none, 0, 3))
   else (none, 0, 7)
theorem key_no {c : UInt8} (hc : keyC c = false) {k : ByteArray} (h : keyOk' k = true) : c ∉ k.data.toList := by
 unfold keyOk' at h
 rw [Bool.and_eq_true, List.all_eq_true] at h
 intro hm
 rw [h.2 c hm] at hc
 cases hc
theorem code_no {c : UInt8} (hc : dig c = false) {k : ByteArray} (h : codeOk k = true) : c ∉ k.data.toList := by
 unfold codeOk at h
 rw [Bool.and_eq_true, List.all_eq_true] at h
 intro hm
 rw [h.2 c hm] at hc
 cases hc
theorem lnE_code : ∀ (l : List (ByteArray × Int)) (seen : List ByteArray), lnE seen l = 0 → ∀ x ∈ l, codeOk x.1 = true
 | [], _, _ => by simp
 | (c, n) :: l, seen, h => by
  unfold lnE at h
  by_cases h1 : codeOk c = false
  ·rw [if_pos h1] at h; omega
  rw [if_neg h1] at h
  by_cases h2 : ¬ ((-1000000000000 ≤ n ∧ n ≤ 1000000000000) ∧ n ≠ 0)
  ·rw [if_pos h2] at h; omega
  rw [if_neg h2] at h
  by_cases h3 : hasC c seen = true
  ·rw [if_pos h3] at h; omega
  rw [if_neg h3] at h
  intro x hx
  rw [List.mem_cons] at hx
  rcases hx with rfl | hx
  ·cases hc : codeOk c with
   | true => rfl
   | false => exact absurd hc h1
  ·exact lnE_code l _ h x hx
theorem lnChk_code {l : List (ByteArray × Int)} (h : lnChk l = 0) : ∀ x ∈ l, codeOk x.1 = true := by
 unfold lnChk at h
 by_cases h1 : 12 < l.length
 ·rw [if_pos h1] at h; omega
 rw [if_neg h1] at h
 by_cases h2 : lnE [] l = 0
 ·exact lnE_code l [] h2
 ·rw [if_pos h2] at h; exact absurd h h2
theorem same_read {rd rd' : ByteArray → Int} (hr' : ∀ n : Int, -1000000000000 ≤ n → n ≤ 1000000000000 → rd' (itoaB n) = n) {l : ByteArray} {k : Nat} {n : Int} (hk : eqAt l = k) (hn : num5 (l.extract (k + 2) l.size) = some n)
  (hx : enX (parseG rd (wordsB (l.extract 0 k))) = 0 ∧ txtB (parseG rd (wordsB (l.extract 0 k))) = l ++ ⟨#[10]⟩) : parseG rd' (wordsB (l.extract 0 k)) = parseG rd (wordsB (l.extract 0 k)) := by
 obtain ⟨hx, ht⟩ := hx
 generalize hX : parseG rd (wordsB (l.extract 0 k)) = x at *
 obtain ⟨hr, hs⟩ := last_split hk
 have e1 : (l.extract 0 k).data.toList = l.data.toList.take k := by rw [Lib.extract_data]; simp
 have e2 : (l.extract (k + 2) l.size).data.toList = l.data.toList.drop (k + 2) := by
  rw [Lib.extract_data, List.take_of_length_le]
  rw [List.length_drop, Lib.size_eq]
  omega
 have hq : (32 : UInt8) ∉ l.data.toList.drop (k + 2) := by
  rw [← e2, ← (num5_some hn).2, itoaB_data]
  exact itoa_no (by decide) (by decide) n
 have ht' : (plainT x).data.toList ++ 32 :: 61 :: Lib.itoa (sumB (plainT x)) = l.data.toList := by
  have := congrArg (fun b => b.data.toList) ht
  unfold txtB at this
  simp only [ba_app, itoaB_data] at this
  have h2 := List.append_cancel_right this
  rw [← h2]
  simp
 have hp : (plainT x).data.toList = l.data.toList.take k := (last_eq (itoa_no (by decide) (by decide) _) hq (ht'.trans hs)).1
 have hpp : plainT x = l.extract 0 k := ba_ext (hp.trans e1.symm)
 rw [← hpp]
 have ok := enX_ok hx
 have hkey : keyOk' x.1 = true := by
  cases h : keyOk' x.1 with
  | true => rfl
  | false => unfold enX enE at hx; rw [if_pos h] at hx; omega
 refine parse_plain hr' (key_no (by decide) hkey) ⟨by omega, by omega⟩ fun p hp => ?_
 have hc := lnChk_code (enE_ok hx) p hp
 exact ⟨code_no (by decide) hc, code_no (by decide) hc, ok.2.2 p hp⟩
theorem lgR_same {rd rd' : ByteArray → Int} (hr : ∀ n : Int, -1000000000000 ≤ n → n ≤ 1000000000000 → rd (itoaB n) = n) (hr' : ∀ n : Int, -1000000000000 ≤ n → n ≤ 1000000000000 → rd' (itoaB n) = n) (s : ByteArray) : lgR rd s = lgR rd' s := by
 unfold lgR
 split
 ·rfl
 ·split
  ·rfl
  ·rename_i h1 h2
   generalize s.extract 0 (nlAt s).toNat = l at *
   obtain ⟨k, hk⟩ : ∃ k : Nat, eqAt l = k := ⟨(eqAt l).toNat, by omega⟩
   rw [hk, show ((k : Nat) : Int).toNat = k by omega]
   cases hn : num5 (l.extract (k + 2) l.size) with
   | none => rfl
   | some n =>
    simp only
    split
    ·by_cases hx : enX (parseG rd (wordsB (l.extract 0 k))) = 0 ∧ txtB (parseG rd (wordsB (l.extract 0 k))) = l ++ ⟨#[10]⟩
     ·rw [same_read hr' hk hn hx]
     ·rw [if_neg hx]
      by_cases hy : enX (parseG rd' (wordsB (l.extract 0 k))) = 0 ∧ txtB (parseG rd' (wordsB (l.extract 0 k))) = l ++ ⟨#[10]⟩
      ·exact absurd (same_read hr hk hn hy ▸ hy) hx
      ·rw [if_neg hy]
    ·rfl
end Go.Lg
