/-
  Keys, days and the lines of an entry, run by the machine.
-/
import Derived.Test.YtdmkmbaaemhhhaaGreatDoorP14
import Derived.Test.YtdmkmbaaemhhhaaGreatDoorP04
set_option linter.unusedVariables false
set_option linter.unusedSimpArgs false
namespace Go.Acc
open Go
def keyC (b : UInt8) : Bool := decide ((97 ≤ b.toNat ∧ b.toNat ≤ 122) ∨ (48 ≤ b.toNat ∧ b.toNat ≤ 57) ∨ b.toNat = 45)
def keyL : List UInt8 := [97, 98, 99, 100, 101, 102, 103, 104, 105, 106, 107, 108, 109, 110, 111, 112, 113, 114, 115, 116, 117, 118, 119, 120, 121, 122, 48, 49, 50, 51, 52, 53, 54, 55, 56, 57, 45]
def keyOk' (s : ByteArray) : Bool := decide (0 < s.size ∧ s.size ≤ 12) && s.data.toList.all keyC
set_option maxRecDepth 1000000 in
theorem key_iff (b : UInt8) : decide (Lib.indexByte keyL b < 0) = !(keyC b) := by
 have h : ∀ n : Nat, n < 256 → decide (Lib.indexByte keyL (UInt8.ofNat n) < 0) = !(keyC (UInt8.ofNat n)) := by decide +kernel
 have := h b.toNat b.toNat_lt
 rwa [UInt8.ofNat_toNat] at this
theorem key_all {s : ByteArray} (h : 0 < s.size ∧ s.size ≤ 12) : keyOk' s = s.data.toList.all keyC := by unfold keyOk'; rw [decide_eq_true h]; rfl
theorem key_long {s : ByteArray} (h : ¬ (0 < s.size ∧ s.size ≤ 12)) : keyOk' s = false := by unfold keyOk'; rw [decide_eq_false h]; rfl
theorem key_bad {s : ByteArray} {b : UInt8} (hb : b ∈ s.data.toList) (h : keyC b = false) : keyOk' s = false := by
 unfold keyOk'
 have : s.data.toList.all keyC = false := List.all_eq_false.2 ⟨b, hb, by rw [h]; simp⟩
 rw [this, Bool.and_false]
def hasC (c : ByteArray) (l : List ByteArray) : Bool := l.any fun x => decide (x = c)
def lnE (seen : List ByteArray) : List (ByteArray × Int) → Int
 | [] => 0
 | (c, n) :: l => if codeOk c = false then 3 else if ¬ ((-1000000000000 ≤ n ∧ n ≤ 1000000000000) ∧ n ≠ 0) then 1 else if hasC c seen = true then 5 else lnE (seen ++ [c]) l
def lnSum (l : List (ByteArray × Int)) : Nat → Int
 | 0 => 0
 | k + 1 => lnSum l k + (l[k]?).elim 0 (·.2)
def lnChk (l : List (ByteArray × Int)) : Int := if 12 < l.length then 2 else if lnE [] l ≠ 0 then lnE [] l else if l.length < 2 ∨ lnSum l l.length ≠ 0 then 7 else 0
def codesTo (l : List (ByteArray × Int)) (k : Nat) : List ByteArray := (l.take k).map (·.1)
theorem lnE_drop {l : List (ByteArray × Int)} {k : Nat} {c : ByteArray} {n : Int} (h : l[k]? = some (c, n)) :
  lnE (codesTo l k) (l.drop k) = if codeOk c = false then 3 else if ¬ ((-1000000000000 ≤ n ∧ n ≤ 1000000000000) ∧ n ≠ 0) then 1 else if hasC c (codesTo l k) = true then 5 else lnE (codesTo l (k + 1)) (l.drop (k + 1)) := by
 have hlt : k < l.length := (List.getElem?_eq_some_iff.1 h).1
 have he : l[k] = (c, n) := (List.getElem?_eq_some_iff.1 h).2
 have hp : codesTo l (k + 1) = codesTo l k ++ [c] := by unfold codesTo; rw [List.take_succ_eq_append_getElem hlt, he, List.map_append]; rfl
 rw [List.drop_eq_getElem_cons hlt, he, hp]
 rfl
def enE (key : ByteArray) (day : Int) (l : List (ByteArray × Int)) : Int := if keyOk' key = false then 3 else if ¬ (0 ≤ day ∧ day ≤ 292193) then 1 else lnChk l
end Go.Acc
namespace Go.Proofs.YtdmkmbaaemhhhaaGreatDoor
open Go Go.Ev Go.RowKit Go.Acc
set_option maxHeartbeats 4000000
def dayF : List V → Option (V × List Blk)
 | [.int .i64 x] => some (.bool (decide (0 ≤ x ∧ x ≤ 292193)), [])
 | _ => none
theorem dayF_eq (x : Int) : dayF [.int .i64 x] = some (.bool (decide (0 ≤ x ∧ x ≤ 292193)), []) := rfl
theorem is_snd {J : World → Prop} (hJ : Stable J) : Snd Tryz.prog J 47 dayF := by
 intro args r bs h
 unfold dayF at h
 split at h
 ·rename_i x
  obtain ⟨rfl, rfl⟩ := some_pair h
  refine evFn (l := []) (nv := nv0) (fz := fz0) (dr := dr47) (dd := dd47) (lam := []) (ms := ms0) trivial hJ trivial ms0_ok Tryz.func47 rfl rfl (Nat.le_of_ble_eq_true rfl) (Nat.le_of_ble_eq_true rfl) drOk47 ?_
  dsimp only [Tryz.f47, dr47, dd47, Option.getD_some]
  refine ev_start ?_
  by_cases h1 : 0 ≤ x
  ·by_cases h2 : x ≤ 292193
   ·have h1' : (0 : Int) ≤ x := h1
    simp (disch := omega) only [h1, h2, and_self, go_sem, evP_D, evD_guard, evD_cons, evD_zero, evD_nil]
   ·simp (disch := omega) only [h1, h2, and_false, go_sem, evP_D, evD_guard, evD_cons, evD_zero, evD_nil]
  ·simp (disch := omega) only [h1, false_and, go_sem, evP_D, evD_guard, evD_cons, evD_zero, evD_nil]
 ·cases h
theorem day_snd {J : World → Prop} (hJ : Stable J) : Snd Tryz.prog J 39 dayF := by
 intro args r bs h
 unfold dayF at h
 split at h
 ·rename_i x
  obtain ⟨rfl, rfl⟩ := some_pair h
  refine evFn (l := [(69, withinF)]) (nv := nv0) (fz := fz0) (dr := dr39) (dd := dd39) (lam := []) (ms := ms0) ⟨within_snd hJ, trivial⟩ hJ trivial ms0_ok Tryz.func39 rfl rfl (Nat.le_of_ble_eq_true rfl) (Nat.le_of_ble_eq_true rfl) drOk39 ?_
  dsimp only [Tryz.f39, dr39, dd39, Option.getD_some]
  refine ev_start ?_
  simp (disch := omega) only [withinF_eq, go_sem, evP_D, evD_guard, evD_cons, evD_zero, evD_nil]
 ·cases h
theorem spmoney_snd {J : World → Prop} (hJ : Stable J) : Snd Tryz.prog J 114 moneyF := by
 intro args r bs h
 unfold moneyF at h
 split at h
 ·rename_i x
  obtain ⟨rfl, rfl⟩ := some_pair h
  refine evFn (l := []) (nv := nv0) (fz := fz0) (dr := dr114) (dd := dd114) (lam := []) (ms := ms0) trivial hJ trivial ms0_ok Tryz.func114 rfl rfl (Nat.le_of_ble_eq_true rfl) (Nat.le_of_ble_eq_true rfl) drOk114 ?_
  dsimp only [Tryz.f114, dr114, dd114, Option.getD_some]
  refine ev_start ?_
  by_cases h1 : -1000000000000 ≤ x
  ·by_cases h2 : x ≤ 1000000000000
   ·have h1' : -1000000000000 ≤ x := h1
    simp (disch := omega) only [h1, h2, and_self, go_sem, evP_D, evD_guard, evD_cons, evD_zero, evD_nil]
   ·simp (disch := omega) only [h1, h2, and_false, go_sem, evP_D, evD_guard, evD_cons, evD_zero, evD_nil]
  ·simp (disch := omega) only [h1, false_and, go_sem, evP_D, evD_guard, evD_cons, evD_zero, evD_nil]
 ·cases h
def keyB : ByteArray := ⟨#[97, 98, 99, 100, 101, 102, 103, 104, 105, 106, 107, 108, 109, 110, 111, 112, 113, 114, 115, 116, 117, 118, 119, 120, 121, 122, 48, 49, 50, 51, 52, 53, 54, 55, 56, 57, 45]⟩
def ixF : List V → Option (V × List Blk)
 | [.str k, .int .u8 n] => if k = keyB then some (.int .i64 (Lib.indexByte keyL n.toNat.toUInt8), []) else none
 | _ => none
theorem ixF_eq (b : UInt8) : ixF [.str ⟨#[97, 98, 99, 100, 101, 102, 103, 104, 105, 106, 107, 108, 109, 110, 111, 112, 113, 114, 115, 116, 117, 118, 119, 120, 121, 122, 48, 49, 50, 51, 52, 53, 54, 55, 56, 57, 45]⟩, .int .u8 ((b.toNat : Nat) : Int)] = some (.int .i64 (Lib.indexByte keyL b), []) := by
 have e : ((b.toNat : Nat) : Int).toNat.toUInt8 = b := by rw [Int.toNat_natCast]; exact UInt8.ofNat_toNat
 simp only [ixF, e]
 exact if_pos rfl
theorem ix_snd {J : World → Prop} : Snd Tryz.prog J 62 ixF := by
 intro args r bs h
 unfold ixF at h
 split at h
 ·rename_i s c
  split at h
  ·rename_i hc
   obtain ⟨rfl, rfl⟩ := some_pair h
   subst hc
   exact sound_plain (callOk Tryz.func62 rfl rfl) rfl rfl fun w _ => (show Calls Tryz.prog 62 _ w _ from Any.strings_IndexByte Tryz.lays137 keyB c w).mono (by rintro e w' ⟨rfl, rfl⟩; exact ⟨rfl, .refl _ _⟩)
  ·cases h
 ·cases h
def keyF : List V → Option (V × List Blk)
 | [.str s] => some (.bool (keyOk' s), [])
 | _ => none
theorem keyF_eq (s : ByteArray) : keyF [.str s] = some (.bool (keyOk' s), []) := rfl
theorem key_snd {J : World → Prop} (hJ : Stable J) : Snd Tryz.prog J 74 keyF := by
 intro args r bs h
 unfold keyF at h
 split at h
 ·rename_i s
  obtain ⟨rfl, rfl⟩ := some_pair h
  by_cases h1 : s.size = 0
  ·have e := key_long (s := s) (fun h => by omega)
   have hz : s = ⟨#[]⟩ := by
    obtain ⟨⟨l⟩⟩ := s
    have : l = [] := List.eq_nil_of_length_eq_zero h1
    rw [this]
   rw [e]
   refine evFn (l := []) (nv := nv0) (fz := fz0) (dr := dr74) (dd := dd74) (lam := []) (ms := ms0) trivial hJ trivial ms0_ok Tryz.func74 rfl rfl (Nat.le_of_ble_eq_true rfl) (Nat.le_of_ble_eq_true rfl) drOk74 ?_
   dsimp only [Tryz.f74, dr74, dd74, Option.getD_some]
   refine ev_start ?_
   simp (disch := omega) only [hz, bin_eql_str, go_sem, evP_D, evD_guard, evD_cons, evD_zero, evD_nil]
  ·have hz : ¬ s = ⟨#[]⟩ := fun h => h1 (by rw [h]; rfl)
   by_cases h2 : s.size ≤ 12
   ·have h2' : ¬ 12 < (s.size : Int) := by omega
    have hok := key_all (s := s) ⟨by omega, h2⟩
    refine evFn (l := []) (nv := nv0) (fz := fz0) (dr := dr74) (dd := dd74) (lam := []) (ms := ms0) trivial hJ trivial ms0_ok Tryz.func74 rfl rfl (Nat.le_of_ble_eq_true rfl) (Nat.le_of_ble_eq_true rfl) drOk74 ?_
    dsimp only [Tryz.f74, dr74, dd74, Option.getD_some]
    refine ev_start ?_
    simp (disch := omega) only [hz, h2', bin_eql_str, go_sem, evP_D, evD_guard, evD_cons, evD_zero, evD_nil]
    refine evQ_loop [0, 13, 14] [] (fun σ => ∃ (k : Nat), (k ≤ s.size ∧ ∀ i b, i < k → s.data.toList[i]? = some b → keyC b = true) ∧ σ = ⟨[(0, .str s), (13, .int .i64 s.size), (14, .int .i64 k)], []⟩)
     (fun σ => s.size - (match Ev.look 14 σ.env with | some (.int _ n) => n.toNat | _ => 0)) ?_ ?_
    ·simp only [go_sem, evP_D, evD_guard, evD_cons, evD_zero, evD_nil]
     exact ⟨0, ⟨Nat.zero_le _, fun i b h => by omega⟩, rfl⟩
    ·rintro σ ⟨k, ⟨hk, hall⟩, rfl⟩
     by_cases hlt : k < s.size
     ·have hlt' : (k : Int) < s.size := by omega
      have hk0 : (0 : Int) ≤ k := by omega
      obtain ⟨b, hbd⟩ : ∃ b, b = s.data.toList[k]'hlt := ⟨_, rfl⟩
      have hb : s.data.toList[k]? = some b := by rw [hbd]; exact List.getElem?_eq_getElem _
      have hg : s[k]? = some b := by rw [str_get]; exact hb
      have hmem : b ∈ s.data.toList := List.mem_of_getElem? hb
      have hms : s.size - ((k : Int) + 1).toNat < s.size - (k : Int).toNat := by
       have e3 : ((k : Int) + 1).toNat = k + 1 := by omega
       rw [e3, Int.toNat_natCast]; exact Nat.sub_lt_sub_left hlt (Nat.lt_succ_self k)
      have hnext : keyC b = true → ∀ i b', i < k + 1 → s.data.toList[i]? = some b' → keyC b' = true := fun hc i b' hi hb' => by
       by_cases e : i = k
       ·subst e
        rw [hb] at hb'
        cases hb'
        exact hc
       ·exact hall i b' (by omega) hb'
      by_cases c1 : ((b.toNat : Nat) : Int) ≥ 97
      ·by_cases c2 : ((b.toNat : Nat) : Int) ≤ 122
       ·simp (disch := omega) only [hlt', hk0, Int.toNat_natCast, hg, c1, c2, go_sem, evP_D, evD_guard, evD_cons, evD_zero, evD_nil]
        exact ⟨⟨k + 1, ⟨hlt, hnext (by simp [keyC]; omega)⟩, rfl⟩, hms⟩
       ·have c3 : ((b.toNat : Nat) : Int) ≥ 48 := by omega
        have c4 : ¬ ((b.toNat : Nat) : Int) ≤ 57 := by omega
        have c5 : ¬ ((b.toNat : Nat) : Int) = 45 := by omega
        have e : keyOk' s = false := key_bad hmem (by simp [keyC]; omega)
        simp (disch := omega) only [hlt', hk0, Int.toNat_natCast, hg, c1, c2, c3, c4, c5, e, go_sem, evP_D, evD_guard, evD_cons, evD_zero, evD_nil]
      ·by_cases c3 : ((b.toNat : Nat) : Int) ≥ 48
       ·by_cases c4 : ((b.toNat : Nat) : Int) ≤ 57
        ·simp (disch := omega) only [hlt', hk0, Int.toNat_natCast, hg, c1, c3, c4, go_sem, evP_D, evD_guard, evD_cons, evD_zero, evD_nil]
         exact ⟨⟨k + 1, ⟨hlt, hnext (by simp [keyC]; omega)⟩, rfl⟩, hms⟩
        ·have c5 : ¬ ((b.toNat : Nat) : Int) = 45 := by omega
         have e : keyOk' s = false := key_bad hmem (by simp [keyC]; omega)
         simp (disch := omega) only [hlt', hk0, Int.toNat_natCast, hg, c1, c3, c4, c5, e, go_sem, evP_D, evD_guard, evD_cons, evD_zero, evD_nil]
       ·by_cases c5 : ((b.toNat : Nat) : Int) = 45
        ·simp (disch := omega) only [hlt', hk0, Int.toNat_natCast, hg, c1, c3, c5, go_sem, evP_D, evD_guard, evD_cons, evD_zero, evD_nil]
         exact ⟨⟨k + 1, ⟨hlt, hnext (by simp [keyC]; omega)⟩, rfl⟩, hms⟩
        ·have e : keyOk' s = false := key_bad hmem (by simp [keyC]; omega)
         simp (disch := omega) only [hlt', hk0, Int.toNat_natCast, hg, c1, c3, c5, e, go_sem, evP_D, evD_guard, evD_cons, evD_zero, evD_nil]
     ·have hk' : k = s.size := by omega
      subst hk'
      have hlt' : ¬ ((s.size : Int) < s.size) := by omega
      have e : keyOk' s = true := by
       rw [hok, List.all_eq_true]
       intro b hb
       obtain ⟨i, hi, rfl⟩ := List.mem_iff_getElem.1 hb
       exact hall i _ hi (List.getElem?_eq_getElem _)
      simp (disch := omega) only [hlt', e, go_sem, evP_D, evD_guard, evD_cons, evD_zero, evD_nil]
   ·have h2' : 12 < (s.size : Int) := by omega
    have e := key_long (s := s) (fun h => by omega)
    refine evFn (l := []) (nv := nv0) (fz := fz0) (dr := dr74) (dd := dd74) (lam := []) (ms := ms0) trivial hJ trivial ms0_ok Tryz.func74 rfl rfl (Nat.le_of_ble_eq_true rfl) (Nat.le_of_ble_eq_true rfl) drOk74 ?_
    dsimp only [Tryz.f74, dr74, dd74, Option.getD_some]
    refine ev_start ?_
    simp (disch := omega) only [hz, h2', e, bin_eql_str, go_sem, evP_D, evD_guard, evD_cons, evD_zero, evD_nil]
 ·cases h
theorem rkey_sound {J : World → Prop} (hJ : Stable J) (s : ByteArray) (hs : s.size ≤ maxLen) : SoundAt Tryz.prog J 57 [.str s] (.bool (keyOk' s)) [] := by
 have hs' : (s.size : Int) ≤ 9223372036854775807 := by unfold maxLen at hs; omega
 refine evFn (l := [(62, ixF)]) (nv := nv0) (fz := fz0) (dr := dr57) (dd := dd57) (lam := []) (ms := ms0) ⟨ix_snd, trivial⟩ hJ trivial ms0_ok Tryz.func57 rfl rfl (Nat.le_of_ble_eq_true rfl) (Nat.le_of_ble_eq_true rfl) drOk57 ?_
 dsimp only [Tryz.f57, dr57, dd57, Option.getD_some]
 refine ev_start ?_
 simp (disch := omega) only [go_sem, evP_D, evD_guard, evD_cons, evD_zero, evD_nil]
 refine evQ_loop [0, 5, 6] [] (fun σ => ∃ (k : Nat), (k ≤ s.size ∧ ∀ i b, i < k → s.data.toList[i]? = some b → keyC b = true) ∧ σ = ⟨[(0, .str s), (5, .int .i64 s.size), (6, .int .i64 k)], []⟩)
  (fun σ => s.size - (match Ev.look 6 σ.env with | some (.int _ n) => n.toNat | _ => 0)) ?_ ?_
 ·simp only [go_sem, evP_D, evD_guard, evD_cons, evD_zero, evD_nil]
  exact ⟨0, ⟨Nat.zero_le _, fun i b h => by omega⟩, rfl⟩
 ·rintro σ ⟨k, ⟨hk, hall⟩, rfl⟩
  by_cases hlt : k < s.size
  ·have hlt' : (k : Int) < s.size := by omega
   have hk0 : (0 : Int) ≤ k := by omega
   obtain ⟨b, hbd⟩ : ∃ b, b = s.data.toList[k]'hlt := ⟨_, rfl⟩
   have hb : s.data.toList[k]? = some b := by rw [hbd]; exact List.getElem?_eq_getElem _
   have hg : s[k]? = some b := by rw [str_get]; exact hb
   have hmem : b ∈ s.data.toList := List.mem_of_getElem? hb
   have hms : s.size - ((k : Int) + 1).toNat < s.size - (k : Int).toNat := by
    have e3 : ((k : Int) + 1).toNat = k + 1 := by omega
    rw [e3, Int.toNat_natCast]; exact Nat.sub_lt_sub_left hlt (Nat.lt_succ_self k)
   have hi := key_iff b
   cases hc : keyC b with
   | true =>
    rw [hc] at hi
    have hi' : ¬ Lib.indexByte keyL b < 0 := by simpa using hi
    simp (disch := (first | omega | assumption)) only [hlt', hk0, Int.toNat_natCast, hg, ixF_eq, hi', go_sem, evP_D, evD_guard, evD_cons, evD_zero, evD_nil]
    exact ⟨⟨k + 1, ⟨hlt, fun i b' hi hb' => by
     by_cases e : i = k
     ·subst e
      rw [hb] at hb'
      cases hb'
      exact hc
     ·exact hall i b' (by omega) hb'⟩, rfl⟩, hms⟩
   | false =>
    rw [hc] at hi
    have hi' : Lib.indexByte keyL b < 0 := by simpa using hi
    have e : keyOk' s = false := key_bad hmem hc
    simp (disch := (first | omega | assumption)) only [hlt', hk0, Int.toNat_natCast, hg, ixF_eq, hi', e, go_sem, evP_D, evD_guard, evD_cons, evD_zero, evD_nil]
  ·have hk' : k = s.size := by omega
   subst hk'
   have hlt' : ¬ ((s.size : Int) < s.size) := by omega
   have hall' : s.data.toList.all keyC = true := by
    rw [List.all_eq_true]
    intro b hb
    obtain ⟨i, hi, rfl⟩ := List.mem_iff_getElem.1 hb
    exact hall i _ hi (List.getElem?_eq_getElem _)
   by_cases h1 : 0 < s.size
   ·have h1' : (0 : Int) < s.size := by omega
    by_cases h2 : s.size ≤ 12
    ·have h2' : (s.size : Int) < 13 := by omega
     have e : keyOk' s = true := by rw [key_all ⟨h1, h2⟩]; exact hall'
     simp (disch := omega) only [hlt', h1', h2', e, go_sem, evP_D, evD_guard, evD_cons, evD_zero, evD_nil]
    ·have h2' : ¬ (s.size : Int) < 13 := by omega
     have e := key_long (s := s) (fun h => h2 h.2)
     simp (disch := omega) only [hlt', h1', h2', e, go_sem, evP_D, evD_guard, evD_cons, evD_zero, evD_nil]
   ·have h1' : ¬ (0 : Int) < s.size := by omega
    have e := key_long (s := s) (fun h => h1 h.1)
    simp (disch := omega) only [hlt', h1', e, go_sem, evP_D, evD_guard, evD_cons, evD_zero, evD_nil]
end Go.Proofs.YtdmkmbaaemhhhaaGreatDoor
