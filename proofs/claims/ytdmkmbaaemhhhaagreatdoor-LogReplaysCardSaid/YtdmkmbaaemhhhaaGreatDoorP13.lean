/-
  Steps of the proof of LogReplays: AcP AcE.
-/
import Derived.Test.YtdmkmbaaemhhhaaGreatDoorP12
import Derived.Test.YtdmkmbaaemhhhaaGreatDoorP01
import Derived.Test.YtdmkmbaaemhhhaaGreatDoorP02
import Derived.Test.YtdmkmbaaemhhhaaGreatDoorP03
set_option linter.unusedVariables false
set_option linter.unusedSimpArgs false
section
namespace Go.Acc
open Go
def dig (b : UInt8) : Bool := decide (48 ≤ b.toNat ∧ b.toNat ≤ 57)
def codeOk (s : ByteArray) : Bool := decide (0 < s.size ∧ s.size ≤ 8) && s.data.toList.all dig
def digsL : List UInt8 := [48, 49, 50, 51, 52, 53, 54, 55, 56, 57]
theorem str_get (s : ByteArray) (k : Nat) : s[k]? = s.data.toList[k]? := by
 by_cases h : k < s.size
 ·have h' : k < s.data.toList.length := by simpa using h
  rw [getElem?_pos s k h, List.getElem?_eq_getElem h']
  rfl
 ·rw [getElem?_neg s k h, List.getElem?_eq_none (by simpa using h)]
theorem str_eq (x y : ByteArray) : (x.toList == y.toList) = decide (x = y) := by
 rw [ByteArray.toList_eq, ByteArray.toList_eq]
 by_cases h : x = y
 ·subst h; simp
 ·rw [decide_eq_false h]
  have : x.data.toList ≠ y.data.toList := fun e => h (by
   obtain ⟨⟨x⟩⟩ := x
   obtain ⟨⟨y⟩⟩ := y
   have e' : x = y := e
   rw [e'])
  simpa using this
theorem str_size (s : ByteArray) : s.data.toList.length = s.size := rfl
set_option maxRecDepth 100000 in
theorem dig_iff (b : UInt8) : digsL.contains b = dig b := by
 have h : ∀ n : Nat, n < 256 → digsL.contains (UInt8.ofNat n) = dig (UInt8.ofNat n) := by decide
 have := h b.toNat b.toNat_lt
 rwa [UInt8.ofNat_toNat] at this
theorem dw_nil (p : UInt8 → Bool) : ∀ l : List UInt8, l.dropWhile p = [] ↔ ∀ x ∈ l, p x = true
 | [] => by simp
 | x :: l => by
  rw [List.dropWhile_cons]
  by_cases h : p x = true
  ·rw [if_pos h, dw_nil p l]; simp [h]
  ·rw [if_neg h]; simp [h]
theorem dw_head (p : UInt8 → Bool) : ∀ (l : List UInt8) (y : UInt8) (t : List UInt8), l.dropWhile p = y :: t → p y = false
 | [], y, t, h => by simp at h
 | x :: l, y, t, h => by
  rw [List.dropWhile_cons] at h
  by_cases hx : p x = true
  ·rw [if_pos hx] at h; exact dw_head p l y t h
  ·rw [if_neg hx] at h
   cases h
   simpa using hx
theorem trim_all {l : List UInt8} (h : l.all dig = true) : Lib.trimS l digsL = [] := by
 have e : (fun b => digsL.contains b) = dig := funext dig_iff
 unfold Lib.trimS Lib.trimLeftS Lib.trimRightS
 rw [e]
 have : l.reverse.dropWhile dig = [] := (dw_nil _ _).2 fun x hx => List.all_eq_true.1 h x (List.mem_reverse.1 hx)
 rw [this]
 rfl
theorem trim_not {l : List UInt8} (h : l.all dig = false) : Lib.trimS l digsL ≠ [] := by
 have e : (fun b => digsL.contains b) = dig := funext dig_iff
 obtain ⟨x, hx, hd⟩ := List.all_eq_false.1 h
 unfold Lib.trimS Lib.trimLeftS Lib.trimRightS
 rw [e]
 intro h0
 rw [dw_nil] at h0
 have h1 : l.reverse.dropWhile dig ≠ [] := fun h2 => by
  rw [dw_nil] at h2
  exact hd (h2 x (List.mem_reverse.2 hx))
 obtain ⟨y, t, hy⟩ := List.exists_cons_of_ne_nil h1
 have h3 := dw_head dig _ _ _ hy
 rw [hy] at h0
 have := h0 y (by simp)
 rw [h3] at this
 cases this
/-! ### the order of strings -/
theorem less_total : ∀ x y : List UInt8, (!Op.bytesLess x y) = (Op.bytesLess y x || y == x)
 | [], [] => rfl
 | [], y :: ys => rfl
 | x :: xs, [] => rfl
 | x :: xs, y :: ys => by
  have ih := less_total xs ys
  simp only [Op.bytesLess]
  by_cases h1 : x = y
  ·subst h1
   have hx : decide (x < x) = false := decide_eq_false (fun h => by simp at h)
   simp only [hx, Bool.false_or, beq_self_eq_true, Bool.true_and, List.cons_beq_cons]
   exact ih
  ·have e1 : (x == y) = false := by simpa using h1
   have e2 : (y == x) = false := by simpa using fun h : y = x => h1 h.symm
   have e3 : (y :: ys == x :: xs) = false := by simp only [List.cons_beq_cons, e2, Bool.false_and]
   simp only [e1, e2, e3, Bool.false_and, Bool.or_false]
   have ht : x.toNat ≠ y.toNat := fun h => h1 (UInt8.toNat_inj.1 h)
   by_cases h2 : x < y
   ·have h3 : ¬ y < x := fun h => by rw [UInt8.lt_iff_toNat_lt] at h h2; omega
    rw [decide_eq_true h2, decide_eq_false h3]; rfl
   ·have h3 : y < x := by rw [UInt8.lt_iff_toNat_lt] at h2 ⊢; omega
    rw [decide_eq_false h2, decide_eq_true h3]; rfl
def acE (p : Option ByteArray) : List (ByteArray × Int) → Int
 | [] => 0
 | (c, k) :: l => if codeOk c = false then 3 else if ¬ (0 ≤ k ∧ k ≤ 4) then 1 else if (match p with | some p => !Op.bytesLess p.toList c.toList | none => false) = true then 3 else acE (some c) l
def acChk (l : List (ByteArray × Int)) : Int := if 24 < l.length then 2 else acE none l
end Go.Acc
end
section
namespace Go.Proofs.YtdmkmbaaemhhhaaGreatDoor
open Go Go.Ev Go.RowKit Go.Acc
set_option maxHeartbeats 4000000
theorem bin_eql_str (x y : ByteArray) : binV .eql (.str x) (.str y) = some (.bool (decide (x = y))) := by
 rw [← str_eq]; rfl
theorem bin_leq_str (x y : ByteArray) : binV .leq (.str x) (.str y) = some (.bool (!(Op.bytesLess y.toList x.toList))) := by
 rw [less_total]; rfl
theorem bin_geq_str (x y : ByteArray) : binV .geq (.str x) (.str y) = some (.bool (!(Op.bytesLess x.toList y.toList))) := rfl
def digsB : ByteArray := ⟨#[48, 49, 50, 51, 52, 53, 54, 55, 56, 57]⟩
def trimF : List V → Option (V × List Ev.Blk)
 | [.str s, .str c] => if s.size ≤ 8 ∧ c = digsB then some (.str ⟨(Lib.trimS s.data.toList digsL).toArray⟩, []) else none
 | _ => none
theorem trimF_eq {s : ByteArray} (h : s.size ≤ 8) : trimF [.str s, .str ⟨#[48, 49, 50, 51, 52, 53, 54, 55, 56, 57]⟩] = some (.str ⟨(Lib.trimS s.data.toList digsL).toArray⟩, []) := if_pos ⟨h, rfl⟩
theorem trim_snd {J : World → Prop} : Snd Tryz.prog J 96 trimF := by
 intro args r bs h
 unfold trimF at h
 split at h
 ·rename_i s c
  split at h
  ·rename_i hc
   obtain ⟨rfl, rfl⟩ := some_pair h
   obtain ⟨hs, rfl⟩ := hc
   exact sound_plain (callOk Tryz.func96 rfl rfl) rfl rfl fun w _ => Any.strings_Trim_laid Tryz.lays160 (by kernel_rfl) s digsB w (by omega) (by decide) (ascii_of_all (by decide))
  ·cases h
 ·cases h
def rc1 (x : Nat) : Bool := decide (x < 48 ∨ 57 < x)
theorem rc1_sound {J : World → Prop} (hJ : Stable J) (x : Nat) : SoundAt Tryz.prog J 98 [.int .i32 x] (.bool (rc1 x)) [] := by
 refine evFn (l := []) (nv := nv0) (fz := fz0) (dr := dr98) (dd := dd98) (lam := []) (ms := ms0) trivial hJ trivial ms0_ok Tryz.func98 rfl rfl (Nat.le_of_ble_eq_true rfl) (Nat.le_of_ble_eq_true rfl) drOk98 ?_
 dsimp only [Tryz.f98, dr98, dd98, Option.getD_some]
 refine ev_start ?_
 by_cases h1 : (x : Int) < 48
 ·have e : rc1 x = true := decide_eq_true (by omega)
  simp (disch := omega) only [h1, e, go_sem, evP_D, evD_guard, evD_cons, evD_zero, evD_nil]
 ·by_cases h2 : 57 < (x : Int)
  ·have e : rc1 x = true := decide_eq_true (by omega)
   simp (disch := omega) only [h1, h2, e, go_sem, evP_D, evD_guard, evD_cons, evD_zero, evD_nil]
  ·have e : rc1 x = false := decide_eq_false (by omega)
   simp (disch := omega) only [h1, h2, e, go_sem, evP_D, evD_guard, evD_cons, evD_zero, evD_nil]
theorem idx_none {s : ByteArray} (h : s.data.toList.all dig = true) : ∀ f pos, Lib.idxFuncFrom rc1 true s f pos = -1
 | 0, _ => rfl
 | f + 1, pos => by
  unfold Lib.idxFuncFrom
  split
  ·rename_i hp
   have hm : s[pos] ∈ s.data.toList := by
    have h' : pos < s.data.toList.length := hp
    have := List.getElem_mem h'
    exact this
   have hd := List.all_eq_true.1 h _ hm
   simp only [dig, decide_eq_true_eq] at hd
   have e := decode_ascii s pos hp (by omega)
   rw [e]
   have e2 : rc1 (s[pos]).toNat = false := decide_eq_false (by omega)
   simp only [e2, Bool.false_eq_true, if_false]
   exact idx_none h f _
  ·rfl
theorem contains_sound {J : World → Prop} (hJ : Stable J) {s : ByteArray} (h : s.data.toList.all dig = true) : SoundAt Tryz.prog J 97 [.str s, .fn 98 []] (.bool false) [] := by
 refine ⟨callOk Tryz.func97 rfl rfl, fun w ok us hJw hok hlen hrel => ?_⟩
 have hus : us = [.string s, .func (.func 98) #[] #[]] := by
  match us, hlen, hrel with
  | [u, v], _, hrel =>
   have h0 := hrel 0 _ u rfl rfl
   have h1 := hrel 1 _ v rfl rfl
   cases h0
   cases h1 with
   | fn f cs vs hl _ =>
    have : vs = [] := List.eq_nil_of_length_eq_zero (by simpa using hl.symm)
    subst this
    rfl
 subst hus
 have hp : PredGrows Tryz.prog 98 #[] rc1 w := fun W x _ hb => by
  have hJW := hJ w W hJw hb
  exact SoundAt.calls (rc1_sound hJ x) rfl hJW (vals := [.int .i32 x]) rfl (fun j c v hc hv => by
   match j with
   | 0 => simp at hc hv; subst hc; subst hv; exact .int _ _
   | j + 1 => simp at hc)
 have hC := Any.strings_ContainsFunc_grows Tryz.laysGw17 98 #[] (enters_of Tryz.func98 (by kernel_rfl) rfl) rc1 s w hp
 refine (show Calls Tryz.prog 97 _ w _ from hC).mono ?_
 rintro e w' ⟨rfl, hb⟩
 refine ⟨.bool false, fun _ => none, ?_, hb, ⟨hb.size, fun b k hk => (by simp at hk), fun b sv hr => (by cases hr), fun b b' sv sv' g h1 => (by cases h1)⟩, .ro (.bool _)⟩
 have : Lib.idxFunc rc1 true s = -1 := idx_none h _ _
 rw [this]
 rfl
def codeF : List V → Option (V × List Ev.Blk)
 | [.str s] => some (.bool (codeOk s), [])
 | _ => none
theorem codeF_eq (s : ByteArray) : codeF [.str s] = some (.bool (codeOk s), []) := rfl
theorem ok_long {s : ByteArray} (h : ¬ (0 < s.size ∧ s.size ≤ 8)) : codeOk s = false := by unfold codeOk; rw [decide_eq_false h]; rfl
theorem ok_all {s : ByteArray} (h : 0 < s.size ∧ s.size ≤ 8) : codeOk s = s.data.toList.all dig := by unfold codeOk; rw [decide_eq_true h]; rfl
theorem rcode_snd {J : World → Prop} (hJ : Stable J) : Snd Tryz.prog J 58 codeF := by
 intro args r bs h
 unfold codeF at h
 split at h
 ·rename_i s
  obtain ⟨rfl, rfl⟩ := some_pair h
  by_cases h1 : 0 < s.size
  ·have h1' : (0 : Int) < s.size := by omega
   by_cases h2 : s.size ≤ 8
   ·have h2' : (s.size : Int) < 9 := by omega
    cases hd : s.data.toList.all dig with
    | true =>
     have e : codeOk s = true := by rw [ok_all ⟨h1, h2⟩]; exact hd
     have ht := trimF_eq h2
     rw [trim_all hd] at ht
     refine evFn (l := [(96, trimF), (97, at1 [.str s, .fn 98 []] (.bool false, []))]) (nv := nv0) (fz := fz0) (dr := dr58) (dd := dd58) (lam := []) (ms := ms0) ⟨trim_snd, at1_snd (contains_sound hJ hd), trivial⟩ hJ trivial ms0_ok Tryz.func58 rfl rfl (Nat.le_of_ble_eq_true rfl) (Nat.le_of_ble_eq_true rfl) drOk58 ?_
     dsimp only [Tryz.f58, dr58, dd58, Option.getD_some]
     refine ev_start ?_
     simp (disch := omega) only [h1', h2', ht, at1_eq, e, bin_eql_str, go_sem, evP_D, evD_guard, evD_cons, evD_zero, evD_nil]
    | false =>
     have e : codeOk s = false := by rw [ok_all ⟨h1, h2⟩]; exact hd
     have ht := trimF_eq h2
     have hne : ¬ (ByteArray.mk (Lib.trimS s.data.toList digsL).toArray = ByteArray.mk #[]) := fun h => trim_not hd (by
      have := congrArg (fun b : ByteArray => b.data.toList) h
      simpa using this)
     refine evFn (l := [(96, trimF)]) (nv := nv0) (fz := fz0) (dr := dr58) (dd := dd58) (lam := []) (ms := ms0) ⟨trim_snd, trivial⟩ hJ trivial ms0_ok Tryz.func58 rfl rfl (Nat.le_of_ble_eq_true rfl) (Nat.le_of_ble_eq_true rfl) drOk58 ?_
     dsimp only [Tryz.f58, dr58, dd58, Option.getD_some]
     refine ev_start ?_
     simp (disch := omega) only [h1', h2', ht, hne, e, bin_eql_str, go_sem, evP_D, evD_guard, evD_cons, evD_zero, evD_nil]
   ·have h2' : ¬ (s.size : Int) < 9 := by omega
    have e := ok_long (s := s) (fun h => h2 h.2)
    refine evFn (l := []) (nv := nv0) (fz := fz0) (dr := dr58) (dd := dd58) (lam := []) (ms := ms0) trivial hJ trivial ms0_ok Tryz.func58 rfl rfl (Nat.le_of_ble_eq_true rfl) (Nat.le_of_ble_eq_true rfl) drOk58 ?_
    dsimp only [Tryz.f58, dr58, dd58, Option.getD_some]
    refine ev_start ?_
    simp (disch := omega) only [h1', h2', e, go_sem, evP_D, evD_guard, evD_cons, evD_zero, evD_nil]
  ·have h1' : ¬ (0 : Int) < s.size := by omega
   have e := ok_long (s := s) (fun h => h1 h.1)
   refine evFn (l := []) (nv := nv0) (fz := fz0) (dr := dr58) (dd := dd58) (lam := []) (ms := ms0) trivial hJ trivial ms0_ok Tryz.func58 rfl rfl (Nat.le_of_ble_eq_true rfl) (Nat.le_of_ble_eq_true rfl) drOk58 ?_
   dsimp only [Tryz.f58, dr58, dd58, Option.getD_some]
   refine ev_start ?_
   simp (disch := omega) only [h1', e, go_sem, evP_D, evD_guard, evD_cons, evD_zero, evD_nil]
 ·cases h
theorem code_snd {J : World → Prop} (hJ : Stable J) : Snd Tryz.prog J 85 codeF := by
 intro args r bs h
 unfold codeF at h
 split at h
 ·rename_i s
  obtain ⟨rfl, rfl⟩ := some_pair h
  by_cases h1 : s.size = 0
  ·have e := ok_long (s := s) (fun h => by omega)
   have hz : s = ⟨#[]⟩ := by
    obtain ⟨⟨l⟩⟩ := s
    have : l = [] := List.eq_nil_of_length_eq_zero h1
    rw [this]
   rw [e]
   refine evFn (l := []) (nv := nv0) (fz := fz0) (dr := dr85) (dd := dd85) (lam := []) (ms := ms0) trivial hJ trivial ms0_ok Tryz.func85 rfl rfl (Nat.le_of_ble_eq_true rfl) (Nat.le_of_ble_eq_true rfl) drOk85 ?_
   dsimp only [Tryz.f85, dr85, dd85, Option.getD_some]
   refine ev_start ?_
   simp (disch := omega) only [hz, bin_eql_str, go_sem, evP_D, evD_guard, evD_cons, evD_zero, evD_nil]
  ·have hz : ¬ s = ⟨#[]⟩ := fun h => h1 (by rw [h]; rfl)
   by_cases h2 : s.size ≤ 8
   ·have h2' : ¬ 8 < (s.size : Int) := by omega
    have hlen : s.data.toList.length = s.size := rfl
    have hok := ok_all (s := s) ⟨by omega, h2⟩
    refine evFn (l := []) (nv := nv0) (fz := fz0) (dr := dr85) (dd := dd85) (lam := []) (ms := ms0) trivial hJ trivial ms0_ok Tryz.func85 rfl rfl (Nat.le_of_ble_eq_true rfl) (Nat.le_of_ble_eq_true rfl) drOk85 ?_
    dsimp only [Tryz.f85, dr85, dd85, Option.getD_some]
    refine ev_start ?_
    simp (disch := omega) only [hz, h2', bin_eql_str, go_sem, evP_D, evD_guard, evD_cons, evD_zero, evD_nil]
    refine evQ_loop [0, 12, 13] [] (fun σ => ∃ (k : Nat), (k ≤ s.size ∧ ∀ i b, i < k → s.data.toList[i]? = some b → dig b = true) ∧ σ = ⟨[(0, .str s), (12, .int .i64 s.size), (13, .int .i64 k)], []⟩)
     (fun σ => s.size - (match Ev.look 13 σ.env with | some (.int _ n) => n.toNat | _ => 0)) ?_ ?_
    ·simp only [go_sem, evP_D, evD_guard, evD_cons, evD_zero, evD_nil]
     exact ⟨0, ⟨Nat.zero_le _, fun i b h => by omega⟩, rfl⟩
    ·rintro σ ⟨k, ⟨hk, hall⟩, rfl⟩
     by_cases hlt : k < s.size
     ·have hlt' : (k : Int) < s.size := by omega
      have hk0 : (0 : Int) ≤ k := by omega
      have hb : s.data.toList[k]? = some (s.data.toList[k]'hlt) := List.getElem?_eq_getElem _
      obtain ⟨b, hbd⟩ : ∃ b, b = s.data.toList[k]'hlt := ⟨_, rfl⟩
      rw [← hbd] at hb
      have hg : s[k]? = some b := by rw [str_get]; exact hb
      have hmem : b ∈ s.data.toList := List.mem_of_getElem? hb
      by_cases c1 : ((b.toNat : Nat) : Int) < 48
      ·have e : codeOk s = false := by rw [hok, List.all_eq_false]; exact ⟨b, hmem, by simp [dig]; omega⟩
       simp (disch := omega) only [hlt', hk0, Int.toNat_natCast, hg, c1, e, go_sem, evP_D, evD_guard, evD_cons, evD_zero, evD_nil]
      ·by_cases c2 : 57 < ((b.toNat : Nat) : Int)
       ·have e : codeOk s = false := by rw [hok, List.all_eq_false]; exact ⟨b, hmem, by simp [dig]; omega⟩
        simp (disch := omega) only [hlt', hk0, Int.toNat_natCast, hg, c1, c2, e, go_sem, evP_D, evD_guard, evD_cons, evD_zero, evD_nil]
       ·simp (disch := omega) only [hlt', hk0, Int.toNat_natCast, hg, c1, c2, go_sem, evP_D, evD_guard, evD_cons, evD_zero, evD_nil]
        exact ⟨⟨k + 1, ⟨hlt, fun i b' hi hb' => by
         by_cases e : i = k
         ·subst e
          rw [hb] at hb'
          cases hb'
          simp [dig]; omega
         ·exact hall i b' (by omega) hb'⟩, rfl⟩, by
         have e3 : ((k : Int) + 1).toNat = k + 1 := by omega
         rw [e3]; exact Nat.sub_lt_sub_left hlt (Nat.lt_succ_self k)⟩
     ·have hk' : k = s.size := by omega
      subst hk'
      have hlt' : ¬ ((s.size : Int) < s.size) := by omega
      have e : codeOk s = true := by
       rw [hok, List.all_eq_true]
       intro b hb
       obtain ⟨i, hi, rfl⟩ := List.mem_iff_getElem.1 hb
       exact hall i _ hi (List.getElem?_eq_getElem _)
      simp (disch := omega) only [hlt', e, go_sem, evP_D, evD_guard, evD_cons, evD_zero, evD_nil]
   ·have h2' : 8 < (s.size : Int) := by omega
    have e := ok_long (s := s) (fun h => by omega)
    refine evFn (l := []) (nv := nv0) (fz := fz0) (dr := dr85) (dd := dd85) (lam := []) (ms := ms0) trivial hJ trivial ms0_ok Tryz.func85 rfl rfl (Nat.le_of_ble_eq_true rfl) (Nat.le_of_ble_eq_true rfl) drOk85 ?_
    dsimp only [Tryz.f85, dr85, dd85, Option.getD_some]
    refine ev_start ?_
    simp (disch := omega) only [hz, h2', e, bin_eql_str, go_sem, evP_D, evD_guard, evD_cons, evD_zero, evD_nil]
 ·cases h
end Go.Proofs.YtdmkmbaaemhhhaaGreatDoor
end
