/-
  Codes and accounts, run by the machine.
-/
import Derived.Test.YtdmkmbaaemhhhaaGreatDoorL12
set_option linter.unusedVariables false
set_option linter.unusedSimpArgs false
namespace Go.Proofs.YtdmkmbaaemhhhaaGreatDoor
open Go Go.Ev Go.RowKit Go.Acc
set_option maxHeartbeats 4000000
theorem bin_eql_str (x y : ByteArray) : binV .eql (.str x) (.str y) = some (.bool (decide (x = y))) := by
 rw [← str_eq]; rfl
def digsB : ByteArray := ⟨#[48, 49, 50, 51, 52, 53, 54, 55, 56, 57]⟩
def trimF : List V → Option (V × List Blk)
 | [.str s, .str c] => if s.size ≤ 8 ∧ c = digsB then some (.str ⟨(Lib.trimS s.data.toList digsL).toArray⟩, []) else none
 | _ => none
theorem trimF_eq {s : ByteArray} (h : s.size ≤ 8) : trimF [.str s, .str ⟨#[48, 49, 50, 51, 52, 53, 54, 55, 56, 57]⟩] = some (.str ⟨(Lib.trimS s.data.toList digsL).toArray⟩, []) := if_pos ⟨h, rfl⟩
theorem trim_snd {J : World → Prop} : Snd Tryz.prog J 96 trimF := by
 intro args r bs h
 unfold trimF at h
 split at h
 ·rename_i s c
  split at h
  ·rename_i hc
   obtain ⟨rfl, rfl⟩ := some_pair h
   obtain ⟨hs, rfl⟩ := hc
   exact sound_plain (callOk Tryz.func96 rfl rfl) rfl rfl fun w _ => Any.strings_Trim_laid Tryz.lays160 (by kernel_rfl) s digsB w (by omega) (by decide) (ascii_of_all (by decide))
  ·cases h
 ·cases h
def rc1 (x : Nat) : Bool := decide (x < 48 ∨ 57 < x)
theorem rc1_sound {J : World → Prop} (hJ : Stable J) (x : Nat) : SoundAt Tryz.prog J 98 [.int .i32 x] (.bool (rc1 x)) [] := by
 refine evFn (l := []) (nv := nv0) (fz := fz0) (dr := dr98) (dd := dd98) (lam := []) (ms := ms0) trivial hJ trivial ms0_ok Tryz.func98 rfl rfl (Nat.le_of_ble_eq_true rfl) (Nat.le_of_ble_eq_true rfl) drOk98 ?_
 dsimp only [Tryz.f98, dr98, dd98, Option.getD_some]
 refine ev_start ?_
 by_cases h1 : (x : Int) < 48
 ·have e : rc1 x = true := decide_eq_true (by omega)
  simp (disch := omega) only [h1, e, go_sem, evP_D, evD_guard, evD_cons, evD_zero, evD_nil]
 ·by_cases h2 : 57 < (x : Int)
  ·have e : rc1 x = true := decide_eq_true (by omega)
   simp (disch := omega) only [h1, h2, e, go_sem, evP_D, evD_guard, evD_cons, evD_zero, evD_nil]
  ·have e : rc1 x = false := decide_eq_false (by omega)
   simp (disch := omega) only [h1, h2, e, go_sem, evP_D, evD_guard, evD_cons, evD_zero, evD_nil]
theorem idx_none {s : ByteArray} (h : s.data.toList.all dig = true) : ∀ f pos, Lib.idxFuncFrom rc1 true s f pos = -1
 | 0, _ => rfl
 | f + 1, pos => by
  unfold Lib.idxFuncFrom
  split
  ·rename_i hp
   have hm : s[pos] ∈ s.data.toList := by
    have h' : pos < s.data.toList.length := hp
    have := List.getElem_mem h'
    exact this
   have hd := List.all_eq_true.1 h _ hm
   simp only [dig, decide_eq_true_eq] at hd
   have e := decode_ascii s pos hp (by omega)
   rw [e]
   have e2 : rc1 (s[pos]).toNat = false := decide_eq_false (by omega)
   simp only [e2, Bool.false_eq_true, if_false]
   exact idx_none h f _
  ·rfl
theorem contains_sound {J : World → Prop} (hJ : Stable J) {s : ByteArray} (h : s.data.toList.all dig = true) : SoundAt Tryz.prog J 97 [.str s, .fn 98 []] (.bool false) [] := by
 refine ⟨callOk Tryz.func97 rfl rfl, fun w ok us hJw hok hlen hrel => ?_⟩
 have hus : us = [.string s, .func (.func 98) #[] #[]] := by
  match us, hlen, hrel with
  | [u, v], _, hrel =>
   have h0 := hrel 0 _ u rfl rfl
   have h1 := hrel 1 _ v rfl rfl
   cases h0
   cases h1 with
   | fn f cs vs hl _ =>
    have : vs = [] := List.eq_nil_of_length_eq_zero (by simpa using hl.symm)
    subst this
    rfl
 subst hus
 have hp : PredGrows Tryz.prog 98 #[] rc1 w := fun W x _ hb => by
  have hJW := hJ w W hJw hb
  exact SoundAt.calls (rc1_sound hJ x) rfl hJW (vals := [.int .i32 x]) rfl (fun j c v hc hv => by
   match j with
   | 0 => simp at hc hv; subst hc; subst hv; exact .int _ _
   | j + 1 => simp at hc)
 have hC := Any.strings_ContainsFunc_grows Tryz.laysGw17 98 #[] (enters_of Tryz.func98 (by kernel_rfl) rfl) rc1 s w hp
 refine (show Calls Tryz.prog 97 _ w _ from hC).mono ?_
 rintro e w' ⟨rfl, hb⟩
 refine ⟨.bool false, fun _ => none, ?_, hb, ⟨hb.size, fun b k hk => (by simp at hk), fun b sv hr => (by cases hr), fun b b' sv sv' g h1 => (by cases h1)⟩, .ro (.bool _)⟩
 have : Lib.idxFunc rc1 true s = -1 := idx_none h _ _
 rw [this]
 rfl
def codeF : List V → Option (V × List Blk)
 | [.str s] => some (.bool (codeOk s), [])
 | _ => none
theorem codeF_eq (s : ByteArray) : codeF [.str s] = some (.bool (codeOk s), []) := rfl
theorem ok_long {s : ByteArray} (h : ¬ (0 < s.size ∧ s.size ≤ 8)) : codeOk s = false := by unfold codeOk; rw [decide_eq_false h]; rfl
theorem ok_all {s : ByteArray} (h : 0 < s.size ∧ s.size ≤ 8) : codeOk s = s.data.toList.all dig := by unfold codeOk; rw [decide_eq_true h]; rfl
theorem rcode_snd {J : World → Prop} (hJ : Stable J) : Snd Tryz.prog J 58 codeF := by
 intro args r bs h
 unfold codeF at h
 split at h
 ·rename_i s
  obtain ⟨rfl, rfl⟩ := some_pair h
  by_cases h1 : 0 < s.size
  ·have h1' : (0 : Int) < s.size := by omega
   by_cases h2 : s.size ≤ 8
   ·have h2' : (s.size : Int) < 9 := by omega
    cases hd : s.data.toList.all dig with
    | true =>
     have e : codeOk s = true := by rw [ok_all ⟨h1, h2⟩]; exact hd
     have ht := trimF_eq h2
     rw [trim_all hd] at ht
     refine evFn (l := [(96, trimF), (97, at1 [.str s, .fn 98 []] (.bool false, []))]) (nv := nv0) (fz := fz0) (dr := dr58) (dd := dd58) (lam := []) (ms := ms0) ⟨trim_snd, at1_snd (contains_sound hJ hd), trivial⟩ hJ trivial ms0_ok Tryz.func58 rfl rfl (Nat.le_of_ble_eq_true rfl) (Nat.le_of_ble_eq_true rfl) drOk58 ?_
     dsimp only [Tryz.f58, dr58, dd58, Option.getD_some]
     refine ev_start ?_
     simp (disch := omega) only [h1', h2', ht, at1_eq, e, bin_eql_str, go_sem, evP_D, evD_guard, evD_cons, evD_zero, evD_nil]
    | false =>
     have e : codeOk s = false := by rw [ok_all ⟨h1, h2⟩]; exact hd
     have ht := trimF_eq h2
     have hne : ¬ (ByteArray.mk (Lib.trimS s.data.toList digsL).toArray = ByteArray.mk #[]) := fun h => trim_not hd (by
      have := congrArg (fun b : ByteArray => b.data.toList) h
      simpa using this)
     refine evFn (l := [(96, trimF)]) (nv := nv0) (fz := fz0) (dr := dr58) (dd := dd58) (lam := []) (ms := ms0) ⟨trim_snd, trivial⟩ hJ trivial ms0_ok Tryz.func58 rfl rfl (Nat.le_of_ble_eq_true rfl) (Nat.le_of_ble_eq_true rfl) drOk58 ?_
     dsimp only [Tryz.f58, dr58, dd58, Option.getD_some]
     refine ev_start ?_
     simp (disch := omega) only [h1', h2', ht, hne, e, bin_eql_str, go_sem, evP_D, evD_guard, evD_cons, evD_zero, evD_nil]
   ·have h2' : ¬ (s.size : Int) < 9 := by omega
    have e := ok_long (s := s) (fun h => h2 h.2)
    refine evFn (l := []) (nv := nv0) (fz := fz0) (dr := dr58) (dd := dd58) (lam := []) (ms := ms0) trivial hJ trivial ms0_ok Tryz.func58 rfl rfl (Nat.le_of_ble_eq_true rfl) (Nat.le_of_ble_eq_true rfl) drOk58 ?_
    dsimp only [Tryz.f58, dr58, dd58, Option.getD_some]
    refine ev_start ?_
    simp (disch := omega) only [h1', h2', e, go_sem, evP_D, evD_guard, evD_cons, evD_zero, evD_nil]
  ·have h1' : ¬ (0 : Int) < s.size := by omega
   have e := ok_long (s := s) (fun h => h1 h.1)
   refine evFn (l := []) (nv := nv0) (fz := fz0) (dr := dr58) (dd := dd58) (lam := []) (ms := ms0) trivial hJ trivial ms0_ok Tryz.func58 rfl rfl (Nat.le_of_ble_eq_true rfl) (Nat.le_of_ble_eq_true rfl) drOk58 ?_
   dsimp only [Tryz.f58, dr58, dd58, Option.getD_some]
   refine ev_start ?_
   simp (disch := omega) only [h1', e, go_sem, evP_D, evD_guard, evD_cons, evD_zero, evD_nil]
 ·cases h
theorem code_snd {J : World → Prop} (hJ : Stable J) : Snd Tryz.prog J 85 codeF := by
 intro args r bs h
 unfold codeF at h
 split at h
 ·rename_i s
  obtain ⟨rfl, rfl⟩ := some_pair h
  by_cases h1 : s.size = 0
  ·have e := ok_long (s := s) (fun h => by omega)
   have hz : s = ⟨#[]⟩ := by
    obtain ⟨⟨l⟩⟩ := s
    have : l = [] := List.eq_nil_of_length_eq_zero h1
    rw [this]
   rw [e]
   refine evFn (l := []) (nv := nv0) (fz := fz0) (dr := dr85) (dd := dd85) (lam := []) (ms := ms0) trivial hJ trivial ms0_ok Tryz.func85 rfl rfl (Nat.le_of_ble_eq_true rfl) (Nat.le_of_ble_eq_true rfl) drOk85 ?_
   dsimp only [Tryz.f85, dr85, dd85, Option.getD_some]
   refine ev_start ?_
   simp (disch := omega) only [hz, bin_eql_str, go_sem, evP_D, evD_guard, evD_cons, evD_zero, evD_nil]
  ·have hz : ¬ s = ⟨#[]⟩ := fun h => h1 (by rw [h]; rfl)
   by_cases h2 : s.size ≤ 8
   ·have h2' : ¬ 8 < (s.size : Int) := by omega
    have hlen : s.data.toList.length = s.size := rfl
    have hok := ok_all (s := s) ⟨by omega, h2⟩
    refine evFn (l := []) (nv := nv0) (fz := fz0) (dr := dr85) (dd := dd85) (lam := []) (ms := ms0) trivial hJ trivial ms0_ok Tryz.func85 rfl rfl (Nat.le_of_ble_eq_true rfl) (Nat.le_of_ble_eq_true rfl) drOk85 ?_
    dsimp only [Tryz.f85, dr85, dd85, Option.getD_some]
    refine ev_start ?_
    simp (disch := omega) only [hz, h2', bin_eql_str, go_sem, evP_D, evD_guard, evD_cons, evD_zero, evD_nil]
    refine evQ_loop [0, 12, 13] [] (fun σ => ∃ (k : Nat), (k ≤ s.size ∧ ∀ i b, i < k → s.data.toList[i]? = some b → dig b = true) ∧ σ = ⟨[(0, .str s), (12, .int .i64 s.size), (13, .int .i64 k)], []⟩)
     (fun σ => s.size - (match Ev.look 13 σ.env with | some (.int _ n) => n.toNat | _ => 0)) ?_ ?_
    ·simp only [go_sem, evP_D, evD_guard, evD_cons, evD_zero, evD_nil]
     exact ⟨0, ⟨Nat.zero_le _, fun i b h => by omega⟩, rfl⟩
    ·rintro σ ⟨k, ⟨hk, hall⟩, rfl⟩
     by_cases hlt : k < s.size
     ·have hlt' : (k : Int) < s.size := by omega
      have hk0 : (0 : Int) ≤ k := by omega
      have hb : s.data.toList[k]? = some (s.data.toList[k]'hlt) := List.getElem?_eq_getElem _
      obtain ⟨b, hbd⟩ : ∃ b, b = s.data.toList[k]'hlt := ⟨_, rfl⟩
      rw [← hbd] at hb
      have hg : s[k]? = some b := by rw [str_get]; exact hb
      have hmem : b ∈ s.data.toList := List.mem_of_getElem? hb
      by_cases c1 : ((b.toNat : Nat) : Int) < 48
      ·have e : codeOk s = false := by rw [hok, List.all_eq_false]; exact ⟨b, hmem, by simp [dig]; omega⟩
       simp (disch := omega) only [hlt', hk0, Int.toNat_natCast, hg, c1, e, go_sem, evP_D, evD_guard, evD_cons, evD_zero, evD_nil]
      ·by_cases c2 : 57 < ((b.toNat : Nat) : Int)
       ·have e : codeOk s = false := by rw [hok, List.all_eq_false]; exact ⟨b, hmem, by simp [dig]; omega⟩
        simp (disch := omega) only [hlt', hk0, Int.toNat_natCast, hg, c1, c2, e, go_sem, evP_D, evD_guard, evD_cons, evD_zero, evD_nil]
       ·simp (disch := omega) only [hlt', hk0, Int.toNat_natCast, hg, c1, c2, go_sem, evP_D, evD_guard, evD_cons, evD_zero, evD_nil]
        exact ⟨⟨k + 1, ⟨hlt, fun i b' hi hb' => by
         by_cases e : i = k
         ·subst e
          rw [hb] at hb'
          cases hb'
          simp [dig]; omega
         ·exact hall i b' (by omega) hb'⟩, rfl⟩, by
         have e3 : ((k : Int) + 1).toNat = k + 1 := by omega
         rw [e3]; exact Nat.sub_lt_sub_left hlt (Nat.lt_succ_self k)⟩
     ·have hk' : k = s.size := by omega
      subst hk'
      have hlt' : ¬ ((s.size : Int) < s.size) := by omega
      have e : codeOk s = true := by
       rw [hok, List.all_eq_true]
       intro b hb
       obtain ⟨i, hi, rfl⟩ := List.mem_iff_getElem.1 hb
       exact hall i _ hi (List.getElem?_eq_getElem _)
      simp (disch := omega) only [hlt', e, go_sem, evP_D, evD_guard, evD_cons, evD_zero, evD_nil]
   ·have h2' : 8 < (s.size : Int) := by omega
    have e := ok_long (s := s) (fun h => by omega)
    refine evFn (l := []) (nv := nv0) (fz := fz0) (dr := dr85) (dd := dd85) (lam := []) (ms := ms0) trivial hJ trivial ms0_ok Tryz.func85 rfl rfl (Nat.le_of_ble_eq_true rfl) (Nat.le_of_ble_eq_true rfl) drOk85 ?_
    dsimp only [Tryz.f85, dr85, dd85, Option.getD_some]
    refine ev_start ?_
    simp (disch := omega) only [hz, h2', e, bin_eql_str, go_sem, evP_D, evD_guard, evD_cons, evD_zero, evD_nil]
 ·cases h
end Go.Proofs.YtdmkmbaaemhhhaaGreatDoor
