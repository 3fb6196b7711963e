/-
  Steps of the proof of TopDesk: AcP AcE AcF AcG.
-/
import Derived.Test.YtcmpjagpggjfiaaGreatDoorT15
import Derived.Shelf.Strings.SlTrimAscii
import Derived.Shelf.Strings.FuncGrows
import Derived.Ground.GgwProg
import Derived.Test.YtcmpjagpggjfiaaGreatDoorProg
set_option linter.unusedVariables false
set_option linter.unusedSimpArgs false
section
namespace Go.Acc
open Go
def dig (b : UInt8) : Bool := decide (48 ≤ b.toNat ∧ b.toNat ≤ 57)
def codeOk (s : ByteArray) : Bool := decide (0 < s.size ∧ s.size ≤ 8) && s.data.toList.all dig
theorem str_get (s : ByteArray) (k : Nat) : s[k]? = s.data.toList[k]? := by
 by_cases h : k < s.size
 ·have h' : k < s.data.toList.length := by simpa using h
  rw [getElem?_pos s k h, List.getElem?_eq_getElem h']
  rfl
 ·rw [getElem?_neg s k h, List.getElem?_eq_none (by simpa using h)]
theorem str_eq (x y : ByteArray) : (x.toList == y.toList) = decide (x = y) := by
 rw [ByteArray.toList_eq, ByteArray.toList_eq]
 by_cases h : x = y
 ·subst h; simp
 ·rw [decide_eq_false h]
  have : x.data.toList ≠ y.data.toList := fun e => h (by
   obtain ⟨⟨x⟩⟩ := x
   obtain ⟨⟨y⟩⟩ := y
   have e' : x = y := e
   rw [e'])
  simpa using this
/-! ### the order of strings -/
def acE (p : Option ByteArray) : List (ByteArray × Int) → Int
 | [] => 0
 | (c, k) :: l => if codeOk c = false then 3 else if ¬ (0 ≤ k ∧ k ≤ 4) then 1 else if (match p with | some p => !Op.bytesLess p.toList c.toList | none => false) = true then 3 else acE (some c) l
def acChk (l : List (ByteArray × Int)) : Int := if 24 < l.length then 2 else acE none l
end Go.Acc
end
section
namespace Go.Proofs.YtcmpjagpggjfiaaGreatDoor
open Go Go.Ev Go.RowKit Go.Acc
set_option maxHeartbeats 4000000
theorem bin_eql_str (x y : ByteArray) : binV .eql (.str x) (.str y) = some (.bool (decide (x = y))) := by
 rw [← str_eq]; rfl
theorem bin_neq_str (x y : ByteArray) : binV .neq (.str x) (.str y) = some (.bool (!(decide (x = y)))) := by
 rw [← str_eq]; rfl
theorem bin_geq_str (x y : ByteArray) : binV .geq (.str x) (.str y) = some (.bool (!(Op.bytesLess x.toList y.toList))) := rfl
def codeF : List V → Option (V × List Ev.Blk)
 | [.str s] => some (.bool (codeOk s), [])
 | _ => none
theorem codeF_eq (s : ByteArray) : codeF [.str s] = some (.bool (codeOk s), []) := rfl
theorem ok_long {s : ByteArray} (h : ¬ (0 < s.size ∧ s.size ≤ 8)) : codeOk s = false := by unfold codeOk; rw [decide_eq_false h]; rfl
theorem ok_all {s : ByteArray} (h : 0 < s.size ∧ s.size ≤ 8) : codeOk s = s.data.toList.all dig := by unfold codeOk; rw [decide_eq_true h]; rfl
theorem code_snd {J : World → Prop} (hJ : Stable J) : Snd Tryz.prog J 151 codeF := by
 intro args r bs h
 unfold codeF at h
 split at h
 ·rename_i s
  obtain ⟨rfl, rfl⟩ := some_pair h
  by_cases h1 : s.size = 0
  ·have e := ok_long (s := s) (fun h => by omega)
   have hz : s = ⟨#[]⟩ := by
    obtain ⟨⟨l⟩⟩ := s
    have : l = [] := List.eq_nil_of_length_eq_zero h1
    rw [this]
   rw [e]
   refine evFn (l := []) (nv := nv0) (fz := fz0) (dr := dr151) (dd := dd151) (lam := []) (ms := ms0) trivial hJ trivial ms0_ok Tryz.func151 rfl rfl (Nat.le_of_ble_eq_true rfl) (Nat.le_of_ble_eq_true rfl) drOk151 ?_
   dsimp only [Tryz.f151, dr151, dd151, Option.getD_some]
   refine ev_start ?_
   simp (disch := omega) only [hz, bin_eql_str, go_sem, evP_D, evD_guard, evD_cons, evD_zero, evD_nil]
  ·have hz : ¬ s = ⟨#[]⟩ := fun h => h1 (by rw [h]; rfl)
   by_cases h2 : s.size ≤ 8
   ·have h2' : ¬ 8 < (s.size : Int) := by omega
    have hlen : s.data.toList.length = s.size := rfl
    have hok := ok_all (s := s) ⟨by omega, h2⟩
    refine evFn (l := []) (nv := nv0) (fz := fz0) (dr := dr151) (dd := dd151) (lam := []) (ms := ms0) trivial hJ trivial ms0_ok Tryz.func151 rfl rfl (Nat.le_of_ble_eq_true rfl) (Nat.le_of_ble_eq_true rfl) drOk151 ?_
    dsimp only [Tryz.f151, dr151, dd151, Option.getD_some]
    refine ev_start ?_
    simp (disch := omega) only [hz, h2', bin_eql_str, go_sem, evP_D, evD_guard, evD_cons, evD_zero, evD_nil]
    refine evQ_loop [0, 12, 13] [] (fun σ => ∃ (k : Nat), (k ≤ s.size ∧ ∀ i b, i < k → s.data.toList[i]? = some b → dig b = true) ∧ σ = ⟨[(0, .str s), (12, .int .i64 s.size), (13, .int .i64 k)], []⟩)
     (fun σ => s.size - (match Ev.look 13 σ.env with | some (.int _ n) => n.toNat | _ => 0)) ?_ ?_
    ·simp only [go_sem, evP_D, evD_guard, evD_cons, evD_zero, evD_nil]
     exact ⟨0, ⟨Nat.zero_le _, fun i b h => by omega⟩, rfl⟩
    ·rintro σ ⟨k, ⟨hk, hall⟩, rfl⟩
     by_cases hlt : k < s.size
     ·have hlt' : (k : Int) < s.size := by omega
      have hk0 : (0 : Int) ≤ k := by omega
      have hb : s.data.toList[k]? = some (s.data.toList[k]'hlt) := List.getElem?_eq_getElem _
      obtain ⟨b, hbd⟩ : ∃ b, b = s.data.toList[k]'hlt := ⟨_, rfl⟩
      rw [← hbd] at hb
      have hg : s[k]? = some b := by rw [str_get]; exact hb
      have hmem : b ∈ s.data.toList := List.mem_of_getElem? hb
      by_cases c1 : ((b.toNat : Nat) : Int) < 48
      ·have e : codeOk s = false := by rw [hok, List.all_eq_false]; exact ⟨b, hmem, by simp [dig]; omega⟩
       simp (disch := omega) only [hlt', hk0, Int.toNat_natCast, hg, c1, e, go_sem, evP_D, evD_guard, evD_cons, evD_zero, evD_nil]
      ·by_cases c2 : 57 < ((b.toNat : Nat) : Int)
       ·have e : codeOk s = false := by rw [hok, List.all_eq_false]; exact ⟨b, hmem, by simp [dig]; omega⟩
        simp (disch := omega) only [hlt', hk0, Int.toNat_natCast, hg, c1, c2, e, go_sem, evP_D, evD_guard, evD_cons, evD_zero, evD_nil]
       ·simp (disch := omega) only [hlt', hk0, Int.toNat_natCast, hg, c1, c2, go_sem, evP_D, evD_guard, evD_cons, evD_zero, evD_nil]
        exact ⟨⟨k + 1, ⟨hlt, fun i b' hi hb' => by
         by_cases e : i = k
         ·subst e
          rw [hb] at hb'
          cases hb'
          simp [dig]; omega
         ·exact hall i b' (by omega) hb'⟩, rfl⟩, by
         have e3 : ((k : Int) + 1).toNat = k + 1 := by omega
         rw [e3]; exact Nat.sub_lt_sub_left hlt (Nat.lt_succ_self k)⟩
     ·have hk' : k = s.size := by omega
      subst hk'
      have hlt' : ¬ ((s.size : Int) < s.size) := by omega
      have e : codeOk s = true := by
       rw [hok, List.all_eq_true]
       intro b hb
       obtain ⟨i, hi, rfl⟩ := List.mem_iff_getElem.1 hb
       exact hall i _ hi (List.getElem?_eq_getElem _)
      simp (disch := omega) only [hlt', e, go_sem, evP_D, evD_guard, evD_cons, evD_zero, evD_nil]
   ·have h2' : 8 < (s.size : Int) := by omega
    have e := ok_long (s := s) (fun h => by omega)
    refine evFn (l := []) (nv := nv0) (fz := fz0) (dr := dr151) (dd := dd151) (lam := []) (ms := ms0) trivial hJ trivial ms0_ok Tryz.func151 rfl rfl (Nat.le_of_ble_eq_true rfl) (Nat.le_of_ble_eq_true rfl) drOk151 ?_
    dsimp only [Tryz.f151, dr151, dd151, Option.getD_some]
    refine ev_start ?_
    simp (disch := omega) only [hz, h2', e, bin_eql_str, go_sem, evP_D, evD_guard, evD_cons, evD_zero, evD_nil]
 ·cases h
end Go.Proofs.YtcmpjagpggjfiaaGreatDoor
end
section
namespace Go.Acc
open Go
def prv (l : List (ByteArray × Int)) (k : Nat) : Option ByteArray := if k = 0 then none else (l[k - 1]?).map (·.1)
theorem acE_drop {l : List (ByteArray × Int)} {k : Nat} {c : ByteArray} {n : Int} (h : l[k]? = some (c, n)) :
  acE (prv l k) (l.drop k) = if codeOk c = false then 3 else if ¬ (0 ≤ n ∧ n ≤ 4) then 1 else if (match prv l k with | some p => !Op.bytesLess p.toList c.toList | none => false) = true then 3 else acE (prv l (k + 1)) (l.drop (k + 1)) := by
 have hlt : k < l.length := (List.getElem?_eq_some_iff.1 h).1
 have he : l[k] = (c, n) := (List.getElem?_eq_some_iff.1 h).2
 have hp : prv l (k + 1) = some c := by unfold prv; rw [if_neg (by omega), Nat.add_sub_cancel, h]; rfl
 rw [List.drop_eq_getElem_cons hlt, he, hp]
 rfl
end Go.Acc
namespace Go.Proofs.YtcmpjagpggjfiaaGreatDoor
open Go Go.Ev Go.RowKit Go.Acc
set_option maxHeartbeats 4000000
def acV (p : ByteArray × Int) : V := .agg [.str p.1, .int .i64 p.2]
def unAc : List V → Option (List (ByteArray × Int))
 | [] => some []
 | .agg [.str c, .int .i64 k] :: l => (unAc l).map fun r => (c, k) :: r
 | _ => none
theorem unAc_map : ∀ l : List (ByteArray × Int), unAc (l.map acV) = some l
 | [] => rfl
 | (c, k) :: l => by simp only [List.map_cons, acV, unAc]; rw [unAc_map l]; rfl
theorem unAc_eq : ∀ {es : List V} {l : List (ByteArray × Int)}, unAc es = some l → es = l.map acV
 | [], l, h => by simp only [unAc, Option.some.injEq] at h; subst h; rfl
 | v :: es, l, h => by
  unfold unAc at h
  split at h
  ·rename_i heq; cases heq
  ·rename_i c k t heq
   cases heq
   simp only [Option.map_eq_some_iff] at h
   obtain ⟨r, hr, rfl⟩ := h
   rw [unAc_eq hr]
   rfl
  ·cases h
def chkF : List V → Option (V × List Ev.Blk)
 | [.row 2 es] => (unAc es).map fun l => (.int .i64 (acChk l), [])
 | _ => none
theorem chkF_eq (l : List (ByteArray × Int)) : chkF [.row 2 (l.map acV)] = some (.int .i64 (acChk l), []) := by
 simp only [chkF, unAc_map, Option.map_some]
theorem acV_get {l : List (ByteArray × Int)} {k : Nat} {c : ByteArray} {n : Int} (h : l[k]? = some (c, n)) : (l.map acV)[k]? = some (.agg [.str c, .int .i64 n]) := by rw [List.getElem?_map, h]; rfl
theorem check_sound {J : World → Prop} (hJ : Stable J) (l : List (ByteArray × Int)) : SoundAt Tryz.prog J 94 [.row 2 (l.map acV)] (.int .i64 (acChk l)) [] := by
 refine SoundAt.row 0 rfl (callOk Tryz.func94 rfl rfl) fun hlen => ?_
 simp only [maxLen, List.length_map] at hlen
 refine evFn (l := [(151, codeF)]) (nv := nv0) (fz := fz0) (dr := dr94) (dd := dd94) (lam := []) (ms := ms0) ⟨code_snd hJ, trivial⟩ hJ trivial ms0_ok Tryz.func94 rfl rfl (Nat.le_of_ble_eq_true rfl) (Nat.le_of_ble_eq_true rfl) drOk94 ?_
 dsimp only [Tryz.f94, dr94, dd94, Option.getD_some]
 refine ev_start ?_
 by_cases h3 : 24 < l.length
 ·have h3' : (24 : Int) < l.length := by omega
  have e : acChk l = 2 := by unfold acChk; rw [if_pos h3]
  simp (disch := omega) only [h3', e, go_sem, evP_D, evD_guard, evD_cons, evD_zero, evD_nil]
 have h3' : ¬ (24 : Int) < l.length := by omega
 have e : acChk l = acE none l := by unfold acChk; rw [if_neg h3]
 rw [e]
 generalize hR : acE none l = R
 simp (disch := omega) only [h3', go_sem, evP_D, evD_guard, evD_cons, evD_zero, evD_nil]
 refine evQ_loop [0, 8, 9, 10] [] (fun σ => ∃ (k : Nat), (k ≤ l.length ∧ R = acE (prv l k) (l.drop k)) ∧ σ = ⟨[(0, .row 2 (l.map acV)), (8, .row 2 (l.map acV)), (9, .int .i64 l.length), (10, .int .i64 k)], []⟩)
  (fun σ => l.length - (match Ev.look 10 σ.env with | some (.int _ n) => n.toNat | _ => 0)) ?_ ?_
 ·simp only [go_sem, evP_D, evD_guard, evD_cons, evD_zero, evD_nil]
  exact ⟨0, ⟨Nat.zero_le _, hR.symm⟩, rfl⟩
 ·rintro σ ⟨k, ⟨hk, hall⟩, rfl⟩
  by_cases hlt : k < l.length
  ·have hlt' : (k : Int) < l.length := by omega
   obtain ⟨⟨c, n⟩, hcn⟩ : ∃ p, l[k]? = some p := ⟨_, List.getElem?_eq_getElem hlt⟩
   have hg := acV_get hcn
   rw [acE_drop hcn] at hall
   have hms : l.length - ((k : Int) + 1).toNat < l.length - (k : Int).toNat := by
    have e3 : ((k : Int) + 1).toNat = k + 1 := by omega
    rw [e3, Int.toNat_natCast]; exact Nat.sub_lt_sub_left hlt (Nat.lt_succ_self k)
   cases hc : codeOk c with
   | false => (have hv := hall; simp only [hc, Bool.not_false, not_true, not_false_eq_true, Bool.true_eq_false, Bool.false_eq_true, if_true, if_false, and_self] at hv; simp (disch := (first | omega | assumption)) only [hlt', idx_nat, List.length_map, hg, codeF_eq, hc, hv, go_sem, evP_D, evD_guard, evD_cons, evD_zero, evD_nil])
   | true =>
    by_cases n1 : n < 0
    ·have hn : ¬ (0 ≤ n ∧ n ≤ 4) := by omega
     (have hv := hall; simp only [hc, hn, Bool.not_false, not_true, not_false_eq_true, Bool.true_eq_false, Bool.false_eq_true, if_true, if_false, and_self] at hv; simp (disch := (first | omega | assumption)) only [hlt', idx_nat, List.length_map, hg, codeF_eq, hc, n1, hn, not_false_eq_true, hv, go_sem, evP_D, evD_guard, evD_cons, evD_zero, evD_nil])
    by_cases n2 : 4 < n
    ·have hn : ¬ (0 ≤ n ∧ n ≤ 4) := by omega
     (have hv := hall; simp only [hc, hn, Bool.not_false, not_true, not_false_eq_true, Bool.true_eq_false, Bool.false_eq_true, if_true, if_false, and_self] at hv; simp (disch := (first | omega | assumption)) only [hlt', idx_nat, List.length_map, hg, codeF_eq, hc, n1, n2, hn, not_false_eq_true, hv, go_sem, evP_D, evD_guard, evD_cons, evD_zero, evD_nil])
    have hn : 0 ≤ n ∧ n ≤ 4 := by omega
    by_cases hk0 : k = 0
    ·subst hk0
     have hp : prv l 0 = none := rfl
     have h0 : ¬ (0 : Int) < ((0 : Nat) : Int) := by omega
     have z0 : ((0 : Nat) : Int) = 0 := rfl
     have hi0 := idx_nat l.length 0 hlt
     rw [z0] at hlt' h0 hi0 hms ⊢
     simp (disch := (first | omega | assumption)) only [hlt', hi0, List.length_map, hg, codeF_eq, hc, n1, n2, hn, hp, h0, not_true, go_sem, evP_D, evD_guard, evD_cons, evD_zero, evD_nil]
     simp only [hc, hn, hp, not_true, and_self, Bool.true_eq_false, Bool.false_eq_true, if_false] at hall
     exact ⟨⟨1, ⟨hlt, hall⟩, rfl⟩, hms⟩
    ·have h0 : (0 : Int) < k := by omega
     have hk1 : k - 1 < l.length := by omega
     obtain ⟨⟨c', n'⟩, hcn'⟩ : ∃ p, l[k - 1]? = some p := ⟨_, List.getElem?_eq_getElem hk1⟩
     have hg' := acV_get hcn'
     have hp : prv l k = some c' := by unfold prv; rw [if_neg hk0, hcn']; rfl
     have e1 : (k : Int) - 1 = ((k - 1 : Nat) : Int) := by omega
     cases hb : Op.bytesLess c'.toList c.toList with
     | false => (have hv := hall; simp only [hc, hn, hp, hb, Bool.not_false, not_true, not_false_eq_true, Bool.true_eq_false, Bool.false_eq_true, if_true, if_false, and_self] at hv; simp (disch := (first | omega | assumption)) only [hlt', idx_nat, List.length_map, hg, hg', codeF_eq, hc, n1, n2, hn, hp, h0, e1, hb, bin_geq_str, not_true, hv, go_sem, evP_D, evD_guard, evD_cons, evD_zero, evD_nil])
     | true =>
      simp (disch := (first | omega | assumption)) only [hlt', idx_nat, List.length_map, hg, hg', codeF_eq, hc, n1, n2, hn, hp, h0, e1, hb, bin_geq_str, not_true, go_sem, evP_D, evD_guard, evD_cons, evD_zero, evD_nil]
      simp only [hc, hn, hp, hb, not_true, and_self, Bool.not_true, Bool.true_eq_false, Bool.false_eq_true, if_false] at hall
      exact ⟨⟨k + 1, ⟨hlt, hall⟩, rfl⟩, hms⟩
  ·have hk' : k = l.length := by omega
   subst hk'
   have hlt' : ¬ ((l.length : Int) < l.length) := by omega
   have e0 : R = 0 := by rw [hall, List.drop_length]; rfl
   simp (disch := (first | omega | assumption)) only [hlt', e0, go_sem, evP_D, evD_guard, evD_cons, evD_zero, evD_nil]
theorem check_snd {J : World → Prop} (hJ : Stable J) : Snd Tryz.prog J 94 chkF := by
 intro args r bs h
 unfold chkF at h
 split at h
 ·rename_i es
  simp only [Option.map_eq_some_iff] at h
  obtain ⟨l, hl, h⟩ := h
  obtain ⟨rfl, rfl⟩ := some_pair (congrArg some h)
  rw [unAc_eq hl]
  exact check_sound hJ l
 ·cases h
end Go.Proofs.YtcmpjagpggjfiaaGreatDoor
end
section
namespace Go.Acc
open Go
def isC (code : ByteArray) (p : ByteArray × Int) : Bool := decide (p.1 = code)
def fidx (code : ByteArray) (l : List (ByteArray × Int)) : Int := if l.any (isC code) = true then ((l.findIdx (isC code) : Nat) : Int) else -1
end Go.Acc
namespace Go.Proofs.YtcmpjagpggjfiaaGreatDoor
open Go Go.Ev Go.RowKit Go.Acc
set_option maxHeartbeats 4000000
theorem indexA_sound {J : World → Prop} (hJ : Stable J) (g : FuncId) (cs : List V) (G : List V → Option (V × List Ev.Blk)) (hG : Snd Tryz.prog J g G) (hd : V.dataL cs = true) (p : ByteArray × Int → Bool) (l : List (ByteArray × Int)) (hp : ∀ n ∈ l, G (acV n :: cs) = some (.bool (p n), [])) :
  SoundAt Tryz.prog J 106 [.row 2 (l.map acV), .fn g cs] (.int .i64 (if l.any p = true then ((l.findIdx p : Nat) : Int) else -1)) [] := by
 refine SoundAt.row 0 rfl (callOk Tryz.func106 rfl rfl) fun hlen => ?_
 simp only [maxLen, List.length_map] at hlen
 refine evFn (l := [(g, G)]) (nv := nv0) (fz := fz0) (dr := dr106) (dd := dd106) (lam := []) (ms := ms0) ⟨hG, trivial⟩ hJ trivial ms0_ok Tryz.func106 rfl rfl (Nat.le_of_ble_eq_true rfl) (Nat.le_of_ble_eq_true rfl) drOk106 ?_
 dsimp only [Tryz.f106, dr106, dd106, Option.getD_some]
 refine ev_start ?_
 simp (disch := omega) only [go_sem, evP_D, evD_guard, evD_cons, evD_zero, evD_nil]
 refine evQ_loop [0, 1, 7, 8] [] (fun σ => ∃ k : Nat, (k ≤ l.length ∧ ∀ i (h : i < l.length), i < k → p l[i] = false) ∧ σ = ⟨[(0, .row 2 (l.map acV)), (1, .fn g cs), (7, .int .i64 l.length), (8, .int .i64 k)], []⟩) (fun σ => l.length - (match Ev.look 8 σ.env with | some (.int _ n) => n.toNat | _ => 0)) ?_ ?_
 ·simp only [go_sem, evP_D, evD_guard, evD_cons, evD_zero, evD_nil]
  exact ⟨refsInL_data hd, 0, ⟨Nat.zero_le _, fun _ _ h => by omega⟩, rfl⟩
 ·rintro σ ⟨k, ⟨hk, hall⟩, rfl⟩
  by_cases hlt : k < l.length
  ·have hlt' : (k : Int) < l.length := by omega
   have hg : (l.map acV)[k]? = some (.agg [.str l[k].1, .int .i64 l[k].2]) := acV_get (c := l[k].1) (n := l[k].2) (List.getElem?_eq_getElem hlt)
   have hpk := hp l[k] (List.getElem_mem hlt)
   simp only [acV] at hpk
   cases hb : p l[k] with
   | true =>
    rw [hb] at hpk
    have hany : l.any p = true := List.any_eq_true.2 ⟨l[k], List.getElem_mem hlt, hb⟩
    have hidx : l.findIdx p = k := (List.findIdx_eq hlt).2 ⟨hb, fun j hj => hall j (by omega) hj⟩
    simp (disch := (first | omega | assumption)) only [hlt', idx_nat, List.length_map, hg, hpk, hd, V.dataL, V.data, hany, hidx, go_sem, evP_D, evD_guard, evD_cons, evD_zero, evD_nil]
   | false =>
    rw [hb] at hpk
    simp (disch := (first | omega | assumption)) only [hlt', idx_nat, List.length_map, hg, hpk, hd, refsInL_data hd, scrubL_data hd, V.dataL, V.data, go_sem, evP_D, evD_guard, evD_cons, evD_zero, evD_nil]
    exact ⟨⟨k + 1, ⟨hlt, fun i hi hik => by
     by_cases e : i = k
     ·subst e; exact hb
     ·exact hall i hi (by omega)⟩, rfl⟩, by show l.length - ((k : Int) + 1).toNat < l.length - (k : Int).toNat; omega⟩
  ·have hk' : k = l.length := by omega
   subst hk'
   have hlt' : ¬ ((l.length : Int) < l.length) := by omega
   have hany : l.any p = false := by
    rw [List.any_eq_false]
    intro x hx
    obtain ⟨i, hi, rfl⟩ := List.mem_iff_getElem.1 hx
    simp [hall i hi hi]
   simp (disch := (first | omega | assumption)) only [hlt', hany, go_sem, evP_D, evD_guard, evD_cons, evD_zero, evD_nil]
def find1F : List V → Option (V × List Ev.Blk)
 | [.agg [.str c, .int .i64 n], .rd (.str code) 0] => some (.bool (isC code (c, n)), [])
 | _ => none
theorem find1_snd {J : World → Prop} (hJ : Stable J) : Snd Tryz.prog J 107 find1F := by
 intro args r bs h
 unfold find1F at h
 split at h
 ·rename_i c n code
  obtain ⟨rfl, rfl⟩ := some_pair h
  refine evFn (l := []) (nv := nv0) (fz := fz0) (dr := dr107) (dd := dd107) (lam := []) (ms := ms0) trivial hJ trivial ms0_ok Tryz.func107 rfl rfl (Nat.le_of_ble_eq_true rfl) (Nat.le_of_ble_eq_true rfl) drOk107 ?_
  dsimp only [Tryz.f107, dr107, dd107, Option.getD_some]
  refine ev_start ?_
  simp (disch := omega) only [bin_eql_str, isC, go_sem, evP_D, evD_guard, evD_cons, evD_zero, evD_nil]
 ·cases h
theorem find_sound {J : World → Prop} (hJ : Stable J) (l : List (ByteArray × Int)) (code : ByteArray) : SoundAt Tryz.prog J 37 [.row 2 (l.map acV), .str code] (.int .i64 (fidx code l)) [] := by
 have hI := indexA_sound hJ 107 [.rd (.str code) 0] find1F (find1_snd hJ) rfl (isC code) l fun _ _ => rfl
 refine evFn (l := [(106, at1 [.row 2 (l.map acV), .fn 107 [.rd (.str code) 0]] (.int .i64 (fidx code l), []))]) (nv := nv0) (fz := fz0) (dr := dr37) (dd := dd37) (lam := []) (ms := ms0) ⟨at1_snd hI, trivial⟩ hJ trivial ms0_ok Tryz.func37 rfl rfl (Nat.le_of_ble_eq_true rfl) (Nat.le_of_ble_eq_true rfl) drOk37 ?_
 dsimp only [Tryz.f37, dr37, dd37, Option.getD_some]
 refine ev_start ?_
 simp (disch := omega) only [at1_eq, List.mapM_cons, List.mapM_nil, Option.bind_eq_bind, Option.pure_def, Option.bind_some, go_sem, evP_D, evD_guard, evD_cons, evD_zero, evD_nil]
def kindR (code : ByteArray) (l : List (ByteArray × Int)) : Int × Int := if acChk l = 0 then (if l.any (isC code) = true then ((l[l.findIdx (isC code)]?).elim 0 (·.2), 0) else (0, 4)) else (0, acChk l)
theorem kind_sound {J : World → Prop} (hJ : Stable J) (l : List (ByteArray × Int)) (code : ByteArray) : SoundAt Tryz.prog J 136 [.row 2 (l.map acV), .str code] (.tup [.int .i64 (kindR code l).1, .int .i64 (kindR code l).2]) [] := by
 refine SoundAt.row 0 rfl (callOk Tryz.func136 rfl rfl) fun hlen => ?_
 simp only [maxLen, List.length_map] at hlen
 refine evFn (l := [(94, chkF), (37, at1 [.row 2 (l.map acV), .str code] (.int .i64 (fidx code l), []))]) (nv := nv0) (fz := fz0) (dr := dr136) (dd := dd136) (lam := []) (ms := ms0) ⟨check_snd hJ, at1_snd (find_sound hJ l code), trivial⟩ hJ trivial ms0_ok Tryz.func136 rfl rfl (Nat.le_of_ble_eq_true rfl) (Nat.le_of_ble_eq_true rfl) drOk136 ?_
 dsimp only [Tryz.f136, dr136, dd136, Option.getD_some]
 refine ev_start ?_
 by_cases h : acChk l = 0
 ·cases hany : l.any (isC code) with
  | true =>
   have e : fidx code l = ((l.findIdx (isC code) : Nat) : Int) := by unfold fidx; rw [if_pos hany]
   have hlt : l.findIdx (isC code) < l.length := List.findIdx_lt_length_of_exists (by
    obtain ⟨x, hx, hc⟩ := List.any_eq_true.1 hany
    exact ⟨x, hx, hc⟩)
   obtain ⟨⟨c, n⟩, hcn⟩ : ∃ p, l[l.findIdx (isC code)]? = some p := ⟨_, List.getElem?_eq_getElem hlt⟩
   have ek : kindR code l = (n, 0) := by unfold kindR; rw [if_pos h, if_pos hany, hcn]; rfl
   have hg := acV_get hcn
   have h0 : ¬ (((l.findIdx (isC code) : Nat) : Int) < 0) := by omega
   simp (disch := (first | omega | assumption)) only [chkF_eq, at1_eq, h, e, ek, h0, idx_nat, List.length_map, hg, go_sem, evP_D, evD_guard, evD_cons, evD_zero, evD_nil]
  | false =>
   have e : fidx code l = -1 := by unfold fidx; rw [hany]; rfl
   have ek : kindR code l = (0, 4) := by unfold kindR; rw [if_pos h, hany]; rfl
   simp (disch := omega) only [chkF_eq, at1_eq, h, e, ek, go_sem, evP_D, evD_guard, evD_cons, evD_zero, evD_nil]
 ·have ek : kindR code l = (0, acChk l) := by unfold kindR; rw [if_neg h]
  simp (disch := omega) only [chkF_eq, at1_eq, h, ek, go_sem, evP_D, evD_guard, evD_cons, evD_zero, evD_nil]
end Go.Proofs.YtcmpjagpggjfiaaGreatDoor
end
