/-
  Steps of the proof of TopDesk: EnE EnF EnG EnH.
-/
import Derived.Test.YtcmpjagpggjfiaaGreatDoorT16
import Derived.Shelf.Small.Strs
import Derived.Test.YtcmpjagpggjfiaaGreatDoorProg
set_option linter.unusedVariables false
set_option linter.unusedSimpArgs false
section
namespace Go.Acc
open Go
def keyC (b : UInt8) : Bool := decide ((97 ≤ b.toNat ∧ b.toNat ≤ 122) ∨ (48 ≤ b.toNat ∧ b.toNat ≤ 57) ∨ b.toNat = 45)
def keyOk' (s : ByteArray) : Bool := decide (0 < s.size ∧ s.size ≤ 12) && s.data.toList.all keyC
theorem key_all {s : ByteArray} (h : 0 < s.size ∧ s.size ≤ 12) : keyOk' s = s.data.toList.all keyC := by unfold keyOk'; rw [decide_eq_true h]; rfl
theorem key_long {s : ByteArray} (h : ¬ (0 < s.size ∧ s.size ≤ 12)) : keyOk' s = false := by unfold keyOk'; rw [decide_eq_false h]; rfl
theorem key_bad {s : ByteArray} {b : UInt8} (hb : b ∈ s.data.toList) (h : keyC b = false) : keyOk' s = false := by
 unfold keyOk'
 have : s.data.toList.all keyC = false := List.all_eq_false.2 ⟨b, hb, by rw [h]; simp⟩
 rw [this, Bool.and_false]
def hasC (c : ByteArray) (l : List ByteArray) : Bool := l.any fun x => decide (x = c)
def lnE (seen : List ByteArray) : List (ByteArray × Int) → Int
 | [] => 0
 | (c, n) :: l => if codeOk c = false then 3 else if ¬ ((-1000000000000 ≤ n ∧ n ≤ 1000000000000) ∧ n ≠ 0) then 1 else if hasC c seen = true then 5 else lnE (seen ++ [c]) l
def lnSum (l : List (ByteArray × Int)) : Nat → Int
 | 0 => 0
 | k + 1 => lnSum l k + (l[k]?).elim 0 (·.2)
def lnChk (l : List (ByteArray × Int)) : Int := if 12 < l.length then 2 else if lnE [] l ≠ 0 then lnE [] l else if l.length < 2 ∨ lnSum l l.length ≠ 0 then 7 else 0
def codesTo (l : List (ByteArray × Int)) (k : Nat) : List ByteArray := (l.take k).map (·.1)
theorem lnE_drop {l : List (ByteArray × Int)} {k : Nat} {c : ByteArray} {n : Int} (h : l[k]? = some (c, n)) :
  lnE (codesTo l k) (l.drop k) = if codeOk c = false then 3 else if ¬ ((-1000000000000 ≤ n ∧ n ≤ 1000000000000) ∧ n ≠ 0) then 1 else if hasC c (codesTo l k) = true then 5 else lnE (codesTo l (k + 1)) (l.drop (k + 1)) := by
 have hlt : k < l.length := (List.getElem?_eq_some_iff.1 h).1
 have he : l[k] = (c, n) := (List.getElem?_eq_some_iff.1 h).2
 have hp : codesTo l (k + 1) = codesTo l k ++ [c] := by unfold codesTo; rw [List.take_succ_eq_append_getElem hlt, he, List.map_append]; rfl
 rw [List.drop_eq_getElem_cons hlt, he, hp]
 rfl
def enE (key : ByteArray) (day : Int) (l : List (ByteArray × Int)) : Int := if keyOk' key = false then 3 else if ¬ (0 ≤ day ∧ day ≤ 292193) then 1 else lnChk l
end Go.Acc
namespace Go.Proofs.YtcmpjagpggjfiaaGreatDoor
open Go Go.Ev Go.RowKit Go.Acc
set_option maxHeartbeats 4000000
def dayF : List V → Option (V × List Ev.Blk)
 | [.int .i64 x] => some (.bool (decide (0 ≤ x ∧ x ≤ 292193)), [])
 | _ => none
theorem dayF_eq (x : Int) : dayF [.int .i64 x] = some (.bool (decide (0 ≤ x ∧ x ≤ 292193)), []) := rfl
theorem is_snd {J : World → Prop} (hJ : Stable J) : Snd Tryz.prog J 38 dayF := by
 intro args r bs h
 unfold dayF at h
 split at h
 ·rename_i x
  obtain ⟨rfl, rfl⟩ := some_pair h
  refine evFn (l := []) (nv := nv0) (fz := fz0) (dr := dr38) (dd := dd38) (lam := []) (ms := ms0) trivial hJ trivial ms0_ok Tryz.func38 rfl rfl (Nat.le_of_ble_eq_true rfl) (Nat.le_of_ble_eq_true rfl) drOk38 ?_
  dsimp only [Tryz.f38, dr38, dd38, Option.getD_some]
  refine ev_start ?_
  by_cases h1 : 0 ≤ x
  ·by_cases h2 : x ≤ 292193
   ·have h1' : (0 : Int) ≤ x := h1
    simp (disch := omega) only [h1, h2, and_self, go_sem, evP_D, evD_guard, evD_cons, evD_zero, evD_nil]
   ·simp (disch := omega) only [h1, h2, and_false, go_sem, evP_D, evD_guard, evD_cons, evD_zero, evD_nil]
  ·simp (disch := omega) only [h1, false_and, go_sem, evP_D, evD_guard, evD_cons, evD_zero, evD_nil]
 ·cases h
theorem spmoney_snd {J : World → Prop} (hJ : Stable J) : Snd Tryz.prog J 119 moneyF := by
 intro args r bs h
 unfold moneyF at h
 split at h
 ·rename_i x
  obtain ⟨rfl, rfl⟩ := some_pair h
  refine evFn (l := []) (nv := nv0) (fz := fz0) (dr := dr119) (dd := dd119) (lam := []) (ms := ms0) trivial hJ trivial ms0_ok Tryz.func119 rfl rfl (Nat.le_of_ble_eq_true rfl) (Nat.le_of_ble_eq_true rfl) drOk119 ?_
  dsimp only [Tryz.f119, dr119, dd119, Option.getD_some]
  refine ev_start ?_
  by_cases h1 : -1000000000000 ≤ x
  ·by_cases h2 : x ≤ 1000000000000
   ·have h1' : -1000000000000 ≤ x := h1
    simp (disch := omega) only [h1, h2, and_self, go_sem, evP_D, evD_guard, evD_cons, evD_zero, evD_nil]
   ·simp (disch := omega) only [h1, h2, and_false, go_sem, evP_D, evD_guard, evD_cons, evD_zero, evD_nil]
  ·simp (disch := omega) only [h1, false_and, go_sem, evP_D, evD_guard, evD_cons, evD_zero, evD_nil]
 ·cases h
def keyF : List V → Option (V × List Ev.Blk)
 | [.str s] => some (.bool (keyOk' s), [])
 | _ => none
theorem keyF_eq (s : ByteArray) : keyF [.str s] = some (.bool (keyOk' s), []) := rfl
theorem key_snd {J : World → Prop} (hJ : Stable J) : Snd Tryz.prog J 95 keyF := by
 intro args r bs h
 unfold keyF at h
 split at h
 ·rename_i s
  obtain ⟨rfl, rfl⟩ := some_pair h
  by_cases h1 : s.size = 0
  ·have e := key_long (s := s) (fun h => by omega)
   have hz : s = ⟨#[]⟩ := by
    obtain ⟨⟨l⟩⟩ := s
    have : l = [] := List.eq_nil_of_length_eq_zero h1
    rw [this]
   rw [e]
   refine evFn (l := []) (nv := nv0) (fz := fz0) (dr := dr95) (dd := dd95) (lam := []) (ms := ms0) trivial hJ trivial ms0_ok Tryz.func95 rfl rfl (Nat.le_of_ble_eq_true rfl) (Nat.le_of_ble_eq_true rfl) drOk95 ?_
   dsimp only [Tryz.f95, dr95, dd95, Option.getD_some]
   refine ev_start ?_
   simp (disch := omega) only [hz, bin_eql_str, go_sem, evP_D, evD_guard, evD_cons, evD_zero, evD_nil]
  ·have hz : ¬ s = ⟨#[]⟩ := fun h => h1 (by rw [h]; rfl)
   by_cases h2 : s.size ≤ 12
   ·have h2' : ¬ 12 < (s.size : Int) := by omega
    have hok := key_all (s := s) ⟨by omega, h2⟩
    refine evFn (l := []) (nv := nv0) (fz := fz0) (dr := dr95) (dd := dd95) (lam := []) (ms := ms0) trivial hJ trivial ms0_ok Tryz.func95 rfl rfl (Nat.le_of_ble_eq_true rfl) (Nat.le_of_ble_eq_true rfl) drOk95 ?_
    dsimp only [Tryz.f95, dr95, dd95, Option.getD_some]
    refine ev_start ?_
    simp (disch := omega) only [hz, h2', bin_eql_str, go_sem, evP_D, evD_guard, evD_cons, evD_zero, evD_nil]
    refine evQ_loop [0, 13, 14] [] (fun σ => ∃ (k : Nat), (k ≤ s.size ∧ ∀ i b, i < k → s.data.toList[i]? = some b → keyC b = true) ∧ σ = ⟨[(0, .str s), (13, .int .i64 s.size), (14, .int .i64 k)], []⟩)
     (fun σ => s.size - (match Ev.look 14 σ.env with | some (.int _ n) => n.toNat | _ => 0)) ?_ ?_
    ·simp only [go_sem, evP_D, evD_guard, evD_cons, evD_zero, evD_nil]
     exact ⟨0, ⟨Nat.zero_le _, fun i b h => by omega⟩, rfl⟩
    ·rintro σ ⟨k, ⟨hk, hall⟩, rfl⟩
     by_cases hlt : k < s.size
     ·have hlt' : (k : Int) < s.size := by omega
      have hk0 : (0 : Int) ≤ k := by omega
      obtain ⟨b, hbd⟩ : ∃ b, b = s.data.toList[k]'hlt := ⟨_, rfl⟩
      have hb : s.data.toList[k]? = some b := by rw [hbd]; exact List.getElem?_eq_getElem _
      have hg : s[k]? = some b := by rw [str_get]; exact hb
      have hmem : b ∈ s.data.toList := List.mem_of_getElem? hb
      have hms : s.size - ((k : Int) + 1).toNat < s.size - (k : Int).toNat := by
       have e3 : ((k : Int) + 1).toNat = k + 1 := by omega
       rw [e3, Int.toNat_natCast]; exact Nat.sub_lt_sub_left hlt (Nat.lt_succ_self k)
      have hnext : keyC b = true → ∀ i b', i < k + 1 → s.data.toList[i]? = some b' → keyC b' = true := fun hc i b' hi hb' => by
       by_cases e : i = k
       ·subst e
        rw [hb] at hb'
        cases hb'
        exact hc
       ·exact hall i b' (by omega) hb'
      by_cases c1 : ((b.toNat : Nat) : Int) ≥ 97
      ·by_cases c2 : ((b.toNat : Nat) : Int) ≤ 122
       ·simp (disch := omega) only [hlt', hk0, Int.toNat_natCast, hg, c1, c2, go_sem, evP_D, evD_guard, evD_cons, evD_zero, evD_nil]
        exact ⟨⟨k + 1, ⟨hlt, hnext (by simp [keyC]; omega)⟩, rfl⟩, hms⟩
       ·have c3 : ((b.toNat : Nat) : Int) ≥ 48 := by omega
        have c4 : ¬ ((b.toNat : Nat) : Int) ≤ 57 := by omega
        have c5 : ¬ ((b.toNat : Nat) : Int) = 45 := by omega
        have e : keyOk' s = false := key_bad hmem (by simp [keyC]; omega)
        simp (disch := omega) only [hlt', hk0, Int.toNat_natCast, hg, c1, c2, c3, c4, c5, e, go_sem, evP_D, evD_guard, evD_cons, evD_zero, evD_nil]
      ·by_cases c3 : ((b.toNat : Nat) : Int) ≥ 48
       ·by_cases c4 : ((b.toNat : Nat) : Int) ≤ 57
        ·simp (disch := omega) only [hlt', hk0, Int.toNat_natCast, hg, c1, c3, c4, go_sem, evP_D, evD_guard, evD_cons, evD_zero, evD_nil]
         exact ⟨⟨k + 1, ⟨hlt, hnext (by simp [keyC]; omega)⟩, rfl⟩, hms⟩
        ·have c5 : ¬ ((b.toNat : Nat) : Int) = 45 := by omega
         have e : keyOk' s = false := key_bad hmem (by simp [keyC]; omega)
         simp (disch := omega) only [hlt', hk0, Int.toNat_natCast, hg, c1, c3, c4, c5, e, go_sem, evP_D, evD_guard, evD_cons, evD_zero, evD_nil]
       ·by_cases c5 : ((b.toNat : Nat) : Int) = 45
        ·simp (disch := omega) only [hlt', hk0, Int.toNat_natCast, hg, c1, c3, c5, go_sem, evP_D, evD_guard, evD_cons, evD_zero, evD_nil]
         exact ⟨⟨k + 1, ⟨hlt, hnext (by simp [keyC]; omega)⟩, rfl⟩, hms⟩
        ·have e : keyOk' s = false := key_bad hmem (by simp [keyC]; omega)
         simp (disch := omega) only [hlt', hk0, Int.toNat_natCast, hg, c1, c3, c5, e, go_sem, evP_D, evD_guard, evD_cons, evD_zero, evD_nil]
     ·have hk' : k = s.size := by omega
      subst hk'
      have hlt' : ¬ ((s.size : Int) < s.size) := by omega
      have e : keyOk' s = true := by
       rw [hok, List.all_eq_true]
       intro b hb
       obtain ⟨i, hi, rfl⟩ := List.mem_iff_getElem.1 hb
       exact hall i _ hi (List.getElem?_eq_getElem _)
      simp (disch := omega) only [hlt', e, go_sem, evP_D, evD_guard, evD_cons, evD_zero, evD_nil]
   ·have h2' : 12 < (s.size : Int) := by omega
    have e := key_long (s := s) (fun h => by omega)
    refine evFn (l := []) (nv := nv0) (fz := fz0) (dr := dr95) (dd := dd95) (lam := []) (ms := ms0) trivial hJ trivial ms0_ok Tryz.func95 rfl rfl (Nat.le_of_ble_eq_true rfl) (Nat.le_of_ble_eq_true rfl) drOk95 ?_
    dsimp only [Tryz.f95, dr95, dd95, Option.getD_some]
    refine ev_start ?_
    simp (disch := omega) only [hz, h2', e, bin_eql_str, go_sem, evP_D, evD_guard, evD_cons, evD_zero, evD_nil]
 ·cases h
end Go.Proofs.YtcmpjagpggjfiaaGreatDoor
end
section
namespace Go.Acc
open Go
theorem lnSum_succ {l : List (ByteArray × Int)} {k : Nat} {c : ByteArray} {n : Int} (h : l[k]? = some (c, n)) : lnSum l (k + 1) = lnSum l k + n := by
 show lnSum l k + (l[k]?).elim 0 (·.2) = _
 rw [h]; rfl
theorem codes_any (l : List (ByteArray × Int)) (k : Nat) (c : ByteArray) : (l.take k).any (isC c) = hasC c (codesTo l k) := by
 unfold codesTo hasC
 rw [List.any_map]
 rfl
end Go.Acc
namespace Go.Proofs.YtcmpjagpggjfiaaGreatDoor
open Go Go.Ev Go.RowKit Go.Acc
set_option maxHeartbeats 4000000
theorem indexL_sound {J : World → Prop} (hJ : Stable J) (g : FuncId) (cs : List V) (G : List V → Option (V × List Ev.Blk)) (hG : Snd Tryz.prog J g G) (hd : V.dataL cs = true) (p : ByteArray × Int → Bool) (l : List (ByteArray × Int)) (hp : ∀ n ∈ l, G (acV n :: cs) = some (.bool (p n), [])) :
  SoundAt Tryz.prog J 153 [.row 2 (l.map acV), .fn g cs] (.int .i64 (if l.any p = true then ((l.findIdx p : Nat) : Int) else -1)) [] := by
 refine SoundAt.row 0 rfl (callOk Tryz.func153 rfl rfl) fun hlen => ?_
 simp only [maxLen, List.length_map] at hlen
 refine evFn (l := [(g, G)]) (nv := nv0) (fz := fz0) (dr := dr153) (dd := dd153) (lam := []) (ms := ms0) ⟨hG, trivial⟩ hJ trivial ms0_ok Tryz.func153 rfl rfl (Nat.le_of_ble_eq_true rfl) (Nat.le_of_ble_eq_true rfl) drOk153 ?_
 dsimp only [Tryz.f153, dr153, dd153, Option.getD_some]
 refine ev_start ?_
 simp (disch := omega) only [go_sem, evP_D, evD_guard, evD_cons, evD_zero, evD_nil]
 refine evQ_loop [0, 1, 7, 8] [] (fun σ => ∃ k : Nat, (k ≤ l.length ∧ ∀ i (h : i < l.length), i < k → p l[i] = false) ∧ σ = ⟨[(0, .row 2 (l.map acV)), (1, .fn g cs), (7, .int .i64 l.length), (8, .int .i64 k)], []⟩) (fun σ => l.length - (match Ev.look 8 σ.env with | some (.int _ n) => n.toNat | _ => 0)) ?_ ?_
 ·simp only [go_sem, evP_D, evD_guard, evD_cons, evD_zero, evD_nil]
  exact ⟨refsInL_data hd, 0, ⟨Nat.zero_le _, fun _ _ h => by omega⟩, rfl⟩
 ·rintro σ ⟨k, ⟨hk, hall⟩, rfl⟩
  by_cases hlt : k < l.length
  ·have hlt' : (k : Int) < l.length := by omega
   have hg : (l.map acV)[k]? = some (.agg [.str l[k].1, .int .i64 l[k].2]) := acV_get (c := l[k].1) (n := l[k].2) (List.getElem?_eq_getElem hlt)
   have hpk := hp l[k] (List.getElem_mem hlt)
   simp only [acV] at hpk
   cases hb : p l[k] with
   | true =>
    rw [hb] at hpk
    have hany : l.any p = true := List.any_eq_true.2 ⟨l[k], List.getElem_mem hlt, hb⟩
    have hidx : l.findIdx p = k := (List.findIdx_eq hlt).2 ⟨hb, fun j hj => hall j (by omega) hj⟩
    simp (disch := (first | omega | assumption)) only [hlt', idx_nat, List.length_map, hg, hpk, hd, V.dataL, V.data, hany, hidx, go_sem, evP_D, evD_guard, evD_cons, evD_zero, evD_nil]
   | false =>
    rw [hb] at hpk
    simp (disch := (first | omega | assumption)) only [hlt', idx_nat, List.length_map, hg, hpk, hd, refsInL_data hd, scrubL_data hd, V.dataL, V.data, go_sem, evP_D, evD_guard, evD_cons, evD_zero, evD_nil]
    exact ⟨⟨k + 1, ⟨hlt, fun i hi hik => by
     by_cases e : i = k
     ·subst e; exact hb
     ·exact hall i hi (by omega)⟩, rfl⟩, by show l.length - ((k : Int) + 1).toNat < l.length - (k : Int).toNat; omega⟩
  ·have hk' : k = l.length := by omega
   subst hk'
   have hlt' : ¬ ((l.length : Int) < l.length) := by omega
   have hany : l.any p = false := by
    rw [List.any_eq_false]
    intro x hx
    obtain ⟨i, hi, rfl⟩ := List.mem_iff_getElem.1 hx
    simp [hall i hi hi]
   simp (disch := (first | omega | assumption)) only [hlt', hany, go_sem, evP_D, evD_guard, evD_cons, evD_zero, evD_nil]
theorem containsL_sound {J : World → Prop} (hJ : Stable J) (g : FuncId) (cs : List V) (G : List V → Option (V × List Ev.Blk)) (hG : Snd Tryz.prog J g G) (hd : V.dataL cs = true) (p : ByteArray × Int → Bool) (l : List (ByteArray × Int)) (hp : ∀ n ∈ l, G (acV n :: cs) = some (.bool (p n), [])) :
  SoundAt Tryz.prog J 101 [.row 2 (l.map acV), .fn g cs] (.bool (l.any p)) [] := by
 have hS := indexL_sound hJ g cs G hG hd p l hp
 refine evFn (l := [(153, at1 [.row 2 (l.map acV), .fn g cs] (.int .i64 (if l.any p = true then ((l.findIdx p : Nat) : Int) else -1), []))]) (nv := nv0) (fz := fz0) (dr := dr101) (dd := dd101) (lam := []) (ms := ms0) ⟨at1_snd hS, trivial⟩ hJ trivial ms0_ok Tryz.func101 rfl rfl (Nat.le_of_ble_eq_true rfl) (Nat.le_of_ble_eq_true rfl) drOk101 ?_
 dsimp only [Tryz.f101, dr101, dd101, Option.getD_some]
 refine ev_start ?_
 cases hb : l.any p with
 | true =>
  have h1 : (0 : Int) ≤ ((l.findIdx p : Nat) : Int) := by omega
  simp (disch := omega) only [at1_eq, h1, hd, hb, V.dataL, V.data, go_sem, evP_D, evD_guard, evD_cons, evD_zero, evD_nil]
 | false =>
  have h2 : ¬ (0 ≤ (-1 : Int)) := by omega
  simp (disch := omega) only [at1_eq, h2, hd, hb, V.dataL, V.data, go_sem, evP_D, evD_guard, evD_cons, evD_zero, evD_nil]
def ln1F : List V → Option (V × List Ev.Blk)
 | [.agg [.str c, .int .i64 n], .rd (.agg [.str code, .int .i64 m]) 0] => some (.bool (isC code (c, n)), [])
 | _ => none
theorem ln1_snd {J : World → Prop} (hJ : Stable J) : Snd Tryz.prog J 152 ln1F := by
 intro args r bs h
 unfold ln1F at h
 split at h
 ·rename_i c n code m
  obtain ⟨rfl, rfl⟩ := some_pair h
  refine evFn (l := []) (nv := nv0) (fz := fz0) (dr := dr152) (dd := dd152) (lam := []) (ms := ms0) trivial hJ trivial ms0_ok Tryz.func152 rfl rfl (Nat.le_of_ble_eq_true rfl) (Nat.le_of_ble_eq_true rfl) drOk152 ?_
  dsimp only [Tryz.f152, dr152, dd152, Option.getD_some]
  refine ev_start ?_
  simp (disch := omega) only [bin_eql_str, isC, go_sem, evP_D, evD_guard, evD_cons, evD_zero, evD_nil]
 ·cases h
noncomputable def ctF : List V → Option (V × List Ev.Blk)
 | [.row 2 es, .fn f [.rd (.agg [.str code, .int .i64 m]) 0]] => if f = 152 then (unAc es).map fun l => (.bool (l.any (isC code)), []) else none
 | _ => none
theorem ctF_eq (l : List (ByteArray × Int)) (code : ByteArray) (m : Int) : ctF [.row 2 (l.map acV), .fn 152 [.rd (.agg [.str code, .int .i64 m]) 0]] = some (.bool (l.any (isC code)), []) := by simp only [ctF, unAc_map, Option.map_some, if_true]
theorem ct_snd {J : World → Prop} (hJ : Stable J) : Snd Tryz.prog J 101 ctF := by
 intro args r bs h
 unfold ctF at h
 split at h
 ·rename_i es f code m
  split at h
  ·rename_i hf
   subst hf
   simp only [Option.map_eq_some_iff] at h
   obtain ⟨l, hl, h⟩ := h
   obtain ⟨rfl, rfl⟩ := some_pair (congrArg some h)
   rw [unAc_eq hl]
   exact containsL_sound hJ _ _ ln1F (ln1_snd hJ) rfl (isC code) l fun _ _ => rfl
  ·cases h
 ·cases h
set_option maxHeartbeats 4000000 in
theorem lines_sound {J : World → Prop} (hJ : Stable J) (l : List (ByteArray × Int)) : SoundAt Tryz.prog J 96 [.row 2 (l.map acV)] (.int .i64 (lnChk l)) [] := by
 refine SoundAt.row 0 rfl (callOk Tryz.func96 rfl rfl) fun hlen => ?_
 simp only [maxLen, List.length_map] at hlen
 refine evFn (l := [(151, codeF), (119, moneyF), (101, ctF)]) (nv := nv0) (fz := fz0) (dr := dr96) (dd := dd96) (lam := []) (ms := ms0) ⟨code_snd hJ, spmoney_snd hJ, ct_snd hJ, trivial⟩ hJ trivial ms0_ok Tryz.func96 rfl rfl (Nat.le_of_ble_eq_true rfl) (Nat.le_of_ble_eq_true rfl) drOk96 ?_
 dsimp only [Tryz.f96, dr96, dd96, Option.getD_some]
 refine ev_start ?_
 by_cases h3 : 12 < l.length
 ·have h3' : (12 : Int) < l.length := by omega
  have e : lnChk l = 2 := by unfold lnChk; rw [if_pos h3]
  simp (disch := omega) only [h3', e, go_sem, evP_D, evD_guard, evD_cons, evD_zero, evD_nil]
 have h3' : ¬ (12 : Int) < l.length := by omega
 obtain ⟨R, hR⟩ : ∃ R, R = lnE [] l := ⟨_, rfl⟩
 have e : lnChk l = if R ≠ 0 then R else if l.length < 2 ∨ lnSum l l.length ≠ 0 then 7 else 0 := by unfold lnChk; rw [if_neg h3, hR]
 rw [e]
 simp (disch := omega) only [h3', go_sem, evP_D, evD_guard, evD_cons, evD_zero, evD_nil]
 refine evQ_loop [0, 3, 9, 10, 11] [] (fun σ => ∃ (k : Nat), (k ≤ l.length ∧ R = lnE (codesTo l k) (l.drop k) ∧ -(k * 1000000000000) ≤ lnSum l k ∧ lnSum l k ≤ k * 1000000000000) ∧ σ = ⟨[(0, .row 2 (l.map acV)), (3, .int .i64 (lnSum l k)), (9, .row 2 (l.map acV)), (10, .int .i64 l.length), (11, .int .i64 k)], []⟩)
  (fun σ => l.length - (match Ev.look 11 σ.env with | some (.int _ n) => n.toNat | _ => 0)) ?_ ?_
 ·simp only [go_sem, evP_D, evD_guard, evD_cons, evD_zero, evD_nil]
  exact ⟨0, ⟨Nat.zero_le _, hR, by simp [lnSum], by simp [lnSum]⟩, rfl⟩
 ·rintro σ ⟨k, ⟨hk, hall, hs1, hs2⟩, rfl⟩
  by_cases hlt : k < l.length
  ·have hlt' : (k : Int) < l.length := by omega
   obtain ⟨⟨c, n⟩, hcn⟩ : ∃ p, l[k]? = some p := ⟨_, List.getElem?_eq_getElem hlt⟩
   have hg := acV_get hcn
   have hsum := lnSum_succ hcn
   rw [lnE_drop hcn] at hall
   have hms : l.length - ((k : Int) + 1).toNat < l.length - (k : Int).toNat := by
    have e3 : ((k : Int) + 1).toNat = k + 1 := by omega
    rw [e3, Int.toNat_natCast]; exact Nat.sub_lt_sub_left hlt (Nat.lt_succ_self k)
   have fin : ∀ x : Int, x ≠ 0 → R = x → (if R ≠ 0 then R else if l.length < 2 ∨ lnSum l l.length ≠ 0 then 7 else 0) = x := fun x hx hr => by rw [hr, if_pos hx]
   cases hc : codeOk c with
   | false =>
    have hv := fin 3 (by omega) (by rw [hall, if_pos hc])
    rw [hv]
    simp (disch := (first | omega | assumption)) only [hlt', idx_nat, List.length_map, hg, codeF_eq, hc, go_sem, evP_D, evD_guard, evD_cons, evD_zero, evD_nil]
   | true =>
    rw [if_neg (by rw [hc]; simp)] at hall
    by_cases hn : -1000000000000 ≤ n ∧ n ≤ 1000000000000
    ·have hn' : (decide (-1000000000000 ≤ n ∧ n ≤ 1000000000000)) = true := decide_eq_true hn
     by_cases hz : n = 0
     ·have hv := fin 1 (by omega) (by rw [hall, if_pos (fun h => h.2 hz)])
      rw [hv]
      simp (disch := (first | omega | assumption)) only [hlt', idx_nat, List.length_map, hg, codeF_eq, moneyF_eq, hc, hn', hz, go_sem, evP_D, evD_guard, evD_cons, evD_zero, evD_nil]
     ·rw [if_neg (fun h => h ⟨hn, hz⟩)] at hall
      have hcont := codes_any l k c
      have hmap : (l.map acV).take k = (l.take k).map acV := List.map_take.symm
      have hct := ctF_eq (l.take k) c n
      rw [← hmap] at hct
      have hk0 : 0 ≤ (k : Int) ∧ (k : Int) ≤ l.length := by omega
      cases hcs : hasC c (codesTo l k) with
      | true =>
       rw [hcs] at hcont
       rw [hcont] at hct
       have hv := fin 5 (by omega) (by rw [hall, if_pos hcs])
       rw [hv]
       simp (disch := (first | omega | assumption)) only [hlt', idx_nat, List.length_map, hg, codeF_eq, moneyF_eq, hc, hn', hz, hk0, hct, and_self, Int.toNat_natCast, List.mapM_cons, List.mapM_nil, Option.bind_eq_bind, Option.pure_def, Option.bind_some, go_sem, evP_D, evD_guard, evD_cons, evD_zero, evD_nil]
      | false =>
       rw [hcs] at hcont
       rw [hcont] at hct
       rw [if_neg (by rw [hcs]; simp)] at hall
       simp (disch := (first | omega | assumption)) only [hlt', idx_nat, List.length_map, hg, codeF_eq, moneyF_eq, hc, hn', hz, hk0, hct, and_self, Int.toNat_natCast, List.mapM_cons, List.mapM_nil, Option.bind_eq_bind, Option.pure_def, Option.bind_some, go_sem, evP_D, evD_guard, evD_cons, evD_zero, evD_nil]
       exact ⟨⟨k + 1, ⟨hlt, hall, by rw [hsum]; omega, by rw [hsum]; omega⟩, by rw [hsum]; rfl⟩, hms⟩
    ·have hn' : (decide (-1000000000000 ≤ n ∧ n ≤ 1000000000000)) = false := decide_eq_false hn
     have hv := fin 1 (by omega) (by rw [hall, if_pos (fun h => hn h.1)])
     rw [hv]
     simp (disch := (first | omega | assumption)) only [hlt', idx_nat, List.length_map, hg, codeF_eq, moneyF_eq, hc, hn', go_sem, evP_D, evD_guard, evD_cons, evD_zero, evD_nil]
  ·have hk' : k = l.length := by omega
   subst hk'
   have hlt' : ¬ ((l.length : Int) < l.length) := by omega
   have e0 : R = 0 := by rw [hall, List.drop_length]; rfl
   rw [e0, if_neg (by simp)]
   by_cases h2 : l.length < 2
   ·have h2' : (l.length : Int) < 2 := by omega
    simp (disch := (first | omega | assumption)) only [hlt', h2, h2', true_or, go_sem, evP_D, evD_guard, evD_cons, evD_zero, evD_nil]
   ·have h2' : ¬ (l.length : Int) < 2 := by omega
    by_cases hz : lnSum l l.length = 0
    ·simp (disch := (first | omega | assumption)) only [hlt', h2, h2', hz, ne_eq, not_true, or_self, go_sem, evP_D, evD_guard, evD_cons, evD_zero, evD_nil]
    ·simp (disch := (first | omega | assumption)) only [hlt', h2, h2', hz, ne_eq, not_false_eq_true, or_true, go_sem, evP_D, evD_guard, evD_cons, evD_zero, evD_nil]
end Go.Proofs.YtcmpjagpggjfiaaGreatDoor
end
section
namespace Go.Proofs.YtcmpjagpggjfiaaGreatDoor
open Go Go.Ev Go.RowKit Go.Acc
set_option maxHeartbeats 4000000
def rowAc : V → Option (List (ByteArray × Int))
 | .row 2 es => unAc es
 | .zero => some []
 | _ => none
theorem rowAc_row (l : List (ByteArray × Int)) : rowAc (.row 2 (l.map acV)) = some l := unAc_map l
theorem rowAc_rel {L : V} {l : List (ByteArray × Int)} (h : rowAc L = some l) {w : World} {ok : Nat → Prop} {val : Value} (hv : RelD w ok L val) : RelD w ok (.row 2 (l.map acV)) val := by
 unfold rowAc at h
 split at h
 ·rw [← unAc_eq h]; exact hv
 ·simp only [Option.some.injEq] at h
  subst h
  cases hv
  exact .nil _ _
 ·cases h
def enV (key : ByteArray) (day : Int) (L : V) : V := .agg [.str key, .int .i64 day, L]
theorem enV_rel {key : ByteArray} {day : Int} {L : V} {l : List (ByteArray × Int)} (h : rowAc L = some l) {w : World} {ok : Nat → Prop} {val : Value} (hv : RelD w ok (enV key day L) val) : RelD w ok (enV key day (.row 2 (l.map acV))) val := by
 cases hv with
 | agg cs vs hl h1 hh =>
  refine .agg _ vs (by simpa using hl) h1 fun j c v hc hv => ?_
  match j with
  | 0 => exact hh 0 c v hc hv
  | 1 => exact hh 1 c v hc hv
  | 2 => simp at hc; subst hc; exact rowAc_rel h (hh 2 L v rfl hv)
  | j + 3 => simp at hc
theorem sound_by {P : Program} {J : World → Prop} {f : FuncId} {args args' : List V} {r : V} {bs : List Ev.Blk} (h : SoundAt P J f args' r bs) (hl : args.length = args'.length)
  (hr : ∀ (w : World) (ok : Nat → Prop) (j : Nat) c v, args[j]? = some c → RelD w ok c v → ∃ c', args'[j]? = some c' ∧ RelD w ok c' v) : SoundAt P J f args r bs := by
 refine ⟨h.1, fun w ok us hJ hok hlen hrel => h.2 w ok us hJ hok (by omega) fun j c v hc hv => ?_⟩
 have hlt : j < args.length := by have := (List.getElem?_eq_some_iff.1 hc).1; omega
 have hc0 : args[j]? = some args[j] := List.getElem?_eq_getElem hlt
 obtain ⟨c', hc', h'⟩ := hr w ok j _ v hc0 (hrel j _ v hc0 hv)
 rw [hc] at hc'
 cases hc'
 exact h'
def linesF : List V → Option (V × List Ev.Blk)
 | [L] => (rowAc L).map fun l => (.int .i64 (lnChk l), [])
 | _ => none
theorem lines_snd {J : World → Prop} (hJ : Stable J) : Snd Tryz.prog J 96 linesF := by
 intro args r bs h
 unfold linesF at h
 split at h
 ·rename_i L
  simp only [Option.map_eq_some_iff] at h
  obtain ⟨l, hl, h⟩ := h
  obtain ⟨rfl, rfl⟩ := some_pair (congrArg some h)
  exact sound_by (lines_sound hJ l) rfl fun w ok j c v hc hv => by
   match j with
   | 0 => simp at hc; subst hc; exact ⟨_, rfl, rowAc_rel hl hv⟩
   | j + 1 => simp at hc
 ·cases h
theorem echeck_sound {J : World → Prop} (hJ : Stable J) (key : ByteArray) (day : Int) (l : List (ByteArray × Int)) : SoundAt Tryz.prog J 27 [enV key day (.row 2 (l.map acV))] (.int .i64 (enE key day l)) [] := by
 have hL : linesF [.row 2 (l.map acV)] = some (.int .i64 (lnChk l), []) := by simp only [linesF, rowAc_row, Option.map_some]
 unfold enV
 refine evFn (l := [(95, keyF), (38, dayF), (96, linesF)]) (nv := nv0) (fz := fz0) (dr := dr27) (dd := dd27) (lam := []) (ms := ms0) ⟨key_snd hJ, is_snd hJ, lines_snd hJ, trivial⟩ hJ trivial ms0_ok Tryz.func27 rfl rfl (Nat.le_of_ble_eq_true rfl) (Nat.le_of_ble_eq_true rfl) drOk27 ?_
 dsimp only [Tryz.f27, dr27, dd27, Option.getD_some]
 refine ev_start ?_
 cases hk : keyOk' key with
 | false =>
  have e : enE key day l = 3 := by unfold enE; rw [if_pos hk]
  simp (disch := omega) only [keyF_eq, hk, e, go_sem, evP_D, evD_guard, evD_cons, evD_zero, evD_nil]
 | true =>
  by_cases hd : 0 ≤ day ∧ day ≤ 292193
  ·have hd' : (decide (0 ≤ day ∧ day ≤ 292193)) = true := decide_eq_true hd
   have e : enE key day l = lnChk l := by unfold enE; rw [if_neg (by rw [hk]; simp), if_neg (fun h => h hd)]
   simp (disch := omega) only [keyF_eq, dayF_eq, hL, hk, hd', e, go_sem, evP_D, evD_guard, evD_cons, evD_zero, evD_nil]
  ·have hd' : (decide (0 ≤ day ∧ day ≤ 292193)) = false := decide_eq_false hd
   have e : enE key day l = 1 := by unfold enE; rw [if_neg (by rw [hk]; simp), if_pos hd]
   simp (disch := omega) only [keyF_eq, dayF_eq, hk, hd', e, go_sem, evP_D, evD_guard, evD_cons, evD_zero, evD_nil]
def echeckF : List V → Option (V × List Ev.Blk)
 | [.agg [.str key, .int .i64 day, L]] => (rowAc L).map fun l => (.int .i64 (enE key day l), [])
 | _ => none
theorem echeckF_eq (key : ByteArray) (day : Int) (l : List (ByteArray × Int)) : echeckF [.agg [.str key, .int .i64 day, .row 2 (l.map acV)]] = some (.int .i64 (enE key day l), []) := by simp only [echeckF, rowAc_row, Option.map_some]
theorem echeck_snd {J : World → Prop} (hJ : Stable J) : Snd Tryz.prog J 27 echeckF := by
 intro args r bs h
 unfold echeckF at h
 split at h
 ·rename_i key day L
  simp only [Option.map_eq_some_iff] at h
  obtain ⟨l, hl, h⟩ := h
  obtain ⟨rfl, rfl⟩ := some_pair (congrArg some h)
  exact sound_by (echeck_sound hJ key day l) rfl fun w ok j c v hc hv => by
   match j with
   | 0 => simp at hc; subst hc; exact ⟨_, rfl, enV_rel hl hv⟩
   | j + 1 => simp at hc
 ·cases h
def setV (cs : List ByteArray) : List (V × V) := cs.map fun c => (.str c, .bool true)
theorem eqK_strs (x y : ByteArray) : eqK .str (.str x) (.str y) = some (decide (x = y)) := by
 rw [← str_eq]; rfl
theorem find_set (c : ByteArray) : ∀ cs : List ByteArray, findK .str (.str c) (setV cs) = some (if hasC c cs = true then some (.bool true) else none)
 | [] => rfl
 | x :: cs => by
  show (match eqK .str (.str c) (.str x) with | some true => _ | some false => _ | none => _) = _
  rw [eqK_strs]
  by_cases h : c = x
  ·subst h; simp [hasC]
  ·have h' : ¬ x = c := fun e => h e.symm
   simp only [decide_eq_false h]
   show findK .str (.str c) (setV cs) = _
   rw [find_set c cs]
   simp only [hasC, List.any_cons, decide_eq_false h', Bool.false_or]
   first | rfl | (split <;> rfl)
theorem upd_set (c : ByteArray) : ∀ cs : List ByteArray, hasC c cs = false → updK .str (.str c) (.bool true) (setV cs) = some (setV (cs ++ [c]))
 | [], _ => rfl
 | x :: cs, h => by
  have hx : ¬ x = c := fun e => by simp [hasC, e] at h
  have hr : hasC c cs = false := by
   simp only [hasC, List.any_cons, Bool.or_eq_false_iff] at h
   exact h.2
  show (match eqK .str (.str c) (.str x) with | some true => _ | some false => _ | none => _) = _
  rw [eqK_strs, decide_eq_false (fun e => hx e.symm)]
  show (updK .str (.str c) (.bool true) (setV cs)).map _ = _
  rw [upd_set c cs hr]
  rfl
end Go.Proofs.YtcmpjagpggjfiaaGreatDoor
end
section
namespace Go.Proofs.YtcmpjagpggjfiaaGreatDoor
open Go Go.Ev Go.RowKit Go.Acc
set_option maxHeartbeats 4000000
def turnL (l : List (ByteArray × Int)) : List (ByteArray × Int) := l.map fun p => (p.1, 0 - p.2)
def ozV : V := .agg [.str ByteArray.empty, .int .i64 0, .zero]
def eqLF : List V → Option (V × List Ev.Blk)
 | [x, y] => match rowAc x, rowAc y with
  | some xs, some ys => some (.bool (decide (xs = ys)), [])
  | _, _ => none
 | _ => none
theorem eqL_sound {J : World → Prop} (hJ : Stable J) (xs ys : List (ByteArray × Int)) : SoundAt Tryz.prog J 99 [.row 2 (xs.map acV), .row 2 (ys.map acV)] (.bool (decide (xs = ys))) [] := by
 refine SoundAt.row 0 rfl (callOk Tryz.func99 rfl rfl) fun hx => ?_
 simp only [maxLen, List.length_map] at hx
 refine SoundAt.row 1 rfl (callOk Tryz.func99 rfl rfl) fun hy => ?_
 simp only [maxLen, List.length_map] at hy
 refine evFn (l := []) (nv := nv0) (fz := fz0) (dr := dr99) (dd := dd99) (lam := []) (ms := ms0) trivial hJ trivial ms0_ok Tryz.func99 rfl rfl (Nat.le_of_ble_eq_true rfl) (Nat.le_of_ble_eq_true rfl) drOk99 ?_
 dsimp only [Tryz.f99, dr99, dd99, Option.getD_some]
 refine ev_start ?_
 by_cases hl : xs.length = ys.length
 ·have hl' : (xs.length : Int) = ys.length := by omega
  simp (disch := omega) only [hl', go_sem, evP_D, evD_guard, evD_cons, evD_zero, evD_nil]
  refine evQ_loop [0, 1, 12, 13] [] (fun σ => ∃ k : Nat, (k ≤ xs.length ∧ ∀ i, i < k → xs[i]? = ys[i]?) ∧ σ = ⟨[(0, .row 2 (xs.map acV)), (1, .row 2 (ys.map acV)), (12, .int .i64 ys.length), (13, .int .i64 k)], []⟩) (fun σ => xs.length - (match Ev.look 13 σ.env with | some (.int _ n) => n.toNat | _ => 0)) ?_ ?_
  ·simp only [go_sem, evP_D, evD_guard, evD_cons, evD_zero, evD_nil]
   exact ⟨0, ⟨Nat.zero_le _, fun _ h => by omega⟩, rfl⟩
  ·rintro σ ⟨k, ⟨hk, hall⟩, rfl⟩
   by_cases hlt : k < xs.length
   ·have hlt' : (k : Int) < ys.length := by omega
    have hk1 : k < ys.length := by omega
    obtain ⟨⟨c, n⟩, hcn⟩ : ∃ p, xs[k]? = some p := ⟨_, List.getElem?_eq_getElem hlt⟩
    obtain ⟨⟨c', n'⟩, hcn'⟩ : ∃ p, ys[k]? = some p := ⟨_, List.getElem?_eq_getElem hk1⟩
    have g1 := acV_get hcn
    have g2 := acV_get hcn'
    have hne : ¬ (c = c' ∧ n = n') → decide (xs = ys) = false := fun h => decide_eq_false fun e => h (by
     subst e
     rw [hcn] at hcn'
     cases hcn'
     exact ⟨rfl, rfl⟩)
    by_cases hc : c = c'
    ·by_cases hn : n = n'
     ·subst hc
      subst hn
      simp (disch := (first | omega | assumption)) only [hlt', idx_nat, List.length_map, g1, g2, str_eq, decide_true, go_sem, evP_D, evD_guard, evD_cons, evD_zero, evD_nil]
      exact ⟨⟨k + 1, ⟨hlt, fun i hi => by
       by_cases e : i = k
       ·subst e; rw [hcn, hcn']
       ·exact hall i (by omega)⟩, rfl⟩, by
       have e3 : ((k : Int) + 1).toNat = k + 1 := by omega
       rw [e3, Int.toNat_natCast]; exact Nat.sub_lt_sub_left hlt (Nat.lt_succ_self k)⟩
     ·have hne' := hne fun h => hn h.2
      subst hc
      simp (disch := (first | omega | assumption)) only [hlt', idx_nat, List.length_map, g1, g2, str_eq, hn, hne', decide_true, go_sem, evP_D, evD_guard, evD_cons, evD_zero, evD_nil]
    ·have hne' := hne fun h => hc h.1
     simp (disch := (first | omega | assumption)) only [hlt', idx_nat, List.length_map, g1, g2, str_eq, hc, hne', go_sem, evP_D, evD_guard, evD_cons, evD_zero, evD_nil]
   ·have hlt' : ¬ ((k : Int) < ys.length) := by omega
    have heq : xs = ys := List.ext_getElem? fun i => by
     by_cases hi : i < k
     ·exact hall i hi
     ·rw [List.getElem?_eq_none (by omega), List.getElem?_eq_none (by omega)]
    have : decide (xs = ys) = true := decide_eq_true heq
    simp (disch := (first | omega | assumption)) only [hlt', this, go_sem, evP_D, evD_guard, evD_cons, evD_zero, evD_nil]
 ·have hl' : ¬ (xs.length : Int) = ys.length := by omega
  have hne : decide (xs = ys) = false := decide_eq_false fun h => hl (by rw [h])
  simp (disch := omega) only [hl', hne, go_sem, evP_D, evD_guard, evD_cons, evD_zero, evD_nil]
theorem eqL_snd {J : World → Prop} (hJ : Stable J) : Snd Tryz.prog J 99 eqLF := by
 intro args r bs h
 unfold eqLF at h
 split at h
 ·rename_i x y
  split at h
  ·rename_i xs ys hx hy
   obtain ⟨rfl, rfl⟩ := some_pair h
   exact sound_by (eqL_sound hJ xs ys) rfl fun w ok j c v hc hv => by
    match j with
    | 0 => simp at hc; subst hc; exact ⟨_, rfl, rowAc_rel hx hv⟩
    | 1 => simp at hc; subst hc; exact ⟨_, rfl, rowAc_rel hy hv⟩
    | j + 2 => simp at hc
  ·cases h
 ·cases h
theorem eqLF_rows (xs ys : List (ByteArray × Int)) : eqLF [.row 2 (xs.map acV), .row 2 (ys.map acV)] = some (.bool (decide (xs = ys)), []) := by simp only [eqLF, rowAc_row]
theorem turned_bad {J : World → Prop} (hJ : Stable J) (key : ByteArray) (day : Int) (l : List (ByteArray × Int)) (k : ByteArray) (d : Int) (e : Int) (he : (if enE key day l = 0 then (if keyOk' k = false then 3 else if ¬ (0 ≤ d ∧ d ≤ 292193) then 1 else 0) else enE key day l) = e) (h0 : e ≠ 0) :
  SoundAt Tryz.prog J 138 [enV key day (.row 2 (l.map acV)), .str k, .int .i64 d] (.tup [ozV, .int .i64 e]) [] := by
 unfold enV ozV
 refine evFn (l := [(27, echeckF), (95, keyF), (38, dayF)]) (nv := nv0) (fz := fz0) (dr := dr138) (dd := dd138) (lam := []) (ms := ms0) ⟨echeck_snd hJ, key_snd hJ, is_snd hJ, trivial⟩ hJ trivial ms0_ok Tryz.func138 rfl rfl (Nat.le_of_ble_eq_true rfl) (Nat.le_of_ble_eq_true rfl) drOk138 ?_
 dsimp only [Tryz.f138, dr138, dd138, Option.getD_some]
 refine ev_start ?_
 by_cases hz : enE key day l = 0
 ·rw [if_pos hz] at he
  cases hk : keyOk' k with
  | false =>
   rw [if_pos hk] at he
   subst he
   simp (disch := omega) only [echeckF_eq, keyF_eq, hz, hk, go_sem, evP_D, evD_guard, evD_cons, evD_zero, evD_nil]
  | true =>
   rw [if_neg (by rw [hk]; simp)] at he
   by_cases hd : 0 ≤ d ∧ d ≤ 292193
   ·rw [if_neg (fun h => h hd)] at he; exact absurd he.symm h0
   ·rw [if_pos hd] at he
    subst he
    have hd' : (decide (0 ≤ d ∧ d ≤ 292193)) = false := decide_eq_false hd
    simp (disch := omega) only [echeckF_eq, keyF_eq, dayF_eq, hz, hk, hd', go_sem, evP_D, evD_guard, evD_cons, evD_zero, evD_nil]
 ·rw [if_neg hz] at he
  subst he
  simp (disch := omega) only [echeckF_eq, hz, go_sem, evP_D, evD_guard, evD_cons, evD_zero, evD_nil]
end Go.Proofs.YtcmpjagpggjfiaaGreatDoor
end
