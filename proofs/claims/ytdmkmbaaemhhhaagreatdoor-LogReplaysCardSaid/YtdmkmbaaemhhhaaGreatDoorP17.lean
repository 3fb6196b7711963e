/-
  Steps of the proof of LogReplays: EnG EnH EnI.
-/
import Derived.Test.YtdmkmbaaemhhhaaGreatDoorP16
set_option linter.unusedVariables false
set_option linter.unusedSimpArgs false
section
namespace Go.Proofs.YtdmkmbaaemhhhaaGreatDoor
open Go Go.Ev Go.RowKit Go.Acc
set_option maxHeartbeats 4000000
def rowAc : V → Option (List (ByteArray × Int))
 | .row 2 es => unAc es
 | .zero => some []
 | _ => none
theorem rowAc_row (l : List (ByteArray × Int)) : rowAc (.row 2 (l.map acV)) = some l := unAc_map l
theorem rowAc_rel {L : V} {l : List (ByteArray × Int)} (h : rowAc L = some l) {w : World} {ok : Nat → Prop} {val : Value} (hv : RelD w ok L val) : RelD w ok (.row 2 (l.map acV)) val := by
 unfold rowAc at h
 split at h
 ·rw [← unAc_eq h]; exact hv
 ·simp only [Option.some.injEq] at h
  subst h
  cases hv
  exact .nil _ _
 ·cases h
def enV (key : ByteArray) (day : Int) (L : V) : V := .agg [.str key, .int .i64 day, L]
theorem enV_rel {key : ByteArray} {day : Int} {L : V} {l : List (ByteArray × Int)} (h : rowAc L = some l) {w : World} {ok : Nat → Prop} {val : Value} (hv : RelD w ok (enV key day L) val) : RelD w ok (enV key day (.row 2 (l.map acV))) val := by
 cases hv with
 | agg cs vs hl h1 hh =>
  refine .agg _ vs (by simpa using hl) h1 fun j c v hc hv => ?_
  match j with
  | 0 => exact hh 0 c v hc hv
  | 1 => exact hh 1 c v hc hv
  | 2 => simp at hc; subst hc; exact rowAc_rel h (hh 2 L v rfl hv)
  | j + 3 => simp at hc
theorem sound_by {P : Program} {J : World → Prop} {f : FuncId} {args args' : List V} {r : V} {bs : List Ev.Blk} (h : SoundAt P J f args' r bs) (hl : args.length = args'.length)
  (hr : ∀ (w : World) (ok : Nat → Prop) (j : Nat) c v, args[j]? = some c → RelD w ok c v → ∃ c', args'[j]? = some c' ∧ RelD w ok c' v) : SoundAt P J f args r bs := by
 refine ⟨h.1, fun w ok us hJ hok hlen hrel => h.2 w ok us hJ hok (by omega) fun j c v hc hv => ?_⟩
 have hlt : j < args.length := by have := (List.getElem?_eq_some_iff.1 hc).1; omega
 have hc0 : args[j]? = some args[j] := List.getElem?_eq_getElem hlt
 obtain ⟨c', hc', h'⟩ := hr w ok j _ v hc0 (hrel j _ v hc0 hv)
 rw [hc] at hc'
 cases hc'
 exact h'
def linesF : List V → Option (V × List Ev.Blk)
 | [L] => (rowAc L).map fun l => (.int .i64 (lnChk l), [])
 | _ => none
theorem lines_snd {J : World → Prop} (hJ : Stable J) : Snd Tryz.prog J 75 linesF := by
 intro args r bs h
 unfold linesF at h
 split at h
 ·rename_i L
  simp only [Option.map_eq_some_iff] at h
  obtain ⟨l, hl, h⟩ := h
  obtain ⟨rfl, rfl⟩ := some_pair (congrArg some h)
  exact sound_by (lines_sound hJ l) rfl fun w ok j c v hc hv => by
   match j with
   | 0 => simp at hc; subst hc; exact ⟨_, rfl, rowAc_rel hl hv⟩
   | j + 1 => simp at hc
 ·cases h
theorem echeck_sound {J : World → Prop} (hJ : Stable J) (key : ByteArray) (day : Int) (l : List (ByteArray × Int)) : SoundAt Tryz.prog J 29 [enV key day (.row 2 (l.map acV))] (.int .i64 (enE key day l)) [] := by
 have hL : linesF [.row 2 (l.map acV)] = some (.int .i64 (lnChk l), []) := by simp only [linesF, rowAc_row, Option.map_some]
 unfold enV
 refine evFn (l := [(74, keyF), (47, dayF), (75, linesF)]) (nv := nv0) (fz := fz0) (dr := dr29) (dd := dd29) (lam := []) (ms := ms0) ⟨key_snd hJ, is_snd hJ, lines_snd hJ, trivial⟩ hJ trivial ms0_ok Tryz.func29 rfl rfl (Nat.le_of_ble_eq_true rfl) (Nat.le_of_ble_eq_true rfl) drOk29 ?_
 dsimp only [Tryz.f29, dr29, dd29, Option.getD_some]
 refine ev_start ?_
 cases hk : keyOk' key with
 | false =>
  have e : enE key day l = 3 := by unfold enE; rw [if_pos hk]
  simp (disch := omega) only [keyF_eq, hk, e, go_sem, evP_D, evD_guard, evD_cons, evD_zero, evD_nil]
 | true =>
  by_cases hd : 0 ≤ day ∧ day ≤ 292193
  ·have hd' : (decide (0 ≤ day ∧ day ≤ 292193)) = true := decide_eq_true hd
   have e : enE key day l = lnChk l := by unfold enE; rw [if_neg (by rw [hk]; simp), if_neg (fun h => h hd)]
   simp (disch := omega) only [keyF_eq, dayF_eq, hL, hk, hd', e, go_sem, evP_D, evD_guard, evD_cons, evD_zero, evD_nil]
  ·have hd' : (decide (0 ≤ day ∧ day ≤ 292193)) = false := decide_eq_false hd
   have e : enE key day l = 1 := by unfold enE; rw [if_neg (by rw [hk]; simp), if_pos hd]
   simp (disch := omega) only [keyF_eq, dayF_eq, hk, hd', e, go_sem, evP_D, evD_guard, evD_cons, evD_zero, evD_nil]
def echeckF : List V → Option (V × List Ev.Blk)
 | [.agg [.str key, .int .i64 day, L]] => (rowAc L).map fun l => (.int .i64 (enE key day l), [])
 | _ => none
theorem echeckF_eq (key : ByteArray) (day : Int) (l : List (ByteArray × Int)) : echeckF [.agg [.str key, .int .i64 day, .row 2 (l.map acV)]] = some (.int .i64 (enE key day l), []) := by simp only [echeckF, rowAc_row, Option.map_some]
theorem echeck_snd {J : World → Prop} (hJ : Stable J) : Snd Tryz.prog J 29 echeckF := by
 intro args r bs h
 unfold echeckF at h
 split at h
 ·rename_i key day L
  simp only [Option.map_eq_some_iff] at h
  obtain ⟨l, hl, h⟩ := h
  obtain ⟨rfl, rfl⟩ := some_pair (congrArg some h)
  exact sound_by (echeck_sound hJ key day l) rfl fun w ok j c v hc hv => by
   match j with
   | 0 => simp at hc; subst hc; exact ⟨_, rfl, enV_rel hl hv⟩
   | j + 1 => simp at hc
 ·cases h
def setV (cs : List ByteArray) : List (V × V) := cs.map fun c => (.str c, .bool true)
theorem eqK_strs (x y : ByteArray) : eqK .str (.str x) (.str y) = some (decide (x = y)) := by
 rw [← str_eq]; rfl
theorem find_set (c : ByteArray) : ∀ cs : List ByteArray, findK .str (.str c) (setV cs) = some (if hasC c cs = true then some (.bool true) else none)
 | [] => rfl
 | x :: cs => by
  show (match eqK .str (.str c) (.str x) with | some true => _ | some false => _ | none => _) = _
  rw [eqK_strs]
  by_cases h : c = x
  ·subst h; simp [hasC]
  ·have h' : ¬ x = c := fun e => h e.symm
   simp only [decide_eq_false h]
   show findK .str (.str c) (setV cs) = _
   rw [find_set c cs]
   simp only [hasC, List.any_cons, decide_eq_false h', Bool.false_or]
   first | rfl | (split <;> rfl)
theorem upd_set (c : ByteArray) : ∀ cs : List ByteArray, hasC c cs = false → updK .str (.str c) (.bool true) (setV cs) = some (setV (cs ++ [c]))
 | [], _ => rfl
 | x :: cs, h => by
  have hx : ¬ x = c := fun e => by simp [hasC, e] at h
  have hr : hasC c cs = false := by
   simp only [hasC, List.any_cons, Bool.or_eq_false_iff] at h
   exact h.2
  show (match eqK .str (.str c) (.str x) with | some true => _ | some false => _ | none => _) = _
  rw [eqK_strs, decide_eq_false (fun e => hx e.symm)]
  show (updK .str (.str c) (.bool true) (setV cs)).map _ = _
  rw [upd_set c cs hr]
  rfl
theorem setV_len (cs : List ByteArray) : (setV cs).length = cs.length := by simp [setV]
set_option maxHeartbeats 4000000 in
theorem rentry_sound {J : World → Prop} (hJ : Stable J) (key : ByteArray) (day : Int) (l : List (ByteArray × Int)) (hsz : key.size ≤ maxLen) (hll : l.length ≤ maxLen) : SoundAt Tryz.prog J 21 [enV key day (.row 2 (l.map acV))] (.int .i64 (enE key day l)) [] := by
 have hlen : (l.length : Int) ≤ 9223372036854775807 := by unfold maxLen at hll; omega
 unfold enV
 refine evFn (l := [(57, at1 [.str key] (.bool (keyOk' key), [])), (39, dayF), (58, codeF), (59, moneyF)]) (nv := nv0) (fz := fz0) (dr := dr21) (dd := dd21) (lam := []) (ms := ms0) ⟨at1_snd (rkey_sound hJ key hsz), day_snd hJ, rcode_snd hJ, money_snd hJ, trivial⟩ hJ trivial ms0_ok Tryz.func21 rfl rfl (Nat.le_of_ble_eq_true rfl) (Nat.le_of_ble_eq_true rfl) drOk21 ?_
 dsimp only [Tryz.f21, dr21, dd21, Option.getD_some]
 refine ev_start ?_
 cases hk : keyOk' key with
 | false =>
  have e : enE key day l = 3 := by unfold enE; rw [if_pos hk]
  simp (disch := omega) only [at1_eq, hk, e, go_sem, evP_D, evD_guard, evD_cons, evD_zero, evD_nil]
 | true =>
 by_cases hd : 0 ≤ day ∧ day ≤ 292193
 case neg =>
  have hd' : (decide (0 ≤ day ∧ day ≤ 292193)) = false := decide_eq_false hd
  have e : enE key day l = 1 := by unfold enE; rw [if_neg (by rw [hk]; simp), if_pos hd]
  simp (disch := omega) only [at1_eq, dayF_eq, hk, hd', e, go_sem, evP_D, evD_guard, evD_cons, evD_zero, evD_nil]
 have hd' : (decide (0 ≤ day ∧ day ≤ 292193)) = true := decide_eq_true hd
 have e1 : enE key day l = lnChk l := by unfold enE; rw [if_neg (by rw [hk]; simp), if_neg (fun h => h hd)]
 rw [e1]
 by_cases h3 : 12 < l.length
 ·have h3' : (12 : Int) < l.length := by omega
  have e : lnChk l = 2 := by unfold lnChk; rw [if_pos h3]
  simp (disch := omega) only [at1_eq, dayF_eq, hk, hd', h3', e, go_sem, evP_D, evD_guard, evD_cons, evD_zero, evD_nil]
 have h3' : ¬ (12 : Int) < l.length := by omega
 obtain ⟨R, hR⟩ : ∃ R, R = lnE [] l := ⟨_, rfl⟩
 have e : lnChk l = if R ≠ 0 then R else if l.length < 2 ∨ lnSum l l.length ≠ 0 then 7 else 0 := by unfold lnChk; rw [if_neg h3, hR]
 rw [e]
 simp (disch := omega) only [at1_eq, dayF_eq, hk, hd', h3', go_sem, evP_D, evD_guard, evD_cons, evD_zero, evD_nil]
 refine evQ_loop [3, 4, 21, 22, 23] [152] (fun σ => ∃ (k : Nat), (k ≤ l.length ∧ R = lnE (codesTo l k) (l.drop k) ∧ -(k * 1000000000000) ≤ lnSum l k ∧ lnSum l k ≤ k * 1000000000000) ∧ σ = ⟨[(3, .vec 152), (4, .int .i64 (lnSum l k)), (21, .row 2 (l.map acV)), (22, .int .i64 l.length), (23, .int .i64 k)], [(152, .map (setV (codesTo l k)))]⟩)
  (fun σ => l.length - (match Ev.look 23 σ.env with | some (.int _ n) => n.toNat | _ => 0)) ?_ ?_
 ·simp only [go_sem, evP_D, evD_guard, evD_cons, evD_zero, evD_nil]
  exact ⟨0, ⟨Nat.zero_le _, hR, by simp [lnSum], by simp [lnSum]⟩, rfl⟩
 ·rintro σ ⟨k, ⟨hkl, hall, hs1, hs2⟩, rfl⟩
  by_cases hlt : k < l.length
  ·have hlt' : (k : Int) < l.length := by omega
   obtain ⟨⟨c, n⟩, hcn⟩ : ∃ p, l[k]? = some p := ⟨_, List.getElem?_eq_getElem hlt⟩
   have hg := acV_get hcn
   have hsum := lnSum_succ hcn
   have hcs1 := codes_succ hcn
   rw [lnE_drop hcn] at hall
   have hms : l.length - ((k : Int) + 1).toNat < l.length - (k : Int).toNat := by
    have e3 : ((k : Int) + 1).toNat = k + 1 := by omega
    rw [e3, Int.toNat_natCast]; exact Nat.sub_lt_sub_left hlt (Nat.lt_succ_self k)
   have fin : ∀ x : Int, x ≠ 0 → R = x → (if R ≠ 0 then R else if l.length < 2 ∨ lnSum l l.length ≠ 0 then 7 else 0) = x := fun x hx hr => by rw [hr, if_pos hx]
   cases hc : codeOk c with
   | false =>
    have hv := fin 3 (by omega) (by rw [hall, if_pos hc])
    rw [hv]
    simp (disch := (first | omega | assumption)) only [hlt', idx_nat, List.length_map, hg, codeF_eq, hc, go_sem, evP_D, evD_guard, evD_cons, evD_zero, evD_nil]
   | true =>
    rw [if_neg (by rw [hc]; simp)] at hall
    by_cases hn : -1000000000000 ≤ n ∧ n ≤ 1000000000000
    ·have hn' : (decide (-1000000000000 ≤ n ∧ n ≤ 1000000000000)) = true := decide_eq_true hn
     by_cases hz : n = 0
     ·have hv := fin 1 (by omega) (by rw [hall, if_pos (fun h => h.2 hz)])
      rw [hv]
      simp (disch := (first | omega | assumption)) only [hlt', idx_nat, List.length_map, hg, codeF_eq, moneyF_eq, hc, hn', hz, go_sem, evP_D, evD_guard, evD_cons, evD_zero, evD_nil]
     ·rw [if_neg (fun h => h ⟨hn, hz⟩)] at hall
      have hfi := find_set c (codesTo l k)
      cases hcs : hasC c (codesTo l k) with
      | true =>
       rw [hcs, if_pos rfl] at hfi
       have hv := fin 5 (by omega) (by rw [hall, if_pos hcs])
       rw [hv]
       simp (disch := (first | omega | assumption)) only [hlt', idx_nat, List.length_map, hg, codeF_eq, moneyF_eq, hc, hn', hz, hfi, go_sem, evP_D, evD_guard, evD_cons, evD_zero, evD_nil]
      | false =>
       rw [hcs, if_neg (by simp)] at hfi
       rw [if_neg (by rw [hcs]; simp)] at hall
       have hup := upd_set c (codesTo l k) hcs
       rw [← hcs1] at hup
       simp (disch := (first | omega | assumption)) only [hlt', idx_nat, List.length_map, hg, codeF_eq, moneyF_eq, hc, hn', hz, hfi, hup, go_sem, evP_D, evD_guard, evD_cons, evD_zero, evD_nil]
       exact ⟨⟨k + 1, ⟨hlt, hall, by rw [hsum]; omega, by rw [hsum]; omega⟩, by rw [hsum]; rfl⟩, hms⟩
    ·have hn' : (decide (-1000000000000 ≤ n ∧ n ≤ 1000000000000)) = false := decide_eq_false hn
     have hv := fin 1 (by omega) (by rw [hall, if_pos (fun h => hn h.1)])
     rw [hv]
     simp (disch := (first | omega | assumption)) only [hlt', idx_nat, List.length_map, hg, codeF_eq, moneyF_eq, hc, hn', go_sem, evP_D, evD_guard, evD_cons, evD_zero, evD_nil]
  ·have hk' : k = l.length := by omega
   subst hk'
   have hlt' : ¬ ((l.length : Int) < l.length) := by omega
   have e0 : R = 0 := by rw [hall, List.drop_length]; rfl
   have hcl := codes_len l (Nat.le_refl l.length)
   rw [e0, if_neg (by simp)]
   by_cases hz : lnSum l l.length = 0
   ·by_cases h2 : l.length < 2
    ·have h2' : (l.length : Int) < 2 := by omega
     simp (disch := (first | omega | assumption)) only [hlt', h2, h2', hz, setV_len, hcl, true_or, go_sem, evP_D, evD_guard, evD_cons, evD_zero, evD_nil]
    ·have h2' : ¬ (l.length : Int) < 2 := by omega
     simp (disch := (first | omega | assumption)) only [hlt', h2, h2', hz, setV_len, hcl, ne_eq, not_true, or_self, go_sem, evP_D, evD_guard, evD_cons, evD_zero, evD_nil]
   ·simp (disch := (first | omega | assumption)) only [hlt', hz, ne_eq, not_false_eq_true, or_true, go_sem, evP_D, evD_guard, evD_cons, evD_zero, evD_nil]
end Go.Proofs.YtdmkmbaaemhhhaaGreatDoor
end
section
namespace Go.Proofs.YtdmkmbaaemhhhaaGreatDoor
open Go Go.Ev Go.RowKit Go.Acc
set_option maxHeartbeats 4000000
def eqLF : List V → Option (V × List Ev.Blk)
 | [x, y] => match rowAc x, rowAc y with
  | some xs, some ys => some (.bool (decide (xs = ys)), [])
  | _, _ => none
 | _ => none
theorem eqL_sound {J : World → Prop} (hJ : Stable J) (xs ys : List (ByteArray × Int)) : SoundAt Tryz.prog J 43 [.row 2 (xs.map acV), .row 2 (ys.map acV)] (.bool (decide (xs = ys))) [] := by
 refine SoundAt.row 0 rfl (callOk Tryz.func43 rfl rfl) fun hx => ?_
 simp only [maxLen, List.length_map] at hx
 refine SoundAt.row 1 rfl (callOk Tryz.func43 rfl rfl) fun hy => ?_
 simp only [maxLen, List.length_map] at hy
 refine evFn (l := []) (nv := nv0) (fz := fz0) (dr := dr43) (dd := dd43) (lam := []) (ms := ms0) trivial hJ trivial ms0_ok Tryz.func43 rfl rfl (Nat.le_of_ble_eq_true rfl) (Nat.le_of_ble_eq_true rfl) drOk43 ?_
 dsimp only [Tryz.f43, dr43, dd43, Option.getD_some]
 refine ev_start ?_
 by_cases hl : xs.length = ys.length
 ·have hl' : (xs.length : Int) = ys.length := by omega
  simp (disch := omega) only [hl', go_sem, evP_D, evD_guard, evD_cons, evD_zero, evD_nil]
  refine evQ_loop [0, 1, 12, 13] [] (fun σ => ∃ k : Nat, (k ≤ xs.length ∧ ∀ i, i < k → xs[i]? = ys[i]?) ∧ σ = ⟨[(0, .row 2 (xs.map acV)), (1, .row 2 (ys.map acV)), (12, .int .i64 ys.length), (13, .int .i64 k)], []⟩) (fun σ => xs.length - (match Ev.look 13 σ.env with | some (.int _ n) => n.toNat | _ => 0)) ?_ ?_
  ·simp only [go_sem, evP_D, evD_guard, evD_cons, evD_zero, evD_nil]
   exact ⟨0, ⟨Nat.zero_le _, fun _ h => by omega⟩, rfl⟩
  ·rintro σ ⟨k, ⟨hk, hall⟩, rfl⟩
   by_cases hlt : k < xs.length
   ·have hlt' : (k : Int) < ys.length := by omega
    have hk1 : k < ys.length := by omega
    obtain ⟨⟨c, n⟩, hcn⟩ : ∃ p, xs[k]? = some p := ⟨_, List.getElem?_eq_getElem hlt⟩
    obtain ⟨⟨c', n'⟩, hcn'⟩ : ∃ p, ys[k]? = some p := ⟨_, List.getElem?_eq_getElem hk1⟩
    have g1 := acV_get hcn
    have g2 := acV_get hcn'
    have hne : ¬ (c = c' ∧ n = n') → decide (xs = ys) = false := fun h => decide_eq_false fun e => h (by
     subst e
     rw [hcn] at hcn'
     cases hcn'
     exact ⟨rfl, rfl⟩)
    by_cases hc : c = c'
    ·by_cases hn : n = n'
     ·subst hc
      subst hn
      simp (disch := (first | omega | assumption)) only [hlt', idx_nat, List.length_map, g1, g2, str_eq, decide_true, go_sem, evP_D, evD_guard, evD_cons, evD_zero, evD_nil]
      exact ⟨⟨k + 1, ⟨hlt, fun i hi => by
       by_cases e : i = k
       ·subst e; rw [hcn, hcn']
       ·exact hall i (by omega)⟩, rfl⟩, by
       have e3 : ((k : Int) + 1).toNat = k + 1 := by omega
       rw [e3, Int.toNat_natCast]; exact Nat.sub_lt_sub_left hlt (Nat.lt_succ_self k)⟩
     ·have hne' := hne fun h => hn h.2
      subst hc
      simp (disch := (first | omega | assumption)) only [hlt', idx_nat, List.length_map, g1, g2, str_eq, hn, hne', decide_true, go_sem, evP_D, evD_guard, evD_cons, evD_zero, evD_nil]
    ·have hne' := hne fun h => hc h.1
     simp (disch := (first | omega | assumption)) only [hlt', idx_nat, List.length_map, g1, g2, str_eq, hc, hne', go_sem, evP_D, evD_guard, evD_cons, evD_zero, evD_nil]
   ·have hlt' : ¬ ((k : Int) < ys.length) := by omega
    have heq : xs = ys := List.ext_getElem? fun i => by
     by_cases hi : i < k
     ·exact hall i hi
     ·rw [List.getElem?_eq_none (by omega), List.getElem?_eq_none (by omega)]
    have : decide (xs = ys) = true := decide_eq_true heq
    simp (disch := (first | omega | assumption)) only [hlt', this, go_sem, evP_D, evD_guard, evD_cons, evD_zero, evD_nil]
 ·have hl' : ¬ (xs.length : Int) = ys.length := by omega
  have hne : decide (xs = ys) = false := decide_eq_false fun h => hl (by rw [h])
  simp (disch := omega) only [hl', hne, go_sem, evP_D, evD_guard, evD_cons, evD_zero, evD_nil]
theorem eqL_snd {J : World → Prop} (hJ : Stable J) : Snd Tryz.prog J 43 eqLF := by
 intro args r bs h
 unfold eqLF at h
 split at h
 ·rename_i x y
  split at h
  ·rename_i xs ys hx hy
   obtain ⟨rfl, rfl⟩ := some_pair h
   exact sound_by (eqL_sound hJ xs ys) rfl fun w ok j c v hc hv => by
    match j with
    | 0 => simp at hc; subst hc; exact ⟨_, rfl, rowAc_rel hx hv⟩
    | 1 => simp at hc; subst hc; exact ⟨_, rfl, rowAc_rel hy hv⟩
    | j + 2 => simp at hc
  ·cases h
 ·cases h
theorem eqLF_rows (xs ys : List (ByteArray × Int)) : eqLF [.row 2 (xs.map acV), .row 2 (ys.map acV)] = some (.bool (decide (xs = ys)), []) := by simp only [eqLF, rowAc_row]
theorem same_sound {J : World → Prop} (hJ : Stable J) (k : ByteArray) (d : Int) (L M : V) (l : List (ByteArray × Int)) (hL : rowAc L = some l) (hM : rowAc M = some l) : SoundAt Tryz.prog J 13 [.agg [.str k, .int .i64 d, .row 2 (l.map acV)], .agg [.str k, .int .i64 d, .row 2 (l.map acV)]] (.bool true) [] := by
 refine evFn (l := [(43, eqLF)]) (nv := nv0) (fz := fz0) (dr := dr13) (dd := dd13) (lam := []) (ms := ms0) ⟨eqL_snd hJ, trivial⟩ hJ trivial ms0_ok Tryz.func13 rfl rfl (Nat.le_of_ble_eq_true rfl) (Nat.le_of_ble_eq_true rfl) drOk13 ?_
 dsimp only [Tryz.f13, dr13, dd13, Option.getD_some]
 refine ev_start ?_
 simp (disch := omega) only [eqLF_rows, bin_eql_str, decide_true, go_sem, evP_D, evD_guard, evD_cons, evD_zero, evD_nil]
noncomputable def sameF : List V → Option (V × List Ev.Blk)
 | [.agg [.str k, .int .i64 d, L], .agg [.str k', .int .i64 d', M]] => open Classical in if (k = k' ∧ d = d') ∧ ∃ l, rowAc L = some l ∧ rowAc M = some l then some (.bool true, []) else none
 | _ => none
theorem same_snd {J : World → Prop} (hJ : Stable J) : Snd Tryz.prog J 13 sameF := by
 intro args r bs h
 unfold sameF at h
 split at h
 ·rename_i k d L k' d' M
  split at h
  ·rename_i hc
   obtain ⟨rfl, rfl⟩ := some_pair h
   obtain ⟨⟨rfl, rfl⟩, l, hL, hM⟩ := hc
   exact sound_by (same_sound hJ k d L M l hL hM) rfl fun w ok j c v hc hv => by
    match j with
    | 0 => simp at hc; subst hc; exact ⟨_, rfl, enV_rel hL hv⟩
    | 1 => simp at hc; subst hc; exact ⟨_, rfl, enV_rel hM hv⟩
    | j + 2 => simp at hc
  ·cases h
 ·cases h
theorem sameF_eq {k : ByteArray} {d : Int} {L M : V} {l : List (ByteArray × Int)} (hL : rowAc L = some l) (hM : rowAc M = some l) : sameF [.agg [.str k, .int .i64 d, L], .agg [.str k, .int .i64 d, M]] = some (.bool true, []) := by
 simp only [sameF]
 exact if_pos ⟨⟨trivial, trivial⟩, l, hL, hM⟩
end Go.Proofs.YtdmkmbaaemhhhaaGreatDoor
end
section
namespace Go.Acc
open Go
theorem lnE_ok : ∀ (l : List (ByteArray × Int)) (seen : List ByteArray), lnE seen l = 0 → ∀ x ∈ l, -1000000000000 ≤ x.2 ∧ x.2 ≤ 1000000000000
 | [], _, _ => by simp
 | (c, n) :: l, seen, h => by
  unfold lnE at h
  by_cases h1 : codeOk c = false
  ·rw [if_pos h1] at h; omega
  rw [if_neg h1] at h
  by_cases h2 : ¬ ((-1000000000000 ≤ n ∧ n ≤ 1000000000000) ∧ n ≠ 0)
  ·rw [if_pos h2] at h; omega
  rw [if_neg h2] at h
  by_cases h3 : hasC c seen = true
  ·rw [if_pos h3] at h; omega
  rw [if_neg h3] at h
  intro x hx
  rcases List.mem_cons.1 hx with rfl | hx
  ·exact (Decidable.not_not.1 h2).1
  ·exact lnE_ok l _ h x hx
theorem lnChk_ok {l : List (ByteArray × Int)} (h : lnChk l = 0) : 2 ≤ l.length ∧ l.length ≤ 12 ∧ ∀ x ∈ l, -1000000000000 ≤ x.2 ∧ x.2 ≤ 1000000000000 := by
 unfold lnChk at h
 by_cases h1 : 12 < l.length
 ·rw [if_pos h1] at h; omega
 rw [if_neg h1] at h
 by_cases h2 : lnE [] l = 0
 ·rw [if_neg (fun hh => hh h2)] at h
  by_cases h3 : l.length < 2 ∨ lnSum l l.length ≠ 0
  ·rw [if_pos h3] at h; omega
  ·exact ⟨by omega, by omega, lnE_ok l [] h2⟩
 ·rw [if_pos h2] at h; exact absurd h h2
theorem enE_ok {key : ByteArray} {day : Int} {l : List (ByteArray × Int)} (h : enE key day l = 0) : lnChk l = 0 := by
 unfold enE at h
 by_cases h1 : keyOk' key = false
 ·rw [if_pos h1] at h; omega
 rw [if_neg h1] at h
 by_cases h2 : ¬ (0 ≤ day ∧ day ≤ 292193)
 ·rw [if_pos h2] at h; omega
 rw [if_neg h2] at h
 exact h
end Go.Acc
namespace Go.Proofs.YtdmkmbaaemhhhaaGreatDoor
open Go Go.Ev Go.RowKit Go.Acc
set_option maxHeartbeats 4000000
end Go.Proofs.YtdmkmbaaemhhhaaGreatDoor
end
