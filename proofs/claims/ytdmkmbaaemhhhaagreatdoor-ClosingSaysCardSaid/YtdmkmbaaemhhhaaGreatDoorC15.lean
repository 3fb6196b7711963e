/-
  Books, run by the machine: the program's Check.
-/
import Derived.Test.YtdmkmbaaemhhhaaGreatDoorC14
set_option linter.unusedVariables false
set_option linter.unusedSimpArgs false
namespace Go.Proofs.YtdmkmbaaemhhhaaGreatDoor
open Go Go.Ev Go.RowKit Go.Acc
set_option maxHeartbeats 4000000
set_option maxHeartbeats 4000000 in
theorem bcheck_sound {J : World → Prop} (hJ : Stable J) (A : List (ByteArray × Int)) (E : List En) (s : Int) (hE : E.length ≤ maxLen) : SoundAt Tryz.prog J 11 [bkV A E s] (.int .i64 (bkChk A E s)) [] := by
 have hlen : (E.length : Int) ≤ 9223372036854775807 := by unfold maxLen at hE; omega
 unfold bkV
 refine evFn (l := [(41, chkF), (29, echeckF), (33, knownF), (36, cmpF)]) (nv := nv0) (fz := fz0) (dr := dr11) (dd := dd11) (lam := []) (ms := ms0) ⟨check_snd hJ, echeck_snd hJ, known_snd hJ, cmp_snd hJ, trivial⟩ hJ trivial ms0_ok Tryz.func11 rfl rfl (Nat.le_of_ble_eq_true rfl) (Nat.le_of_ble_eq_true rfl) drOk11 ?_
 dsimp only [Tryz.f11, dr11, dd11, Option.getD_some]
 refine ev_start ?_
 by_cases ha : acChk A = 0
 case neg =>
  have e : bkChk A E s = acChk A := by unfold bkChk; rw [if_pos ha]
  simp (disch := omega) only [chkF_eq, ha, e, go_sem, evP_D, evD_guard, evD_cons, evD_zero, evD_nil]
 by_cases h1 : s < -1
 ·have e : bkChk A E s = 1 := by unfold bkChk; rw [if_neg (fun h => h ha), if_pos (by omega)]
  simp (disch := omega) only [chkF_eq, ha, h1, e, go_sem, evP_D, evD_guard, evD_cons, evD_zero, evD_nil]
 by_cases h2 : 292193 < s
 ·have e : bkChk A E s = 1 := by unfold bkChk; rw [if_neg (fun h => h ha), if_pos (by omega)]
  simp (disch := omega) only [chkF_eq, ha, h1, h2, e, go_sem, evP_D, evD_guard, evD_cons, evD_zero, evD_nil]
 by_cases h3 : 60 < E.length
 ·have h3' : (60 : Int) < E.length := by omega
  have e : bkChk A E s = 2 := by unfold bkChk; rw [if_neg (fun h => h ha), if_neg (fun h => h (by omega)), if_pos h3]
  simp (disch := omega) only [chkF_eq, List.length_map, ha, h1, h2, h3', e, go_sem, evP_D, evD_guard, evD_cons, evD_zero, evD_nil]
 have h3' : ¬ (60 : Int) < E.length := by omega
 obtain ⟨R, hR⟩ : ∃ R, R = bkE A [] none E := ⟨_, rfl⟩
 have e : bkChk A E s = R := by unfold bkChk; rw [if_neg (fun h => h ha), if_neg (fun h => h (by omega)), if_neg h3, hR]
 rw [e]
 simp (disch := omega) only [chkF_eq, List.length_map, ha, h1, h2, h3', go_sem, evP_D, evD_guard, evD_cons, evD_zero, evD_nil]
 refine evQ_loop [1, 4, 28, 29, 30] [8, 208] (fun σ => ∃ (k : Nat), (k ≤ E.length ∧ R = bkE A (keysTo E k) (prvE E k) (E.drop k) ∧ ∀ y, prvE E k = some y → 0 ≤ y.2.1 ∧ y.2.1 ≤ 292193) ∧ σ = ⟨[(1, .ptr 8 0), (4, .vec 208), (28, .row 3 (E.map enW)), (29, .int .i64 E.length), (30, .int .i64 k)], [(8, .box (.agg [.row 2 (A.map acV), .row 3 (E.map enW), .int .i64 s])), (208, .map (setV (keysTo E k)))]⟩)
  (fun σ => E.length - (match Ev.look 30 σ.env with | some (.int _ n) => n.toNat | _ => 0)) ?_ ?_
 ·simp only [go_sem, evP_D, evD_guard, evD_cons, evD_zero, evD_nil]
  exact ⟨0, ⟨Nat.zero_le _, hR, fun y hy => by cases hy⟩, rfl⟩
 ·rintro σ ⟨k, ⟨hkl, hall, hpd⟩, rfl⟩
  by_cases hlt : k < E.length
  ·have hlt' : (k : Int) < E.length := by omega
   obtain ⟨⟨c, d, l⟩, hcn⟩ : ∃ p, E[k]? = some p := ⟨_, List.getElem?_eq_getElem hlt⟩
   have hg := enW_get hcn
   have hks := keysTo_succ hcn
   have hpn : prvE E (k + 1) = some (c, d, l) := by unfold prvE; rw [if_neg (by omega), Nat.add_sub_cancel, hcn]
   rw [bkE_drop hcn] at hall
   have hms : E.length - ((k : Int) + 1).toNat < E.length - (k : Int).toNat := by
    have e3 : ((k : Int) + 1).toNat = k + 1 := by omega
    rw [e3, Int.toNat_natCast]; exact Nat.sub_lt_sub_left hlt (Nat.lt_succ_self k)
   have hx0 : enX (c, d, l) = enE c d l := rfl
   rw [hx0] at hall
   by_cases hz : enE c d l = 0
   case neg =>
    rw [if_pos hz] at hall
    rw [hall]
    simp (disch := (first | omega | assumption)) only [hlt', idx_nat, List.length_map, hg, echeckF_eq, hz, go_sem, evP_D, evD_guard, evD_cons, evD_zero, evD_nil]
   rw [if_neg (fun h => h hz)] at hall
   cases hkn : knownB A (c, d, l) with
   | false =>
    rw [if_pos hkn] at hall
    rw [hall]
    simp (disch := (first | omega | assumption)) only [hlt', idx_nat, List.length_map, hg, echeckF_eq, knownF_eq, hz, hkn, go_sem, evP_D, evD_guard, evD_cons, evD_zero, evD_nil]
   | true =>
    rw [if_neg (by rw [hkn]; simp)] at hall
    have hfi := find_set c (keysTo E k)
    cases hcs : hasC c (keysTo E k) with
    | true =>
     rw [hcs, if_pos rfl] at hfi
     rw [if_pos hcs] at hall
     rw [hall]
     simp (disch := (first | omega | assumption)) only [hlt', idx_nat, List.length_map, hg, echeckF_eq, knownF_eq, hz, hkn, hfi, go_sem, evP_D, evD_guard, evD_cons, evD_zero, evD_nil]
    | false =>
     rw [hcs, if_neg (by simp)] at hfi
     rw [if_neg (by rw [hcs]; simp)] at hall
     have hup := upd_set c (keysTo E k) hcs
     rw [← hks] at hup
     have hd := (enX_ok (x := (c, d, l)) hz).1
     simp only at hd
     by_cases hk0 : k = 0
     ·subst hk0
      have hp : prvE E 0 = none := rfl
      rw [hp] at hall
      have h0 : ¬ (0 : Int) < ((0 : Nat) : Int) := by omega
      have z0 : ((0 : Nat) : Int) = 0 := rfl
      have hi0 := idx_nat E.length 0 hlt
      rw [z0] at hlt' h0 hi0 hms ⊢
      simp (disch := (first | omega | assumption)) only [hlt', hi0, List.length_map, hg, echeckF_eq, knownF_eq, hz, hkn, hfi, hup, h0, go_sem, evP_D, evD_guard, evD_cons, evD_zero, evD_nil]
      exact ⟨⟨1, ⟨hlt, by rw [if_neg (by simp [badO])] at hall; exact hall, fun y hy => by rw [hpn] at hy; cases hy; exact hd⟩, rfl⟩, hms⟩
     ·have h0 : (0 : Int) < k := by omega
      have hk1 : k - 1 < E.length := by omega
      obtain ⟨⟨c', d', l'⟩, hcn'⟩ : ∃ p, E[k - 1]? = some p := ⟨_, List.getElem?_eq_getElem hk1⟩
      have hg' := enW_get hcn'
      have hp : prvE E k = some (c', d', l') := by unfold prvE; rw [if_neg hk0, hcn']
      have hd' := hpd _ hp
      simp only at hd'
      rw [hp] at hall
      have e1 : (k : Int) - 1 = ((k - 1 : Nat) : Int) := by omega
      have hcm := cmpF_eq (a := c') (b := c) (l := l') (m := l) hd' hd
      have hge := cmpE_ge (c', d', l') (c, d, l)
      cases hb : ltB (c', d', l') (c, d, l) with
      | false =>
       have hge' : 0 ≤ cmpE (c', d', l') (c, d, l) := hge.2 hb
       rw [if_pos (by simp [badO, hb])] at hall
       rw [hall]
       simp (disch := (first | omega | assumption)) only [hlt', idx_nat, List.length_map, hg, hg', echeckF_eq, knownF_eq, hz, hkn, hfi, hup, h0, e1, hcm, hge', go_sem, evP_D, evD_guard, evD_cons, evD_zero, evD_nil]
      | true =>
       have hge' : ¬ 0 ≤ cmpE (c', d', l') (c, d, l) := fun h => by rw [hge.1 h] at hb; cases hb
       rw [if_neg (by simp [badO, hb])] at hall
       simp (disch := (first | omega | assumption)) only [hlt', idx_nat, List.length_map, hg, hg', echeckF_eq, knownF_eq, hz, hkn, hfi, hup, h0, e1, hcm, hge', go_sem, evP_D, evD_guard, evD_cons, evD_zero, evD_nil]
       exact ⟨⟨k + 1, ⟨hlt, hall, fun y hy => by rw [hpn] at hy; cases hy; exact hd⟩, rfl⟩, hms⟩
  ·have hk' : k = E.length := by omega
   subst hk'
   have hlt' : ¬ ((E.length : Int) < E.length) := by omega
   have e0 : R = 0 := by rw [hall, List.drop_length]; rfl
   simp (disch := (first | omega | assumption)) only [hlt', e0, go_sem, evP_D, evD_guard, evD_cons, evD_zero, evD_nil]
end Go.Proofs.YtdmkmbaaemhhhaaGreatDoor
