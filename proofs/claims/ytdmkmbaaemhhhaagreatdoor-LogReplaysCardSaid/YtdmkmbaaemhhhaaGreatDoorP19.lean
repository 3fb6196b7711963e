/-
  Books, run by the machine: the reference's Book.
-/
import Derived.Test.YtdmkmbaaemhhhaaGreatDoorP18
set_option linter.unusedVariables false
set_option linter.unusedSimpArgs false
namespace Go.Proofs.YtdmkmbaaemhhhaaGreatDoor
open Go Go.Ev Go.RowKit Go.Acc
set_option maxHeartbeats 4000000
def hasF : List V → Option (V × List Blk)
 | [.row 2 es, .str c] => (unAc es).map fun A => (.bool (hasA A c), [])
 | _ => none
theorem hasF_eq (A : List (ByteArray × Int)) (c : ByteArray) : hasF [.row 2 (A.map acV), .str c] = some (.bool (hasA A c), []) := by simp only [hasF, unAc_map, Option.map_some]
theorem has_sound {J : World → Prop} (hJ : Stable J) (A : List (ByteArray × Int)) (c : ByteArray) : SoundAt Tryz.prog J 40 [.row 2 (A.map acV), .str c] (.bool (hasA A c)) [] := by
 refine SoundAt.row 0 rfl (callOk Tryz.func40 rfl rfl) fun hlen => ?_
 simp only [maxLen, List.length_map] at hlen
 refine evFn (l := []) (nv := nv0) (fz := fz0) (dr := dr40) (dd := dd40) (lam := []) (ms := ms0) trivial hJ trivial ms0_ok Tryz.func40 rfl rfl (Nat.le_of_ble_eq_true rfl) (Nat.le_of_ble_eq_true rfl) drOk40 ?_
 dsimp only [Tryz.f40, dr40, dd40, Option.getD_some]
 refine ev_start ?_
 simp (disch := omega) only [go_sem, evP_D, evD_guard, evD_cons, evD_zero, evD_nil]
 refine evQ_loop [1, 7, 8, 9] [] (fun σ => ∃ (k : Nat), (k ≤ A.length ∧ ∀ i (h : i < A.length), i < k → isC c A[i] = false) ∧ σ = ⟨[(1, .str c), (7, .row 2 (A.map acV)), (8, .int .i64 A.length), (9, .int .i64 k)], []⟩)
  (fun σ => A.length - (match Ev.look 9 σ.env with | some (.int _ n) => n.toNat | _ => 0)) ?_ ?_
 ·simp only [go_sem, evP_D, evD_guard, evD_cons, evD_zero, evD_nil]
  exact ⟨0, ⟨Nat.zero_le _, fun _ _ h => by omega⟩, rfl⟩
 ·rintro σ ⟨k, ⟨hk, hall⟩, rfl⟩
  by_cases hlt : k < A.length
  ·have hlt' : (k : Int) < A.length := by omega
   have hg : (A.map acV)[k]? = some (.agg [.str A[k].1, .int .i64 A[k].2]) := acV_get (c := A[k].1) (n := A[k].2) (List.getElem?_eq_getElem hlt)
   cases hb : isC c A[k] with
   | true =>
    have hany : hasA A c = true := List.any_eq_true.2 ⟨A[k], List.getElem_mem hlt, hb⟩
    have hb' : A[k].1 = c := by simpa [isC] using hb
    simp (disch := (first | omega | assumption)) only [hlt', idx_nat, List.length_map, hg, bin_eql_str, hb', decide_true, hany, go_sem, evP_D, evD_guard, evD_cons, evD_zero, evD_nil]
   | false =>
    have hb' : ¬ A[k].1 = c := by simpa [isC] using hb
    simp (disch := (first | omega | assumption)) only [hlt', idx_nat, List.length_map, hg, bin_eql_str, hb', decide_false, go_sem, evP_D, evD_guard, evD_cons, evD_zero, evD_nil]
    exact ⟨⟨k + 1, ⟨hlt, fun i hi hik => by
     by_cases e : i = k
     ·subst e; exact hb
     ·exact hall i hi (by omega)⟩, rfl⟩, by show A.length - ((k : Int) + 1).toNat < A.length - (k : Int).toNat; omega⟩
  ·have hk' : k = A.length := by omega
   subst hk'
   have hlt' : ¬ ((A.length : Int) < A.length) := by omega
   have hany : hasA A c = false := by
    unfold hasA
    rw [List.any_eq_false]
    intro x hx
    obtain ⟨i, hi, rfl⟩ := List.mem_iff_getElem.1 hx
    simp [hall i hi hi]
   simp (disch := (first | omega | assumption)) only [hlt', hany, go_sem, evP_D, evD_guard, evD_cons, evD_zero, evD_nil]
theorem has_snd {J : World → Prop} (hJ : Stable J) : Snd Tryz.prog J 40 hasF := by
 intro args r bs h
 unfold hasF at h
 split at h
 ·rename_i es c
  simp only [Option.map_eq_some_iff] at h
  obtain ⟨A, hA, h⟩ := h
  obtain ⟨rfl, rfl⟩ := some_pair (congrArg some h)
  rw [unAc_eq hA]
  exact has_sound hJ A c
 ·cases h
theorem accts_snd {J : World → Prop} (hJ : Stable J) : Snd Tryz.prog J 38 chkF := by
 intro args r bs h
 unfold chkF at h
 split at h
 ·rename_i es
  simp only [Option.map_eq_some_iff] at h
  obtain ⟨l, hl, h⟩ := h
  obtain ⟨rfl, rfl⟩ := some_pair (congrArg some h)
  rw [unAc_eq hl]
  exact accts_sound hJ l
 ·cases h
def rentryF : List V → Option (V × List Blk)
 | [.agg [.str key, .int .i64 day, .row 2 es]] => if key.size ≤ maxLen ∧ es.length ≤ maxLen then (unAc es).map fun l => (.int .i64 (enE key day l), []) else none
 | _ => none
theorem rentryF_eq {key : ByteArray} {day : Int} {l : List (ByteArray × Int)} (hk : key.size ≤ maxLen) (hl : l.length ≤ maxLen) : rentryF [.agg [.str key, .int .i64 day, .row 2 (l.map acV)]] = some (.int .i64 (enE key day l), []) := by
 simp only [rentryF, unAc_map, Option.map_some]
 exact if_pos ⟨hk, by rw [List.length_map]; exact hl⟩
theorem rentry_snd {J : World → Prop} (hJ : Stable J) : Snd Tryz.prog J 21 rentryF := by
 intro args r bs h
 unfold rentryF at h
 split at h
 ·rename_i key day es
  split at h
  ·rename_i hc
   simp only [Option.map_eq_some_iff] at h
   obtain ⟨l, hl, h⟩ := h
   obtain ⟨rfl, rfl⟩ := some_pair (congrArg some h)
   have e := unAc_eq hl
   subst e
   exact rentry_sound hJ key day l hc.1 (by simpa using hc.2)
  ·cases h
 ·cases h
def okEn (E : List En) : Prop := E.length ≤ maxLen ∧ ∀ x ∈ E, x.1.size ≤ maxLen ∧ x.2.2.length ≤ maxLen
set_option maxHeartbeats 8000000 in
theorem rbook_sound {J : World → Prop} (hJ : Stable J) (A : List (ByteArray × Int)) (E : List En) (s : Int) (hE : okEn E) : SoundAt Tryz.prog J 10 [bkV A E s] (.int .i64 (bkChk A E s)) [] := by
 have hlen : (E.length : Int) ≤ 9223372036854775807 := by have := hE.1; unfold maxLen at this; omega
 unfold bkV
 refine evFn (l := [(38, chkF), (39, dayF), (21, rentryF), (40, hasF)]) (nv := nv0) (fz := fz0) (dr := dr10) (dd := dd10) (lam := []) (ms := ms0) ⟨accts_snd hJ, day_snd hJ, rentry_snd hJ, has_snd hJ, trivial⟩ hJ trivial ms0_ok Tryz.func10 rfl rfl (Nat.le_of_ble_eq_true rfl) (Nat.le_of_ble_eq_true rfl) drOk10 ?_
 dsimp only [Tryz.f10, dr10, dd10, Option.getD_some]
 refine ev_start ?_
 by_cases ha : acChk A = 0
 case neg =>
  have e : bkChk A E s = acChk A := by unfold bkChk; rw [if_pos ha]
  simp (disch := omega) only [chkF_eq, ha, e, go_sem, evP_D, evD_guard, evD_cons, evD_zero, evD_nil]
 by_cases hs : -1 ≤ s ∧ s ≤ 292193
 case neg =>
  have e : bkChk A E s = 1 := by unfold bkChk; rw [if_neg (fun h => h ha), if_pos hs]
  have h1 : ¬ s = -1 := by omega
  have h2 : (decide (0 ≤ s ∧ s ≤ 292193)) = false := decide_eq_false (by omega)
  simp (disch := omega) only [chkF_eq, dayF_eq, ha, h1, h2, e, go_sem, evP_D, evD_guard, evD_cons, evD_zero, evD_nil]
 by_cases h3 : 60 < E.length
 ·have h3' : (60 : Int) < E.length := by omega
  have e : bkChk A E s = 2 := by unfold bkChk; rw [if_neg (fun h => h ha), if_neg (fun h => h hs), if_pos h3]
  by_cases h1 : s = -1
  ·have h1t := eq_true h1
   simp (disch := omega) only [chkF_eq, dayF_eq, List.length_map, ha, h1t, h3', e, go_sem, evP_D, evD_guard, evD_cons, evD_zero, evD_nil]
  ·have h2 : (decide (0 ≤ s ∧ s ≤ 292193)) = true := decide_eq_true (by omega)
   simp (disch := omega) only [chkF_eq, dayF_eq, List.length_map, ha, h1, h2, h3', e, go_sem, evP_D, evD_guard, evD_cons, evD_zero, evD_nil]
 have h3' : ¬ (60 : Int) < E.length := by omega
 obtain ⟨R, hR⟩ : ∃ R, R = bkE A [] none E := ⟨_, rfl⟩
 have e : bkChk A E s = R := by unfold bkChk; rw [if_neg (fun h => h ha), if_neg (fun h => h hs), if_neg h3, hR]
 rw [e]
 have hday : (s = -1) = True ∨ (¬ s = -1 ∧ (decide (0 ≤ s ∧ s ≤ 292193)) = true) := by
  by_cases h1 : s = -1
  ·exact .inl (eq_true h1)
  ·exact .inr ⟨h1, decide_eq_true (by omega)⟩
 rcases hday with h1 | ⟨h1, h2⟩
 case' inl => simp (disch := omega) only [chkF_eq, dayF_eq, List.length_map, ha, h1, h3', go_sem, evP_D, evD_guard, evD_cons, evD_zero, evD_nil]
 case' inr => simp (disch := omega) only [chkF_eq, dayF_eq, List.length_map, ha, h1, h2, h3', go_sem, evP_D, evD_guard, evD_cons, evD_zero, evD_nil]
 all_goals
  refine evQ_loop [1, 4, 32, 33, 34] [8, 240] (fun σ => ∃ (k : Nat), (k ≤ E.length ∧ R = bkE A (keysTo E k) (prvE E k) (E.drop k)) ∧ σ = ⟨[(1, .ptr 8 0), (4, .vec 240), (32, .row 3 (E.map enW)), (33, .int .i64 E.length), (34, .int .i64 k)], [(8, .box (.agg [.row 2 (A.map acV), .row 3 (E.map enW), .int .i64 s])), (240, .map (setV (keysTo E k)))]⟩)
   (fun σ => E.length - (match Ev.look 34 σ.env with | some (.int _ n) => n.toNat | _ => 0)) ?_ ?_
  ·simp only [go_sem, evP_D, evD_guard, evD_cons, evD_zero, evD_nil]
   exact ⟨0, ⟨Nat.zero_le _, hR⟩, rfl⟩
  ·rintro σ ⟨k, ⟨hkl, hall⟩, rfl⟩
   by_cases hlt : k < E.length
   ·have hlt' : (k : Int) < E.length := by omega
    obtain ⟨⟨c, d, l⟩, hcn⟩ : ∃ p, E[k]? = some p := ⟨_, List.getElem?_eq_getElem hlt⟩
    obtain ⟨hsz, hll⟩ := hE.2 _ (List.mem_of_getElem? hcn)
    simp only at hsz hll
    have hll' : (l.length : Int) ≤ 9223372036854775807 := by unfold maxLen at hll; omega
    have hg := enW_get hcn
    have hks := keysTo_succ hcn
    have hpn : prvE E (k + 1) = some (c, d, l) := by unfold prvE; rw [if_neg (by omega), Nat.add_sub_cancel, hcn]
    have hen := rentryF_eq (day := d) hsz hll
    rw [bkE_drop hcn] at hall
    have hms : E.length - ((k : Int) + 1).toNat < E.length - (k : Int).toNat := by
     have e3 : ((k : Int) + 1).toNat = k + 1 := by omega
     rw [e3, Int.toNat_natCast]; exact Nat.sub_lt_sub_left hlt (Nat.lt_succ_self k)
    have hx0 : enX (c, d, l) = enE c d l := rfl
    rw [hx0] at hall
    by_cases hz : enE c d l = 0
    case neg =>
     rw [if_pos hz] at hall
     rw [hall]
     simp (disch := (first | omega | assumption)) only [hlt', idx_nat, List.length_map, hg, hen, hz, go_sem, evP_D, evD_guard, evD_cons, evD_zero, evD_nil]
    rw [if_neg (fun h => h hz)] at hall
    have hbad : knownB A (c, d, l) = false → R = 4 := fun h => by rw [if_pos h] at hall; exact hall
    simp (disch := (first | omega | assumption)) only [hlt', idx_nat, List.length_map, hg, hen, hz, go_sem, evP_D, evD_guard, evD_cons, evD_zero, evD_nil]
    refine evQ_loop [1, 4, 5, 6, 32, 33, 34, 45, 46, 47] [8, 240, 48] (fun σ => ∃ (j : Nat), (j ≤ l.length ∧ ∀ i (h : i < l.length), i < j → hasA A l[i].1 = true) ∧ σ = ⟨[(1, .ptr 8 0), (4, .vec 240), (5, .int .i64 k), (6, .ptr 48 0), (32, .row 3 (E.map enW)), (33, .int .i64 E.length), (34, .int .i64 k), (45, .row 2 (l.map acV)), (46, .int .i64 l.length), (47, .int .i64 j)], [(8, .box (.agg [.row 2 (A.map acV), .row 3 (E.map enW), .int .i64 s])), (240, .map (setV (keysTo E k))), (48, .box (.agg [.str c, .int .i64 d, .row 2 (l.map acV)]))]⟩)
     (fun σ => l.length - (match Ev.look 47 σ.env with | some (.int _ n) => n.toNat | _ => 0)) ?_ ?_
    ·simp only [go_sem, evP_D, evD_guard, evD_cons, evD_zero, evD_nil]
     exact ⟨0, ⟨Nat.zero_le _, fun _ _ h => by omega⟩, rfl⟩
    ·rintro σ ⟨j, ⟨hjl, hja⟩, rfl⟩
     by_cases hjt : j < l.length
     ·have hjt' : (j : Int) < l.length := by omega
      have hgl : (l.map acV)[j]? = some (.agg [.str l[j].1, .int .i64 l[j].2]) := acV_get (c := l[j].1) (n := l[j].2) (List.getElem?_eq_getElem hjt)
      cases hb : hasA A l[j].1 with
      | false =>
       have hv := hbad (List.all_eq_false.2 ⟨l[j], List.getElem_mem hjt, by rw [hb]; simp⟩)
       rw [hv]
       simp (disch := (first | omega | assumption)) only [hjt', idx_nat, List.length_map, hgl, hasF_eq, hb, go_sem, evP_D, evD_guard, evD_cons, evD_zero, evD_nil]
      | true =>
       simp (disch := (first | omega | assumption)) only [hjt', idx_nat, List.length_map, hgl, hasF_eq, hb, go_sem, evP_D, evD_guard, evD_cons, evD_zero, evD_nil]
       exact ⟨⟨j + 1, ⟨hjt, fun i hi hij => by
        by_cases e : i = j
        ·subst e; exact hb
        ·exact hja i hi (by omega)⟩, rfl⟩, by show l.length - ((j : Int) + 1).toNat < l.length - (j : Int).toNat; omega⟩
     ·have hj' : j = l.length := by omega
      subst hj'
      have hjt' : ¬ ((l.length : Int) < l.length) := by omega
      have hkn : knownB A (c, d, l) = true := List.all_eq_true.2 fun x hx => by
       obtain ⟨i, hi, rfl⟩ := List.mem_iff_getElem.1 hx
       exact hja i hi hi
      rw [if_neg (by rw [hkn]; simp)] at hall
      have hfi := find_set c (keysTo E k)
      cases hcs : hasC c (keysTo E k) with
      | true =>
       rw [hcs, if_pos rfl] at hfi
       rw [if_pos hcs] at hall
       rw [hall]
       simp (disch := (first | omega | assumption)) only [hjt', hfi, go_sem, evP_D, evD_guard, evD_cons, evD_zero, evD_nil]
      | false =>
       rw [hcs, if_neg (by simp)] at hfi
       rw [if_neg (by rw [hcs]; simp)] at hall
       have hup := upd_set c (keysTo E k) hcs
       rw [← hks] at hup
       by_cases hk0 : k = 0
       ·subst hk0
        have hp : prvE E 0 = none := rfl
        rw [hp] at hall
        have h0 : ¬ (0 : Int) < ((0 : Nat) : Int) := by omega
        simp (disch := (first | omega | assumption)) only [hjt', hfi, hup, h0, go_sem, evP_D, evD_guard, evD_cons, evD_zero, evD_nil]
        exact ⟨⟨1, ⟨hlt, by rw [if_neg (by simp [badO])] at hall; exact hall⟩, rfl⟩, hms⟩
       ·have h0 : (0 : Int) < k := by omega
        have hk1 : k - 1 < E.length := by omega
        obtain ⟨⟨c', d', l'⟩, hcn'⟩ : ∃ p, E[k - 1]? = some p := ⟨_, List.getElem?_eq_getElem hk1⟩
        have hg' := enW_get hcn'
        have hp : prvE E k = some (c', d', l') := by unfold prvE; rw [if_neg hk0, hcn']
        rw [hp] at hall
        have e1 : (k : Int) - 1 = ((k - 1 : Nat) : Int) := by omega
        have hlb : ltB (c', d', l') (c, d, l) = (decide (d' < d) || (decide (d' = d) && Op.bytesLess c'.toList c.toList)) := rfl
        by_cases hgt : d < d'
        ·have hb : ltB (c', d', l') (c, d, l) = false := by rw [hlb, decide_eq_false (by omega), decide_eq_false (by omega)]; rfl
         rw [if_pos (by simp [badO, hb])] at hall
         rw [hall]
         simp (disch := (first | omega | assumption)) only [hjt', idx_nat, List.length_map, hg', hfi, hup, h0, e1, hgt, go_sem, evP_D, evD_guard, evD_cons, evD_zero, evD_nil]
        ·by_cases heq : d' = d
         ·have hlb2 : ltB (c', d', l') (c, d, l) = Op.bytesLess c'.toList c.toList := by rw [hlb, decide_eq_false (by omega), decide_eq_true heq]; rfl
          have heqt := eq_true heq
          cases hb : Op.bytesLess c'.toList c.toList with
          | false =>
           rw [if_pos (by simp only [badO, hlb2, hb]; rfl)] at hall
           rw [hall]
           simp (disch := (first | omega | assumption)) only [hjt', idx_nat, List.length_map, hg', hfi, hup, h0, e1, hgt, heqt, bin_geq_str, hb, go_sem, evP_D, evD_guard, evD_cons, evD_zero, evD_nil]
          | true =>
           rw [if_neg (by simp only [badO, hlb2, hb]; simp)] at hall
           simp (disch := (first | omega | assumption)) only [hjt', idx_nat, List.length_map, hg', hfi, hup, h0, e1, hgt, heqt, bin_geq_str, hb, go_sem, evP_D, evD_guard, evD_cons, evD_zero, evD_nil]
           exact ⟨⟨k + 1, ⟨hlt, hall⟩, rfl⟩, hms⟩
         ·have hb : ltB (c', d', l') (c, d, l) = true := by rw [hlb, decide_eq_true (by omega)]; rfl
          rw [if_neg (by simp [badO, hb])] at hall
          simp (disch := (first | omega | assumption)) only [hjt', idx_nat, List.length_map, hg', hfi, hup, h0, e1, hgt, heq, go_sem, evP_D, evD_guard, evD_cons, evD_zero, evD_nil]
          exact ⟨⟨k + 1, ⟨hlt, hall⟩, rfl⟩, hms⟩
   ·have hk' : k = E.length := by omega
    subst hk'
    have hlt' : ¬ ((E.length : Int) < E.length) := by omega
    have e0 : R = 0 := by rw [hall, List.drop_length]; rfl
    simp (disch := (first | omega | assumption)) only [hlt', e0, go_sem, evP_D, evD_guard, evD_cons, evD_zero, evD_nil]
end Go.Proofs.YtdmkmbaaemhhhaaGreatDoor
