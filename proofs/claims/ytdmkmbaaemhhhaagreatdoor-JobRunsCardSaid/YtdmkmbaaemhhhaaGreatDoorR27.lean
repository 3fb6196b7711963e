/-
  Steps of the proof of JobRuns: JobG JobH.
-/
import Derived.Test.YtdmkmbaaemhhhaaGreatDoorR26
import Derived.Test.YtdmkmbaaemhhhaaGreatDoorR13
import Derived.Test.YtdmkmbaaemhhhaaGreatDoorR22
set_option linter.unusedVariables false
set_option linter.unusedSimpArgs false
section
namespace Go.Proofs.YtdmkmbaaemhhhaaGreatDoor
open Go Go.Ev Go.RowKit Go.Job Go.Acc
set_option maxHeartbeats 4000000
def rkF : List V → Option (V × List Ev.Blk)
 | [.str s] => if s.size ≤ maxLen then some (.bool (keyOk' s), []) else none
 | _ => none
theorem rkF_eq {s : ByteArray} (h : s.size ≤ maxLen) : rkF [.str s] = some (.bool (keyOk' s), []) := if_pos h
theorem rk_snd {J : World → Prop} (hJ : Stable J) : Snd Tryz.prog J 57 rkF := by
 intro args r bs h
 unfold rkF at h
 split at h
 ·split at h
  ·rename_i s hc
   obtain ⟨rfl, rfl⟩ := some_pair h
   exact rkey_sound hJ s hc
  ·cases h
 ·cases h
def keysP (l : List Pl) (k : Nat) : List ByteArray := (l.take k).map (·.key)
theorem keysP_succ {l : List Pl} {k : Nat} {p : Pl} (h : l[k]? = some p) : keysP l (k + 1) = keysP l k ++ [p.key] := by
 obtain ⟨hk, rfl⟩ := List.getElem?_eq_some_iff.1 h
 unfold keysP
 rw [List.take_succ_eq_append_getElem hk, List.map_append]
 rfl
theorem keysP_has (l : List Pl) (k : Nat) (c : ByteArray) : hasC c (keysP l k) = (l.take k).any fun q => decide (q.key = c) := by
 unfold hasC keysP
 rw [List.any_map]
 rfl
set_option maxRecDepth 100000 in
set_option maxHeartbeats 8000000 in
theorem rplans_sound {J : World → Prop} (hJ : Stable J) (l : List Pl) (hks : ∀ p ∈ l, p.key.size ≤ maxLen) : SoundAt Tryz.prog J 72 [.row 7 (l.map plV)] (.int .i64 (plChk keyOk' codeOk l)) [] := by
 refine SoundAt.row 0 rfl (callOk Tryz.func72 rfl rfl) fun hlen => ?_
 simp only [maxLen, List.length_map] at hlen
 refine evFn (l := [(57, rkF), (62, ixdF), (69, withinF), (39, dayF), (58, codeF), (112, rdaF)]) (nv := nv0) (fz := fz0) (dr := dr72) (dd := dd72) (lam := []) (ms := ms0) ⟨rk_snd hJ, ixd_snd, within_snd hJ, day_snd hJ, rcode_snd hJ, rda_snd, trivial⟩ hJ trivial ms0_ok Tryz.func72 rfl rfl (Nat.le_of_ble_eq_true rfl) (Nat.le_of_ble_eq_true rfl) drOk72 ?_
 dsimp only [Tryz.f72, dr72, dd72, Option.getD_some]
 refine ev_start ?_
 by_cases h3 : 12 < l.length
 ·have h3' : (12 : Int) < l.length := by omega
  have e : plChk keyOk' codeOk l = 2 := by unfold plChk; rw [if_pos h3]
  simp (disch := omega) only [h3', e, List.length_map, go_sem, evP_D, evD_guard, evD_cons, evD_zero, evD_nil]
 have h3' : ¬ (12 : Int) < l.length := by omega
 have e : plChk keyOk' codeOk l = plE keyOk' codeOk l l.length := by unfold plChk; rw [if_neg h3]
 rw [e]
 simp (disch := omega) only [h3', List.length_map, go_sem, evP_D, evD_guard, evD_cons, evD_zero, evD_nil]
 refine evQ_loop [3, 10, 11, 12] [72] (fun σ => ∃ (k : Nat), (k ≤ l.length ∧ plE keyOk' codeOk l k = 0) ∧ σ = ⟨[(3, .vec 72), (10, .row 7 (l.map plV)), (11, .int .i64 l.length), (12, .int .i64 k)], [(72, .map (setV (keysP l k)))]⟩)
  (fun σ => l.length - (match Ev.look 12 σ.env with | some (.int _ n) => n.toNat | _ => 0)) ?_ ?_
 ·simp only [go_sem, evP_D, evD_guard, evD_cons, evD_zero, evD_nil]
  exact ⟨0, ⟨Nat.zero_le _, rfl⟩, rfl⟩
 ·rintro σ ⟨k, ⟨hk, hpre⟩, rfl⟩
  by_cases hlt : k < l.length
  case neg =>
   have hk' : k = l.length := by omega
   subst hk'
   have hlt' : ¬ ((l.length : Int) < l.length) := by omega
   simp (disch := (first | omega | assumption)) only [hlt', hpre, go_sem, evP_D, evD_guard, evD_cons, evD_zero, evD_nil]
  have hlt' : (k : Int) < l.length := by omega
  obtain ⟨p, hp⟩ : ∃ p, l[k]? = some p := ⟨_, List.getElem?_eq_getElem hlt⟩
  have hg := plV_get hp
  have hsz := hks p (List.mem_of_getElem? hp)
  have hst := plE_step keyOk' codeOk hpre hp
  have hfin := fun (h : plE keyOk' codeOk l (k + 1) ≠ 0) => plE_fin keyOk' codeOk (show k + 1 ≤ l.length by omega) h
  have hone := fun (x : Int) (hx : x ≠ 0) (ho : oneE keyOk' codeOk p = x) => (show plE keyOk' codeOk l l.length = x by
   rw [ho, if_neg hx] at hst
   rw [hfin (by rw [hst]; exact hx), hst])
  have hms : l.length - ((k : Int) + 1).toNat < l.length - (k : Int).toNat := by
   have e3 : ((k : Int) + 1).toNat = k + 1 := by omega
   rw [e3, Int.toNat_natCast]; omega
  by_cases hbk : badKey keyOk' p
  ·rw [hone 3 (by omega) (if_pos hbk)]
   cases h1 : keyOk' p.key with
   | false => simp (disch := (first | omega | assumption)) only [hlt', idx_nat, List.length_map, hg, rkF_eq hsz, h1, go_sem, evP_D, evD_guard, evD_cons, evD_zero, evD_nil]
   | true =>
    by_cases h2 : (9 : Int) < p.key.size
    ·simp (disch := (first | omega | assumption)) only [hlt', idx_nat, List.length_map, hg, rkF_eq hsz, h1, h2, go_sem, evP_D, evD_guard, evD_cons, evD_zero, evD_nil]
    ·have h3 : Lib.indexByte p.key.data.toList 45 ≥ 0 := by
      rcases hbk with h | h | h
      ·rw [h1] at h; cases h
      ·omega
      ·exact of_decide_eq_true h
     simp (disch := (first | omega | assumption)) only [hlt', idx_nat, List.length_map, hg, rkF_eq hsz, h1, h2, ixdF_eq, h3, go_sem, evP_D, evD_guard, evD_cons, evD_zero, evD_nil]
  have hk1 : keyOk' p.key = true := by
   cases h : keyOk' p.key with
   | true => rfl
   | false => exact absurd (.inl h) hbk
  have hk2 : ¬ (9 : Int) < p.key.size := fun h => hbk (.inr (.inl (by omega)))
  have hk3 : ¬ Lib.indexByte p.key.data.toList 45 ≥ 0 := fun h => hbk (.inr (.inr (decide_eq_true h)))
  by_cases hn : badNum p
  ·rw [hone 1 (by omega) (by unfold oneE; rw [if_neg hbk, if_pos hn])]
   by_cases k1 : 0 ≤ p.kind ∧ p.kind ≤ 1
   case neg =>
    have k1' : decide (0 ≤ p.kind ∧ p.kind ≤ 1) = false := decide_eq_false k1
    simp (disch := (first | omega | assumption)) only [hlt', idx_nat, List.length_map, hg, rkF_eq hsz, hk1, hk2, ixdF_eq, hk3, withinF_eq, k1', go_sem, evP_D, evD_guard, evD_cons, evD_zero, evD_nil]
   by_cases k2 : 0 ≤ p.at_ ∧ p.at_ ≤ 292193
   case neg =>
    have k2' : decide (0 ≤ p.at_ ∧ p.at_ ≤ 292193) = false := decide_eq_false k2
    simp (disch := (first | omega | assumption)) only [hlt', idx_nat, List.length_map, hg, rkF_eq hsz, hk1, hk2, ixdF_eq, hk3, withinF_eq, dayF_eq, k1, and_self, k2', go_sem, evP_D, evD_guard, evD_cons, evD_zero, evD_nil]
   by_cases k3 : 0 ≤ p.amt ∧ p.amt ≤ 1000000000000
   case neg =>
    have k3' : decide (0 ≤ p.amt ∧ p.amt ≤ 1000000000000) = false := decide_eq_false k3
    simp (disch := (first | omega | assumption)) only [hlt', idx_nat, List.length_map, hg, rkF_eq hsz, hk1, hk2, ixdF_eq, hk3, withinF_eq, dayF_eq, k1, k2, and_self, k3', go_sem, evP_D, evD_guard, evD_cons, evD_zero, evD_nil]
   have k4' : decide (1 ≤ p.num ∧ p.num ≤ 40) = false := decide_eq_false fun h => by
    unfold badNum at hn
    rcases hn with h' | h' | h' | h'
    ·exact h' k1
    ·exact h' k2
    ·exact h' k3
    ·exact h' h
   simp (disch := (first | omega | assumption)) only [hlt', idx_nat, List.length_map, hg, rkF_eq hsz, hk1, hk2, ixdF_eq, hk3, withinF_eq, dayF_eq, k1, k2, k3, and_self, k4', go_sem, evP_D, evD_guard, evD_cons, evD_zero, evD_nil]
  have k1 : 0 ≤ p.kind ∧ p.kind ≤ 1 := Classical.byContradiction fun h => hn (.inl h)
  have k2 : 0 ≤ p.at_ ∧ p.at_ ≤ 292193 := Classical.byContradiction fun h => hn (.inr (.inl h))
  have k3 : 0 ≤ p.amt ∧ p.amt ≤ 1000000000000 := Classical.byContradiction fun h => hn (.inr (.inr (.inl h)))
  have k4 : 1 ≤ p.num ∧ p.num ≤ 40 := Classical.byContradiction fun h => hn (.inr (.inr (.inr h)))
  by_cases hc : badCode codeOk p
  ·rw [hone 3 (by omega) (by unfold oneE; rw [if_neg hbk, if_neg hn, if_pos hc])]
   cases h1 : codeOk p.deb with
   | false => simp (disch := (first | omega | assumption)) only [hlt', idx_nat, List.length_map, hg, rkF_eq hsz, hk1, hk2, ixdF_eq, hk3, withinF_eq, dayF_eq, k1, k2, k3, k4, and_self, codeF_eq, h1, go_sem, evP_D, evD_guard, evD_cons, evD_zero, evD_nil]
   | true =>
    cases h2 : codeOk p.cre with
    | false => simp (disch := (first | omega | assumption)) only [hlt', idx_nat, List.length_map, hg, rkF_eq hsz, hk1, hk2, ixdF_eq, hk3, withinF_eq, dayF_eq, k1, k2, k3, k4, and_self, codeF_eq, h1, h2, go_sem, evP_D, evD_guard, evD_cons, evD_zero, evD_nil]
    | true =>
     have h4 : decide (p.deb = p.cre) = true := decide_eq_true (by
      rcases hc with h | h | h
      ·rw [h1] at h; cases h
      ·rw [h2] at h; cases h
      ·exact h)
     simp (disch := (first | omega | assumption)) only [hlt', idx_nat, List.length_map, hg, rkF_eq hsz, hk1, hk2, ixdF_eq, hk3, withinF_eq, dayF_eq, k1, k2, k3, k4, and_self, codeF_eq, h1, h2, bin_eql_str, h4, go_sem, evP_D, evD_guard, evD_cons, evD_zero, evD_nil]
  have c1 : codeOk p.deb = true := by
   cases h : codeOk p.deb with
   | true => rfl
   | false => exact absurd (.inl h) hc
  have c2 : codeOk p.cre = true := by
   cases h : codeOk p.cre with
   | true => rfl
   | false => exact absurd (.inr (.inl h)) hc
  have c3 : decide (p.deb = p.cre) = false := decide_eq_false fun h => hc (.inr (.inr h))
  have ha := rdaF_eq (n := p.at_) (k := p.num - 1) (by omega)
  by_cases hm : Cal.add p.at_ (p.num - 1) < 0
  ·rw [hone 2 (by omega) (by unfold oneE; rw [if_neg hbk, if_neg hn, if_neg hc, if_pos hm])]
   simp (disch := (first | omega | assumption)) only [hlt', idx_nat, List.length_map, hg, rkF_eq hsz, hk1, hk2, ixdF_eq, hk3, withinF_eq, dayF_eq, k1, k2, k3, k4, and_self, codeF_eq, c1, c2, bin_eql_str, c3, ha, hm, go_sem, evP_D, evD_guard, evD_cons, evD_zero, evD_nil]
  have ho : oneE keyOk' codeOk p = 0 := by unfold oneE; rw [if_neg hbk, if_neg hn, if_neg hc, if_neg hm]
  rw [if_pos ho, ← keysP_has] at hst
  have hfi := find_set p.key (keysP l k)
  cases hcs : hasC p.key (keysP l k) with
  | true =>
   rw [hcs, if_pos rfl] at hfi hst
   have hR : plE keyOk' codeOk l l.length = 5 := by rw [hfin (by omega), hst]
   rw [hR]
   simp (disch := (first | omega | assumption)) only [hlt', idx_nat, List.length_map, hg, rkF_eq hsz, hk1, hk2, ixdF_eq, hk3, withinF_eq, dayF_eq, k1, k2, k3, k4, and_self, codeF_eq, c1, c2, bin_eql_str, c3, ha, hm, hfi, go_sem, evP_D, evD_guard, evD_cons, evD_zero, evD_nil]
  | false =>
   rw [hcs, if_neg (by simp)] at hfi hst
   have hup := upd_set p.key (keysP l k) hcs
   rw [← keysP_succ hp] at hup
   simp (disch := (first | omega | assumption)) only [hlt', idx_nat, List.length_map, hg, rkF_eq hsz, hk1, hk2, ixdF_eq, hk3, withinF_eq, dayF_eq, k1, k2, k3, k4, and_self, codeF_eq, c1, c2, bin_eql_str, c3, ha, hm, hfi, hup, go_sem, evP_D, evD_guard, evD_cons, evD_zero, evD_nil]
   exact ⟨⟨k + 1, ⟨hlt, hst⟩, rfl⟩, hms⟩
end Go.Proofs.YtdmkmbaaemhhhaaGreatDoor
end
section
namespace Go.Proofs.YtdmkmbaaemhhhaaGreatDoor
open Go Go.Ev Go.RowKit Go.Job Go.Acc
set_option maxHeartbeats 4000000
theorem digB_fin : ∀ n : Fin 10, digB n.val = ⟨#[(48 + n.val).toUInt8]⟩ := by decide +kernel
theorem digB_eq {n : Nat} (h : n < 10) : digB n = ⟨#[(48 + n).toUInt8]⟩ := digB_fin ⟨n, h⟩
theorem dig2_eq {k : Nat} (h : k < 100) : digB (k / 10) ++ digB (k % 10) = dig2 k := by
 rw [digB_eq (show k / 10 < 10 by omega), digB_eq (show k % 10 < 10 by omega)]
 rfl
theorem size_cat (x y : ByteArray) : (x ++ y).size = x.size + y.size := ByteArray.size_append
theorem size_dash : ByteArray.size (⟨#[45]⟩ : ByteArray) = 1 := rfl
theorem size_digB {n : Nat} (h : n < 10) : (digB n).size = 1 := by rw [digB_eq h]; rfl
theorem partL_len {p : Pl} (h : 1 ≤ p.num ∧ p.num ≤ 40) : ((partL p).length : Int) = p.num := by
 unfold partL
 rw [steps_len]
 omega
theorem partF_1 {p : Pl} (h : p.kind = 1) : partF p = lnD p.amt p.num := by funext k; unfold partF; rw [if_pos h]
theorem partF_0 {p : Pl} (h : ¬ p.kind = 1) : partF p = lnS p.amt p.num := by funext k; unfold partF; rw [if_neg h]
theorem jparts_sound {J : World → Prop} (hJ : Stable J) (p : Pl) (h : PlOk keyOk' codeOk p) : SoundAt Tryz.prog J 109 [plV p] (.vec 0) [.vec 3 1 ((partL p).map (V.int .i64))] := by
 obtain ⟨n, hn⟩ : ∃ n : Nat, p.num = n := ⟨p.num.toNat, by have := h.num; omega⟩
 have hb := h.num
 have ha := h.amt
 have hk := h.kind
 have hD := digits_sound hJ p.amt 0 n (by omega) (by omega) (by omega) (by omega) (by omega)
 have hS := straight_sound hJ p.amt 0 n (by omega) (by omega) (by omega) (by omega) (by omega)
 rw [Int.sub_zero] at hD hS
 unfold plV
 by_cases h1 : p.kind = 1
 ·have e : partL p = steps (lnD p.amt n) n := by unfold partL; rw [partF_1 h1, hn, Int.toNat_natCast]
  rw [e]
  refine evFn (l := [(165, at1 _ (_, [.vec 3 1 ((steps (lnD p.amt n) n).map (V.int .i64))]))]) (nv := nv0) (fz := fz0) (dr := dr109) (dd := dd109) (lam := []) (ms := ms0) ⟨at1_snd hD, trivial⟩ hJ trivial ms0_ok Tryz.func109 rfl rfl (Nat.le_of_ble_eq_true rfl) (Nat.le_of_ble_eq_true rfl) drOk109 ?_
  dsimp only [Tryz.f109, dr109, dd109, Option.getD_some]
  refine ev_start ?_
  simp (disch := omega) only [at1_eq, h1, hn, go_sem, evP_D, evD_guard, evD_cons, evD_zero, evD_nil]
 ·have e : partL p = steps (lnS p.amt n) n := by unfold partL; rw [partF_0 h1, hn, Int.toNat_natCast]
  rw [e]
  refine evFn (l := [(166, at1 _ (_, [.vec 3 1 ((steps (lnS p.amt n) n).map (V.int .i64))]))]) (nv := nv0) (fz := fz0) (dr := dr109) (dd := dd109) (lam := []) (ms := ms0) ⟨at1_snd hS, trivial⟩ hJ trivial ms0_ok Tryz.func109 rfl rfl (Nat.le_of_ble_eq_true rfl) (Nat.le_of_ble_eq_true rfl) drOk109 ?_
  dsimp only [Tryz.f109, dr109, dd109, Option.getD_some]
  refine ev_start ?_
  simp (disch := omega) only [at1_eq, h1, hn, go_sem, evP_D, evD_guard, evD_cons, evD_zero, evD_nil]
def rdgF : List V → Option (V × List Ev.Blk)
 | [.int .i64 n, .int .i64 k] => if (1 ≤ n ∧ n ≤ 40) ∧ 0 ≤ k ∧ k ≤ n then some (.int .i64 (lnG n k), []) else none
 | _ => none
theorem rdgF_eq {n k : Int} (h : (1 ≤ n ∧ n ≤ 40) ∧ 0 ≤ k ∧ k ≤ n) : rdgF [.int .i64 n, .int .i64 k] = some (.int .i64 (lnG n k), []) := if_pos h
theorem rdg_snd {J : World → Prop} (hJ : Stable J) : Snd Tryz.prog J 176 rdgF := by
 intro args r bs h
 unfold rdgF at h
 split at h
 ·split at h
  ·rename_i n k hc
   obtain ⟨rfl, rfl⟩ := some_pair h
   obtain ⟨m, rfl⟩ : ∃ m : Nat, k = m := ⟨k.toNat, by omega⟩
   obtain ⟨n, rfl⟩ : ∃ m : Nat, n = m := ⟨n.toNat, by omega⟩
   refine evFn (l := []) (nv := nv0) (fz := fz0) (dr := dr176) (dd := dd176) (lam := []) (ms := ms0) trivial hJ trivial ms0_ok Tryz.func176 rfl rfl (Nat.le_of_ble_eq_true rfl) (Nat.le_of_ble_eq_true rfl) drOk176 ?_
   dsimp only [Tryz.f176, dr176, dd176, Option.getD_some]
   refine ev_start ?_
   simp (disch := omega) only [go_sem, evP_D, evD_guard, evD_cons, evD_zero, evD_nil]
   refine evQ_loop [0, 1, 5, 6] [] (fun σ => ∃ (j : Nat), j ≤ m ∧ σ = ⟨[(0, .int .i64 n), (1, .int .i64 m), (5, .int .i64 (lnG n j)), (6, .int .i64 ((n : Int) - j))], []⟩)
    (fun σ => (match Ev.look 6 σ.env with | some (.int _ n) => n.toNat | _ => 0)) ?_ ?_
   ·simp only [go_sem, evP_D, evD_guard, evD_cons, evD_zero, evD_nil]
    exact ⟨0, Nat.zero_le _, by rw [show ((0 : Nat) : Int) = 0 from rfl, lnG_0, Int.sub_zero]⟩
   ·rintro σ ⟨j, hj, rfl⟩
    have hg0 := lnG_bd (n := n) j (by omega)
    have hg1 := lnG_le (n := n) (n - j) j (by omega)
    have hT := lnT_bd (n := n) (by omega) (by omega)
    by_cases hlt : j < m
    ·have hlt' : (n : Int) - j > (n : Int) - m := by omega
     have hlt2 : (n : Int) - m < (n : Int) - j := by omega
     simp (disch := omega) only [hlt', hlt2, go_sem, evP_D, evD_guard, evD_cons, evD_zero, evD_nil]
     exact ⟨⟨j + 1, hlt, by rw [show ((j + 1 : Nat) : Int) = (j : Int) + 1 by omega, lnG_step, show (n : Int) - ((j : Int) + 1) = (n : Int) - j - 1 by omega]⟩, by omega⟩
    ·have hj' : j = m := by omega
     subst hj'
     have hlt2 : ¬ (n : Int) - j < (n : Int) - j := by omega
     simp (disch := omega) only [hlt2, go_sem, evP_D, evD_guard, evD_cons, evD_zero, evD_nil]
  ·cases h
 ·cases h
def rp1C (p : Pl) : List V := [.rd (plV p) 0]
theorem rp1_sound {J : World → Prop} (hJ : Stable J) (p : Pl) (h : PlOk keyOk' codeOk p) (k : Nat) (hk : (k : Int) ≤ p.num) : SoundAt Tryz.prog J 174 (.int .i64 k :: rp1C p) (.int .i64 (partF p k)) [] := by
 obtain ⟨n, hn⟩ : ∃ n : Nat, p.num = n := ⟨p.num.toNat, by have := h.num; omega⟩
 have hb := h.num
 have ha := h.amt
 unfold rp1C plV
 rw [hn] at hk hb ⊢
 have hT := lnT_bd (n := n) (by omega) (by omega)
 have hg0 := lnG_bd (n := n) k (by omega)
 have hg1 := lnG_le (n := n) (n - k) k (by omega)
 have m1 := lnm_bd (D := p.amt) (k := lnG n k) (by omega) (by omega) hg0 (by omega)
 have m2 := lnm_bd (D := p.amt) (k := k) (by omega) (by omega) (by omega) (by omega)
 have d1 := rdgF_eq (n := n) (k := k) (by omega)
 have d2 := rdgF_eq (n := n) (k := n) (by omega)
 rw [lnG_n] at d2
 by_cases h1 : p.kind = 1
 ·have e : partF p k = lnD p.amt n k := by rw [partF_1 h1, hn]
  rw [e]
  have hr : rndF [.int .i64 (p.amt * lnG n k), .int .i64 (lnT n), .int .i64 2] = some (.int .i64 (lnD p.amt n k), []) := rndF_eq (by omega)
  refine evFn (l := [(176, rdgF), (175, rndF)]) (nv := nv0) (fz := fz0) (dr := dr174) (dd := dd174) (lam := []) (ms := ms0) ⟨rdg_snd hJ, rround_snd, trivial⟩ hJ trivial ms0_ok Tryz.func174 rfl rfl (Nat.le_of_ble_eq_true rfl) (Nat.le_of_ble_eq_true rfl) drOk174 ?_
  dsimp only [Tryz.f174, dr174, dd174, Option.getD_some]
  refine ev_start ?_
  simp (disch := omega) only [h1, d1, d2, hr, go_sem, evP_D, evD_guard, evD_cons, evD_zero, evD_nil]
 ·have e : partF p k = lnS p.amt n k := by rw [partF_0 h1, hn]
  rw [e]
  have hr : rndF [.int .i64 (p.amt * k), .int .i64 n, .int .i64 2] = some (.int .i64 (lnS p.amt n k), []) := rndF_eq (by omega)
  refine evFn (l := [(176, rdgF), (175, rndF)]) (nv := nv0) (fz := fz0) (dr := dr174) (dd := dd174) (lam := []) (ms := ms0) ⟨rdg_snd hJ, rround_snd, trivial⟩ hJ trivial ms0_ok Tryz.func174 rfl rfl (Nat.le_of_ble_eq_true rfl) (Nat.le_of_ble_eq_true rfl) drOk174 ?_
  dsimp only [Tryz.f174, dr174, dd174, Option.getD_some]
  refine ev_start ?_
  simp (disch := omega) only [h1, hr, go_sem, evP_D, evD_guard, evD_cons, evD_zero, evD_nil]
theorem rparts_sound {J : World → Prop} (hJ : Stable J) (p : Pl) (h : PlOk keyOk' codeOk p) : SoundAt Tryz.prog J 113 [plV p] (.vec 0) [.vec 3 1 ((partL p).map (V.int .i64))] := by
 obtain ⟨n, hn⟩ : ∃ n : Nat, p.num = n := ⟨p.num.toNat, by have := h.num; omega⟩
 have hb := h.num
 have ha := h.amt
 obtain ⟨G, hG, sG⟩ := famj (P := Tryz.prog) (J := J) (f := 174) (fun k : { k : Nat // (k : Int) ≤ p.num } => .int .i64 k.1 :: rp1C p) (fun k => (.int .i64 (partF p k.1), [])) (fun i j hij => by
  simp only [List.cons.injEq, V.int.injEq, true_and, and_true] at hij
  rw [hij]) fun k => rp1_sound hJ p h k.1 k.2
 have hP := parted_sound hJ 174 (rp1C p) G sG (by simp [rp1C, V.dataL, V.data, plV]) (partF p) n (by omega) (fun k hk => hG ⟨k, by omega⟩) (fun k hk => by
  by_cases h1 : p.kind = 1
  ·rw [partF_1 h1, hn]
   have := lnD_bd (D := p.amt) (n := n) (k := k) (by omega) (by omega) (by omega) (by omega)
   omega
  ·rw [partF_0 h1, hn]
   have := lnS_bd (D := p.amt) (n := n) (k := k) (by omega) (by omega) (by omega) (by omega)
   omega)
 have e : partL p = steps (partF p) n := by unfold partL; rw [hn, Int.toNat_natCast]
 rw [e]
 unfold rp1C at hP
 unfold plV at hP ⊢
 refine evFn (l := [(173, at1 _ (_, [.vec 3 1 ((steps (partF p) n).map (V.int .i64))]))]) (nv := nv0) (fz := fz0) (dr := dr113) (dd := dd113) (lam := []) (ms := ms0) ⟨at1_snd hP, trivial⟩ hJ trivial ms0_ok Tryz.func113 rfl rfl (Nat.le_of_ble_eq_true rfl) (Nat.le_of_ble_eq_true rfl) drOk113 ?_
 dsimp only [Tryz.f113, dr113, dd113, Option.getD_some]
 refine ev_start ?_
 simp (disch := omega) only [at1_eq, hn, List.mapM_cons, List.mapM_nil, Option.bind_eq_bind, Option.pure_def, Option.bind_some, go_sem, evP_D, evD_guard, evD_cons, evD_zero, evD_nil]
end Go.Proofs.YtdmkmbaaemhhhaaGreatDoor
end
