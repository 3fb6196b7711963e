/-
  Entries, run by the machine: turned ones, and whether two are the same.
-/
import Derived.Test.YtdmkmbaaemhhhaaGreatDoorL17
set_option linter.unusedVariables false
set_option linter.unusedSimpArgs false
namespace Go.Proofs.YtdmkmbaaemhhhaaGreatDoor
open Go Go.Ev Go.RowKit Go.Acc
set_option maxHeartbeats 4000000
def eqLF : List V → Option (V × List Blk)
 | [x, y] => match rowAc x, rowAc y with
  | some xs, some ys => some (.bool (decide (xs = ys)), [])
  | _, _ => none
 | _ => none
theorem eqL_sound {J : World → Prop} (hJ : Stable J) (xs ys : List (ByteArray × Int)) : SoundAt Tryz.prog J 43 [.row 2 (xs.map acV), .row 2 (ys.map acV)] (.bool (decide (xs = ys))) [] := by
 refine SoundAt.row 0 rfl (callOk Tryz.func43 rfl rfl) fun hx => ?_
 simp only [maxLen, List.length_map] at hx
 refine SoundAt.row 1 rfl (callOk Tryz.func43 rfl rfl) fun hy => ?_
 simp only [maxLen, List.length_map] at hy
 refine evFn (l := []) (nv := nv0) (fz := fz0) (dr := dr43) (dd := dd43) (lam := []) (ms := ms0) trivial hJ trivial ms0_ok Tryz.func43 rfl rfl (Nat.le_of_ble_eq_true rfl) (Nat.le_of_ble_eq_true rfl) drOk43 ?_
 dsimp only [Tryz.f43, dr43, dd43, Option.getD_some]
 refine ev_start ?_
 by_cases hl : xs.length = ys.length
 ·have hl' : (xs.length : Int) = ys.length := by omega
  simp (disch := omega) only [hl', go_sem, evP_D, evD_guard, evD_cons, evD_zero, evD_nil]
  refine evQ_loop [0, 1, 12, 13] [] (fun σ => ∃ k : Nat, (k ≤ xs.length ∧ ∀ i, i < k → xs[i]? = ys[i]?) ∧ σ = ⟨[(0, .row 2 (xs.map acV)), (1, .row 2 (ys.map acV)), (12, .int .i64 ys.length), (13, .int .i64 k)], []⟩) (fun σ => xs.length - (match Ev.look 13 σ.env with | some (.int _ n) => n.toNat | _ => 0)) ?_ ?_
  ·simp only [go_sem, evP_D, evD_guard, evD_cons, evD_zero, evD_nil]
   exact ⟨0, ⟨Nat.zero_le _, fun _ h => by omega⟩, rfl⟩
  ·rintro σ ⟨k, ⟨hk, hall⟩, rfl⟩
   by_cases hlt : k < xs.length
   ·have hlt' : (k : Int) < ys.length := by omega
    have hk1 : k < ys.length := by omega
    obtain ⟨⟨c, n⟩, hcn⟩ : ∃ p, xs[k]? = some p := ⟨_, List.getElem?_eq_getElem hlt⟩
    obtain ⟨⟨c', n'⟩, hcn'⟩ : ∃ p, ys[k]? = some p := ⟨_, List.getElem?_eq_getElem hk1⟩
    have g1 := acV_get hcn
    have g2 := acV_get hcn'
    have hne : ¬ (c = c' ∧ n = n') → decide (xs = ys) = false := fun h => decide_eq_false fun e => h (by
     subst e
     rw [hcn] at hcn'
     cases hcn'
     exact ⟨rfl, rfl⟩)
    by_cases hc : c = c'
    ·by_cases hn : n = n'
     ·subst hc
      subst hn
      simp (disch := (first | omega | assumption)) only [hlt', idx_nat, List.length_map, g1, g2, str_eq, decide_true, go_sem, evP_D, evD_guard, evD_cons, evD_zero, evD_nil]
      exact ⟨⟨k + 1, ⟨hlt, fun i hi => by
       by_cases e : i = k
       ·subst e; rw [hcn, hcn']
       ·exact hall i (by omega)⟩, rfl⟩, by
       have e3 : ((k : Int) + 1).toNat = k + 1 := by omega
       rw [e3, Int.toNat_natCast]; exact Nat.sub_lt_sub_left hlt (Nat.lt_succ_self k)⟩
     ·have hne' := hne fun h => hn h.2
      subst hc
      simp (disch := (first | omega | assumption)) only [hlt', idx_nat, List.length_map, g1, g2, str_eq, hn, hne', decide_true, go_sem, evP_D, evD_guard, evD_cons, evD_zero, evD_nil]
    ·have hne' := hne fun h => hc h.1
     simp (disch := (first | omega | assumption)) only [hlt', idx_nat, List.length_map, g1, g2, str_eq, hc, hne', go_sem, evP_D, evD_guard, evD_cons, evD_zero, evD_nil]
   ·have hlt' : ¬ ((k : Int) < ys.length) := by omega
    have heq : xs = ys := List.ext_getElem? fun i => by
     by_cases hi : i < k
     ·exact hall i hi
     ·rw [List.getElem?_eq_none (by omega), List.getElem?_eq_none (by omega)]
    have : decide (xs = ys) = true := decide_eq_true heq
    simp (disch := (first | omega | assumption)) only [hlt', this, go_sem, evP_D, evD_guard, evD_cons, evD_zero, evD_nil]
 ·have hl' : ¬ (xs.length : Int) = ys.length := by omega
  have hne : decide (xs = ys) = false := decide_eq_false fun h => hl (by rw [h])
  simp (disch := omega) only [hl', hne, go_sem, evP_D, evD_guard, evD_cons, evD_zero, evD_nil]
theorem eqL_snd {J : World → Prop} (hJ : Stable J) : Snd Tryz.prog J 43 eqLF := by
 intro args r bs h
 unfold eqLF at h
 split at h
 ·rename_i x y
  split at h
  ·rename_i xs ys hx hy
   obtain ⟨rfl, rfl⟩ := some_pair h
   exact sound_by (eqL_sound hJ xs ys) rfl fun w ok j c v hc hv => by
    match j with
    | 0 => simp at hc; subst hc; exact ⟨_, rfl, rowAc_rel hx hv⟩
    | 1 => simp at hc; subst hc; exact ⟨_, rfl, rowAc_rel hy hv⟩
    | j + 2 => simp at hc
  ·cases h
 ·cases h
theorem eqLF_rows (xs ys : List (ByteArray × Int)) : eqLF [.row 2 (xs.map acV), .row 2 (ys.map acV)] = some (.bool (decide (xs = ys)), []) := by simp only [eqLF, rowAc_row]
theorem same_sound {J : World → Prop} (hJ : Stable J) (k : ByteArray) (d : Int) (L M : V) (l : List (ByteArray × Int)) (hL : rowAc L = some l) (hM : rowAc M = some l) : SoundAt Tryz.prog J 13 [.agg [.str k, .int .i64 d, .row 2 (l.map acV)], .agg [.str k, .int .i64 d, .row 2 (l.map acV)]] (.bool true) [] := by
 refine evFn (l := [(43, eqLF)]) (nv := nv0) (fz := fz0) (dr := dr13) (dd := dd13) (lam := []) (ms := ms0) ⟨eqL_snd hJ, trivial⟩ hJ trivial ms0_ok Tryz.func13 rfl rfl (Nat.le_of_ble_eq_true rfl) (Nat.le_of_ble_eq_true rfl) drOk13 ?_
 dsimp only [Tryz.f13, dr13, dd13, Option.getD_some]
 refine ev_start ?_
 simp (disch := omega) only [eqLF_rows, bin_eql_str, decide_true, go_sem, evP_D, evD_guard, evD_cons, evD_zero, evD_nil]
noncomputable def sameF : List V → Option (V × List Blk)
 | [.agg [.str k, .int .i64 d, L], .agg [.str k', .int .i64 d', M]] => open Classical in if (k = k' ∧ d = d') ∧ ∃ l, rowAc L = some l ∧ rowAc M = some l then some (.bool true, []) else none
 | _ => none
theorem same_snd {J : World → Prop} (hJ : Stable J) : Snd Tryz.prog J 13 sameF := by
 intro args r bs h
 unfold sameF at h
 split at h
 ·rename_i k d L k' d' M
  split at h
  ·rename_i hc
   obtain ⟨rfl, rfl⟩ := some_pair h
   obtain ⟨⟨rfl, rfl⟩, l, hL, hM⟩ := hc
   exact sound_by (same_sound hJ k d L M l hL hM) rfl fun w ok j c v hc hv => by
    match j with
    | 0 => simp at hc; subst hc; exact ⟨_, rfl, enV_rel hL hv⟩
    | 1 => simp at hc; subst hc; exact ⟨_, rfl, enV_rel hM hv⟩
    | j + 2 => simp at hc
  ·cases h
 ·cases h
theorem sameF_eq {k : ByteArray} {d : Int} {L M : V} {l : List (ByteArray × Int)} (hL : rowAc L = some l) (hM : rowAc M = some l) : sameF [.agg [.str k, .int .i64 d, L], .agg [.str k, .int .i64 d, M]] = some (.bool true, []) := by
 simp only [sameF]
 exact if_pos ⟨⟨trivial, trivial⟩, l, hL, hM⟩
end Go.Proofs.YtdmkmbaaemhhhaaGreatDoor
