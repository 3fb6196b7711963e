/-
  Steps of the proof of ClosingSays: EnH EnI.
-/
import Derived.Test.YtdmkmbaaemhhhaaGreatDoorC12
set_option linter.unusedVariables false
set_option linter.unusedSimpArgs false
section
namespace Go.Proofs.YtdmkmbaaemhhhaaGreatDoor
open Go Go.Ev Go.RowKit Go.Acc
set_option maxHeartbeats 4000000
def turnL (l : List (ByteArray × Int)) : List (ByteArray × Int) := l.map fun p => (p.1, 0 - p.2)
def ozV : V := .agg [.str ByteArray.empty, .int .i64 0, .zero]
def eqLF : List V → Option (V × List Ev.Blk)
 | [x, y] => match rowAc x, rowAc y with
  | some xs, some ys => some (.bool (decide (xs = ys)), [])
  | _, _ => none
 | _ => none
theorem eqL_sound {J : World → Prop} (hJ : Stable J) (xs ys : List (ByteArray × Int)) : SoundAt Tryz.prog J 43 [.row 2 (xs.map acV), .row 2 (ys.map acV)] (.bool (decide (xs = ys))) [] := by
 refine SoundAt.row 0 rfl (callOk Tryz.func43 rfl rfl) fun hx => ?_
 simp only [maxLen, List.length_map] at hx
 refine SoundAt.row 1 rfl (callOk Tryz.func43 rfl rfl) fun hy => ?_
 simp only [maxLen, List.length_map] at hy
 refine evFn (l := []) (nv := nv0) (fz := fz0) (dr := dr43) (dd := dd43) (lam := []) (ms := ms0) trivial hJ trivial ms0_ok Tryz.func43 rfl rfl (Nat.le_of_ble_eq_true rfl) (Nat.le_of_ble_eq_true rfl) drOk43 ?_
 dsimp only [Tryz.f43, dr43, dd43, Option.getD_some]
 refine ev_start ?_
 by_cases hl : xs.length = ys.length
 ·have hl' : (xs.length : Int) = ys.length := by omega
  simp (disch := omega) only [hl', go_sem, evP_D, evD_guard, evD_cons, evD_zero, evD_nil]
  refine evQ_loop [0, 1, 12, 13] [] (fun σ => ∃ k : Nat, (k ≤ xs.length ∧ ∀ i, i < k → xs[i]? = ys[i]?) ∧ σ = ⟨[(0, .row 2 (xs.map acV)), (1, .row 2 (ys.map acV)), (12, .int .i64 ys.length), (13, .int .i64 k)], []⟩) (fun σ => xs.length - (match Ev.look 13 σ.env with | some (.int _ n) => n.toNat | _ => 0)) ?_ ?_
  ·simp only [go_sem, evP_D, evD_guard, evD_cons, evD_zero, evD_nil]
   exact ⟨0, ⟨Nat.zero_le _, fun _ h => by omega⟩, rfl⟩
  ·rintro σ ⟨k, ⟨hk, hall⟩, rfl⟩
   by_cases hlt : k < xs.length
   ·have hlt' : (k : Int) < ys.length := by omega
    have hk1 : k < ys.length := by omega
    obtain ⟨⟨c, n⟩, hcn⟩ : ∃ p, xs[k]? = some p := ⟨_, List.getElem?_eq_getElem hlt⟩
    obtain ⟨⟨c', n'⟩, hcn'⟩ : ∃ p, ys[k]? = some p := ⟨_, List.getElem?_eq_getElem hk1⟩
    have g1 := acV_get hcn
    have g2 := acV_get hcn'
    have hne : ¬ (c = c' ∧ n = n') → decide (xs = ys) = false := fun h => decide_eq_false fun e => h (by
     subst e
     rw [hcn] at hcn'
     cases hcn'
     exact ⟨rfl, rfl⟩)
    by_cases hc : c = c'
    ·by_cases hn : n = n'
     ·subst hc
      subst hn
      simp (disch := (first | omega | assumption)) only [hlt', idx_nat, List.length_map, g1, g2, str_eq, decide_true, go_sem, evP_D, evD_guard, evD_cons, evD_zero, evD_nil]
      exact ⟨⟨k + 1, ⟨hlt, fun i hi => by
       by_cases e : i = k
       ·subst e; rw [hcn, hcn']
       ·exact hall i (by omega)⟩, rfl⟩, by
       have e3 : ((k : Int) + 1).toNat = k + 1 := by omega
       rw [e3, Int.toNat_natCast]; exact Nat.sub_lt_sub_left hlt (Nat.lt_succ_self k)⟩
     ·have hne' := hne fun h => hn h.2
      subst hc
      simp (disch := (first | omega | assumption)) only [hlt', idx_nat, List.length_map, g1, g2, str_eq, hn, hne', decide_true, go_sem, evP_D, evD_guard, evD_cons, evD_zero, evD_nil]
    ·have hne' := hne fun h => hc h.1
     simp (disch := (first | omega | assumption)) only [hlt', idx_nat, List.length_map, g1, g2, str_eq, hc, hne', go_sem, evP_D, evD_guard, evD_cons, evD_zero, evD_nil]
   ·have hlt' : ¬ ((k : Int) < ys.length) := by omega
    have heq : xs = ys := List.ext_getElem? fun i => by
     by_cases hi : i < k
     ·exact hall i hi
     ·rw [List.getElem?_eq_none (by omega), List.getElem?_eq_none (by omega)]
    have : decide (xs = ys) = true := decide_eq_true heq
    simp (disch := (first | omega | assumption)) only [hlt', this, go_sem, evP_D, evD_guard, evD_cons, evD_zero, evD_nil]
 ·have hl' : ¬ (xs.length : Int) = ys.length := by omega
  have hne : decide (xs = ys) = false := decide_eq_false fun h => hl (by rw [h])
  simp (disch := omega) only [hl', hne, go_sem, evP_D, evD_guard, evD_cons, evD_zero, evD_nil]
theorem eqL_snd {J : World → Prop} (hJ : Stable J) : Snd Tryz.prog J 43 eqLF := by
 intro args r bs h
 unfold eqLF at h
 split at h
 ·rename_i x y
  split at h
  ·rename_i xs ys hx hy
   obtain ⟨rfl, rfl⟩ := some_pair h
   exact sound_by (eqL_sound hJ xs ys) rfl fun w ok j c v hc hv => by
    match j with
    | 0 => simp at hc; subst hc; exact ⟨_, rfl, rowAc_rel hx hv⟩
    | 1 => simp at hc; subst hc; exact ⟨_, rfl, rowAc_rel hy hv⟩
    | j + 2 => simp at hc
  ·cases h
 ·cases h
theorem eqLF_rows (xs ys : List (ByteArray × Int)) : eqLF [.row 2 (xs.map acV), .row 2 (ys.map acV)] = some (.bool (decide (xs = ys)), []) := by simp only [eqLF, rowAc_row]
theorem same_sound {J : World → Prop} (hJ : Stable J) (k : ByteArray) (d : Int) (L M : V) (l : List (ByteArray × Int)) (hL : rowAc L = some l) (hM : rowAc M = some l) : SoundAt Tryz.prog J 13 [.agg [.str k, .int .i64 d, .row 2 (l.map acV)], .agg [.str k, .int .i64 d, .row 2 (l.map acV)]] (.bool true) [] := by
 refine evFn (l := [(43, eqLF)]) (nv := nv0) (fz := fz0) (dr := dr13) (dd := dd13) (lam := []) (ms := ms0) ⟨eqL_snd hJ, trivial⟩ hJ trivial ms0_ok Tryz.func13 rfl rfl (Nat.le_of_ble_eq_true rfl) (Nat.le_of_ble_eq_true rfl) drOk13 ?_
 dsimp only [Tryz.f13, dr13, dd13, Option.getD_some]
 refine ev_start ?_
 simp (disch := omega) only [eqLF_rows, bin_eql_str, decide_true, go_sem, evP_D, evD_guard, evD_cons, evD_zero, evD_nil]
noncomputable def sameF : List V → Option (V × List Ev.Blk)
 | [.agg [.str k, .int .i64 d, L], .agg [.str k', .int .i64 d', M]] => open Classical in if (k = k' ∧ d = d') ∧ ∃ l, rowAc L = some l ∧ rowAc M = some l then some (.bool true, []) else none
 | _ => none
theorem same_snd {J : World → Prop} (hJ : Stable J) : Snd Tryz.prog J 13 sameF := by
 intro args r bs h
 unfold sameF at h
 split at h
 ·rename_i k d L k' d' M
  split at h
  ·rename_i hc
   obtain ⟨rfl, rfl⟩ := some_pair h
   obtain ⟨⟨rfl, rfl⟩, l, hL, hM⟩ := hc
   exact sound_by (same_sound hJ k d L M l hL hM) rfl fun w ok j c v hc hv => by
    match j with
    | 0 => simp at hc; subst hc; exact ⟨_, rfl, enV_rel hL hv⟩
    | 1 => simp at hc; subst hc; exact ⟨_, rfl, enV_rel hM hv⟩
    | j + 2 => simp at hc
  ·cases h
 ·cases h
theorem sameF_eq {k : ByteArray} {d : Int} {L M : V} {l : List (ByteArray × Int)} (hL : rowAc L = some l) (hM : rowAc M = some l) : sameF [.agg [.str k, .int .i64 d, L], .agg [.str k, .int .i64 d, M]] = some (.bool true, []) := by
 simp only [sameF]
 exact if_pos ⟨⟨trivial, trivial⟩, l, hL, hM⟩
theorem turned_bad {J : World → Prop} (hJ : Stable J) (key : ByteArray) (day : Int) (l : List (ByteArray × Int)) (k : ByteArray) (d : Int) (e : Int) (he : (if enE key day l = 0 then (if keyOk' k = false then 3 else if ¬ (0 ≤ d ∧ d ≤ 292193) then 1 else 0) else enE key day l) = e) (h0 : e ≠ 0) :
  SoundAt Tryz.prog J 51 [enV key day (.row 2 (l.map acV)), .str k, .int .i64 d] (.tup [ozV, .int .i64 e]) [] := by
 unfold enV ozV
 refine evFn (l := [(29, echeckF), (74, keyF), (47, dayF)]) (nv := nv0) (fz := fz0) (dr := dr51) (dd := dd51) (lam := []) (ms := ms0) ⟨echeck_snd hJ, key_snd hJ, is_snd hJ, trivial⟩ hJ trivial ms0_ok Tryz.func51 rfl rfl (Nat.le_of_ble_eq_true rfl) (Nat.le_of_ble_eq_true rfl) drOk51 ?_
 dsimp only [Tryz.f51, dr51, dd51, Option.getD_some]
 refine ev_start ?_
 by_cases hz : enE key day l = 0
 ·rw [if_pos hz] at he
  cases hk : keyOk' k with
  | false =>
   rw [if_pos hk] at he
   subst he
   simp (disch := omega) only [echeckF_eq, keyF_eq, hz, hk, go_sem, evP_D, evD_guard, evD_cons, evD_zero, evD_nil]
  | true =>
   rw [if_neg (by rw [hk]; simp)] at he
   by_cases hd : 0 ≤ d ∧ d ≤ 292193
   ·rw [if_neg (fun h => h hd)] at he; exact absurd he.symm h0
   ·rw [if_pos hd] at he
    subst he
    have hd' : (decide (0 ≤ d ∧ d ≤ 292193)) = false := decide_eq_false hd
    simp (disch := omega) only [echeckF_eq, keyF_eq, dayF_eq, hz, hk, hd', go_sem, evP_D, evD_guard, evD_cons, evD_zero, evD_nil]
 ·rw [if_neg hz] at he
  subst he
  simp (disch := omega) only [echeckF_eq, hz, go_sem, evP_D, evD_guard, evD_cons, evD_zero, evD_nil]
end Go.Proofs.YtdmkmbaaemhhhaaGreatDoor
end
section
namespace Go.Acc
open Go
theorem lnE_ok : ∀ (l : List (ByteArray × Int)) (seen : List ByteArray), lnE seen l = 0 → ∀ x ∈ l, -1000000000000 ≤ x.2 ∧ x.2 ≤ 1000000000000
 | [], _, _ => by simp
 | (c, n) :: l, seen, h => by
  unfold lnE at h
  by_cases h1 : codeOk c = false
  ·rw [if_pos h1] at h; omega
  rw [if_neg h1] at h
  by_cases h2 : ¬ ((-1000000000000 ≤ n ∧ n ≤ 1000000000000) ∧ n ≠ 0)
  ·rw [if_pos h2] at h; omega
  rw [if_neg h2] at h
  by_cases h3 : hasC c seen = true
  ·rw [if_pos h3] at h; omega
  rw [if_neg h3] at h
  intro x hx
  rcases List.mem_cons.1 hx with rfl | hx
  ·exact (Decidable.not_not.1 h2).1
  ·exact lnE_ok l _ h x hx
theorem lnChk_ok {l : List (ByteArray × Int)} (h : lnChk l = 0) : 2 ≤ l.length ∧ l.length ≤ 12 ∧ ∀ x ∈ l, -1000000000000 ≤ x.2 ∧ x.2 ≤ 1000000000000 := by
 unfold lnChk at h
 by_cases h1 : 12 < l.length
 ·rw [if_pos h1] at h; omega
 rw [if_neg h1] at h
 by_cases h2 : lnE [] l = 0
 ·rw [if_neg (fun hh => hh h2)] at h
  by_cases h3 : l.length < 2 ∨ lnSum l l.length ≠ 0
  ·rw [if_pos h3] at h; omega
  ·exact ⟨by omega, by omega, lnE_ok l [] h2⟩
 ·rw [if_pos h2] at h; exact absurd h h2
theorem enE_ok {key : ByteArray} {day : Int} {l : List (ByteArray × Int)} (h : enE key day l = 0) : lnChk l = 0 := by
 unfold enE at h
 by_cases h1 : keyOk' key = false
 ·rw [if_pos h1] at h; omega
 rw [if_neg h1] at h
 by_cases h2 : ¬ (0 ≤ day ∧ day ≤ 292193)
 ·rw [if_pos h2] at h; omega
 rw [if_neg h2] at h
 exact h
end Go.Acc
namespace Go.Proofs.YtdmkmbaaemhhhaaGreatDoor
open Go Go.Ev Go.RowKit Go.Acc
set_option maxHeartbeats 4000000
theorem turnL_step {l : List (ByteArray × Int)} {k : Nat} {c : ByteArray} {n : Int} (h : l[k]? = some (c, n)) : turnL (l.take (k + 1)) = turnL (l.take k) ++ [(c, 0 - n)] := by
 obtain ⟨hk, he⟩ := List.getElem?_eq_some_iff.1 h
 unfold turnL
 rw [List.take_succ_eq_append_getElem hk, he, List.map_append]
 rfl
set_option maxHeartbeats 4000000 in
theorem turned_sound {J : World → Prop} (hJ : Stable J) (key : ByteArray) (day : Int) (l : List (ByteArray × Int)) (k : ByteArray) (d : Int) (he : enE key day l = 0) (hk : keyOk' k = true) (hd : 0 ≤ d ∧ d ≤ 292193) :
  SoundAt Tryz.prog J 51 [enV key day (.row 2 (l.map acV)), .str k, .int .i64 d] (.tup [enV k d (.vec 0), .int .i64 0]) [.vec 61 2 ((turnL l).map acV)] := by
 have hd' : (decide (0 ≤ d ∧ d ≤ 292193)) = true := decide_eq_true hd
 obtain ⟨h2, h12, hnn⟩ := lnChk_ok (enE_ok he)
 unfold enV
 refine evFn (l := [(29, echeckF), (74, keyF), (47, dayF)]) (nv := nv0) (fz := fz0) (dr := dr51) (dd := dd51) (lam := []) (ms := ms0) ⟨echeck_snd hJ, key_snd hJ, is_snd hJ, trivial⟩ hJ trivial ms0_ok Tryz.func51 rfl rfl (Nat.le_of_ble_eq_true rfl) (Nat.le_of_ble_eq_true rfl) drOk51 ?_
 dsimp only [Tryz.f51, dr51, dd51, Option.getD_some]
 refine ev_start ?_
 simp (disch := omega) only [echeckF_eq, keyF_eq, dayF_eq, he, hk, hd', go_sem, evP_D, evD_guard, evD_cons, evD_zero, evD_nil]
 refine evQ_loop [6, 9, 30, 31, 32] [48, 72, 352] (fun σ => ∃ j : Nat, j ≤ l.length ∧ ((j = 0 ∧ σ = ⟨[(6, .ptr 48 0), (9, .ptr 72 0), (30, .row 2 (l.map acV)), (31, .int .i64 l.length), (32, .int .i64 j)], [(48, .box (.agg [.str ByteArray.empty, .int .i64 0, .zero])), (72, .box (.agg [.str k, .int .i64 d, .zero]))]⟩) ∨
   (0 < j ∧ σ = ⟨[(6, .ptr 48 0), (9, .ptr 72 0), (30, .row 2 (l.map acV)), (31, .int .i64 l.length), (32, .int .i64 j)], [(48, .box (.agg [.str ByteArray.empty, .int .i64 0, .zero])), (72, .box (.agg [.str k, .int .i64 d, .vec 352])), (352, .vec 61 2 ((turnL (l.take j)).map acV))]⟩)))
  (fun σ => l.length - (match Ev.look 32 σ.env with | some (.int _ n) => n.toNat | _ => 0)) ?_ ?_
 ·simp only [go_sem, evP_D, evD_guard, evD_cons, evD_zero, evD_nil]
  exact ⟨0, Nat.zero_le _, .inl ⟨rfl, rfl⟩⟩
 ·rintro σ ⟨j, hj, hσ⟩
  by_cases hlt : j < l.length
  ·have hlt' : (j : Int) < l.length := by omega
   obtain ⟨⟨c, n⟩, hcn⟩ : ∃ p, l[j]? = some p := ⟨_, List.getElem?_eq_getElem hlt⟩
   have hg := acV_get hcn
   have hn := hnn (c, n) (List.mem_of_getElem? hcn)
   simp only at hn
   have hst := turnL_step hcn
   have hms : l.length - ((j : Int) + 1).toNat < l.length - (j : Int).toNat := by
    have e3 : ((j : Int) + 1).toNat = j + 1 := by omega
    rw [e3, Int.toNat_natCast]; exact Nat.sub_lt_sub_left hlt (Nat.lt_succ_self j)
   have hlen2 : (turnL (l.take j)).length ≤ l.length := by unfold turnL; rw [List.length_map]; exact List.length_take_le' _ _
   rcases hσ with ⟨hj0, rfl⟩ | ⟨hj0, rfl⟩
   ·subst hj0
    have z0 : ((0 : Nat) : Int) = 0 := rfl
    have hi0 := idx_nat l.length 0 hlt
    rw [z0] at hlt' hi0 hms ⊢
    simp (disch := (first | omega | assumption)) only [hlt', hi0, List.length_map, hg, go_sem, evP_D, evD_guard, evD_cons, evD_zero, evD_nil]
    exact ⟨⟨1, hlt, .inr ⟨by omega, by rw [hst]; rfl⟩⟩, hms⟩
   ·simp (disch := (first | omega | assumption)) only [hlt', idx_nat, List.length_map, hg, go_sem, evP_D, evD_guard, evD_cons, evD_zero, evD_nil]
    exact ⟨⟨j + 1, hlt, .inr ⟨by omega, by rw [hst, List.map_append]; rfl⟩⟩, hms⟩
  ·have hj' : j = l.length := by omega
   subst hj'
   have hlt' : ¬ ((l.length : Int) < l.length) := by omega
   rcases hσ with ⟨hj0, rfl⟩ | ⟨hj0, rfl⟩
   ·omega
   ·simp (disch := (first | omega | assumption)) only [hlt', List.take_length, go_sem, evP_D, evD_guard, evD_cons, evD_zero, evD_nil]
theorem rturned_bad {J : World → Prop} (hJ : Stable J) (key : ByteArray) (day : Int) (l : List (ByteArray × Int)) (k : ByteArray) (d : Int) (e : Int) (hsz : k.size ≤ maxLen) (he : (if keyOk' k = false then 3 else if ¬ (0 ≤ d ∧ d ≤ 292193) then 1 else 0) = e) (h0 : e ≠ 0) :
  SoundAt Tryz.prog J 53 [enV key day (.row 2 (l.map acV)), .str k, .int .i64 d] (.tup [ozV, .int .i64 e]) [] := by
 unfold enV ozV
 refine evFn (l := [(57, at1 [.str k] (.bool (keyOk' k), [])), (39, dayF)]) (nv := nv0) (fz := fz0) (dr := dr53) (dd := dd53) (lam := []) (ms := ms0) ⟨at1_snd (rkey_sound hJ k hsz), day_snd hJ, trivial⟩ hJ trivial ms0_ok Tryz.func53 rfl rfl (Nat.le_of_ble_eq_true rfl) (Nat.le_of_ble_eq_true rfl) drOk53 ?_
 dsimp only [Tryz.f53, dr53, dd53, Option.getD_some]
 refine ev_start ?_
 cases hk : keyOk' k with
 | false =>
  rw [if_pos hk] at he
  subst he
  simp (disch := omega) only [at1_eq, hk, go_sem, evP_D, evD_guard, evD_cons, evD_zero, evD_nil]
 | true =>
  rw [if_neg (by rw [hk]; simp)] at he
  by_cases hd : 0 ≤ d ∧ d ≤ 292193
  ·rw [if_neg (fun h => h hd)] at he; exact absurd he.symm h0
  ·rw [if_pos hd] at he
   subst he
   have hd' : (decide (0 ≤ d ∧ d ≤ 292193)) = false := decide_eq_false hd
   simp (disch := omega) only [at1_eq, dayF_eq, hk, hd', go_sem, evP_D, evD_guard, evD_cons, evD_zero, evD_nil]
set_option maxHeartbeats 4000000 in
theorem rturned_sound {J : World → Prop} (hJ : Stable J) (key : ByteArray) (day : Int) (l : List (ByteArray × Int)) (k : ByteArray) (d : Int) (he : enE key day l = 0) (hk : keyOk' k = true) (hd : 0 ≤ d ∧ d ≤ 292193) (hsz : k.size ≤ maxLen) :
  SoundAt Tryz.prog J 53 [enV key day (.row 2 (l.map acV)), .str k, .int .i64 d] (.tup [enV k d (.vec 0), .int .i64 0]) [.vec 61 2 ((turnL l).map acV)] := by
 have hd' : (decide (0 ≤ d ∧ d ≤ 292193)) = true := decide_eq_true hd
 obtain ⟨h2, h12, hnn⟩ := lnChk_ok (enE_ok he)
 unfold enV
 refine evFn (l := [(57, at1 [.str k] (.bool (keyOk' k), [])), (39, dayF)]) (nv := nv0) (fz := fz0) (dr := dr53) (dd := dd53) (lam := []) (ms := ms0) ⟨at1_snd (rkey_sound hJ k hsz), day_snd hJ, trivial⟩ hJ trivial ms0_ok Tryz.func53 rfl rfl (Nat.le_of_ble_eq_true rfl) (Nat.le_of_ble_eq_true rfl) drOk53 ?_
 dsimp only [Tryz.f53, dr53, dd53, Option.getD_some]
 refine ev_start ?_
 simp (disch := omega) only [at1_eq, dayF_eq, hk, hd', go_sem, evP_D, evD_guard, evD_cons, evD_zero, evD_nil]
 refine evQ_loop [6, 8, 23, 24, 25] [48, 64, 304] (fun σ => ∃ j : Nat, j ≤ l.length ∧ ((j = 0 ∧ σ = ⟨[(6, .ptr 48 0), (8, .ptr 64 0), (23, .row 2 (l.map acV)), (24, .int .i64 l.length), (25, .int .i64 j)], [(48, .box (.agg [.str ByteArray.empty, .int .i64 0, .zero])), (64, .box (.agg [.str k, .int .i64 d, .zero]))]⟩) ∨
   (0 < j ∧ σ = ⟨[(6, .ptr 48 0), (8, .ptr 64 0), (23, .row 2 (l.map acV)), (24, .int .i64 l.length), (25, .int .i64 j)], [(48, .box (.agg [.str ByteArray.empty, .int .i64 0, .zero])), (64, .box (.agg [.str k, .int .i64 d, .vec 304])), (304, .vec 61 2 ((turnL (l.take j)).map acV))]⟩)))
  (fun σ => l.length - (match Ev.look 25 σ.env with | some (.int _ n) => n.toNat | _ => 0)) ?_ ?_
 ·simp only [go_sem, evP_D, evD_guard, evD_cons, evD_zero, evD_nil]
  exact ⟨0, Nat.zero_le _, .inl ⟨rfl, rfl⟩⟩
 ·rintro σ ⟨j, hj, hσ⟩
  by_cases hlt : j < l.length
  ·have hlt' : (j : Int) < l.length := by omega
   obtain ⟨⟨c, n⟩, hcn⟩ : ∃ p, l[j]? = some p := ⟨_, List.getElem?_eq_getElem hlt⟩
   have hg := acV_get hcn
   have hn := hnn (c, n) (List.mem_of_getElem? hcn)
   simp only at hn
   have hst := turnL_step hcn
   have hms : l.length - ((j : Int) + 1).toNat < l.length - (j : Int).toNat := by
    have e3 : ((j : Int) + 1).toNat = j + 1 := by omega
    rw [e3, Int.toNat_natCast]; exact Nat.sub_lt_sub_left hlt (Nat.lt_succ_self j)
   have hlen2 : (turnL (l.take j)).length ≤ l.length := by unfold turnL; rw [List.length_map]; exact List.length_take_le' _ _
   rcases hσ with ⟨hj0, rfl⟩ | ⟨hj0, rfl⟩
   ·subst hj0
    have z0 : ((0 : Nat) : Int) = 0 := rfl
    have hi0 := idx_nat l.length 0 hlt
    rw [z0] at hlt' hi0 hms ⊢
    simp (disch := (first | omega | assumption)) only [hlt', hi0, List.length_map, hg, go_sem, evP_D, evD_guard, evD_cons, evD_zero, evD_nil]
    exact ⟨⟨1, hlt, .inr ⟨by omega, by rw [hst]; rfl⟩⟩, hms⟩
   ·simp (disch := (first | omega | assumption)) only [hlt', idx_nat, List.length_map, hg, go_sem, evP_D, evD_guard, evD_cons, evD_zero, evD_nil]
    exact ⟨⟨j + 1, hlt, .inr ⟨by omega, by rw [hst, List.map_append]; rfl⟩⟩, hms⟩
  ·have hj' : j = l.length := by omega
   subst hj'
   have hlt' : ¬ ((l.length : Int) < l.length) := by omega
   rcases hσ with ⟨hj0, rfl⟩ | ⟨hj0, rfl⟩
   ·omega
   ·simp (disch := (first | omega | assumption)) only [hlt', List.take_length, go_sem, evP_D, evD_guard, evD_cons, evD_zero, evD_nil]
end Go.Proofs.YtdmkmbaaemhhhaaGreatDoor
end
