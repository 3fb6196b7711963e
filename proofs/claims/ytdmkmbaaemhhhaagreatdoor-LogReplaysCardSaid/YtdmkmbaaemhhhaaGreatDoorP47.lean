/-
  Steps of the proof of LogReplays: RpF BsE.
-/
import Derived.Test.YtdmkmbaaemhhhaaGreatDoorP28
import Derived.Test.YtdmkmbaaemhhhaaGreatDoorP46
import Derived.Test.YtdmkmbaaemhhhaaGreatDoorP27
set_option linter.unusedVariables false
set_option linter.unusedSimpArgs false
section
namespace Go.Ev
open Go Go.RowKit
noncomputable def st1 (t : TypeId) (lf : FuncId) (k : Nat) (T : TypeId) (sz : Nat) (es es' : List V) : TypeId → FuncId → Nat → TypeId → Nat → List V → Option (List V) := fun t' lf' k' T' sz' e0 => open Classical in if t' = t ∧ lf' = lf ∧ k' = k ∧ T' = T ∧ sz' = sz ∧ e0 = es then some es' else none
theorem st1_eq (t : TypeId) (lf : FuncId) (k : Nat) (T : TypeId) (sz : Nat) (es es' : List V) : st1 t lf k T sz es es' t lf k T sz es = some es' := by unfold st1; rw [if_pos ⟨rfl, rfl, rfl, rfl, rfl, rfl⟩]
theorem st1_ok {P : Program} {J : World → Prop} {f : FuncId} {t : TypeId} {lf : FuncId} {k : Nat} {T : TypeId} {sz : Nat} {es es' : List V} (h : SrtAt P J f t lf k T sz es es') : Sr P J f (st1 t lf k T sz es es') := by
 intro t' lf' k' T' sz' e0 e1 he
 unfold st1 at he
 split at he
 ·rename_i hc
  obtain ⟨rfl, rfl, rfl, rfl, rfl, rfl⟩ := hc
  simp only [Option.some.injEq] at he
  subst he
  exact h
 ·cases he
end Go.Ev
namespace Go.Proofs.YtdmkmbaaemhhhaaGreatDoor
open Go Go.Ev Go.RowKit Go.Acc
set_option maxHeartbeats 4000000
set_option maxRecDepth 20000 in
set_option maxHeartbeats 16000000 in
theorem rpost_sound {J : World → Prop} (hJ : Stable J) (A : List (ByteArray × Int)) (E : List En) (s : Int) (x : En) (hz : bkChk A E s = 0) (hkx : x.1.size ≤ maxLen) (hlx : x.2.2.length ≤ maxLen) : SoundAt Tryz.prog J 14 [bkV A E s, enW x] (posR A E s x) [] := by
 obtain ⟨k, d, l⟩ := x
 simp only at hkx hlx
 have hrE := rentryF_eq (day := d) hkx hlx
 have hk := bkChk_ok hz
 have hEl : E.length ≤ 60 := hk.2.2.1
 have hG := rget_sound hJ A E s k (by simp only [maxLen]; omega)
 unfold bkV at hG ⊢
 rw [enW_mk]
 by_cases hx : enX (k, d, l) = 0
 case neg =>
  have e1 : postE A E s (k, d, l) = enX (k, d, l) := by unfold postE; rw [if_neg (fun h => h hz), if_pos hx]
  have eR : posR A E s (k, d, l) = .tup [.agg [.zero, .zero, .int .i64 0], .int .i64 (enE k d l)] := by unfold posR; rw [e1, if_neg hx]; rfl
  have hx' : ¬ enE k d l = 0 := hx
  rw [eR]
  refine evFn (l := [(21, rentryF)]) (nv := nv0) (fz := fz0) (dr := dr14) (dd := dd14) (lam := []) (ms := ms0) ⟨rentry_snd hJ, trivial⟩ hJ trivial ms0_ok Tryz.func14 rfl rfl (Nat.le_of_ble_eq_true rfl) (Nat.le_of_ble_eq_true rfl) drOk14 ?_
  dsimp only [Tryz.f14, dr14, dd14, Option.getD_some]
  refine ev_start ?_
  simp (disch := omega) only [hrE, hx', go_sem, evP_D, evD_guard, evD_cons, evD_zero, evD_nil]
 have hx' : enE k d l = 0 := hx
 have hll : l.length ≤ 12 := (enX_ok hx).2.1
 cases hg : getE k E with
 | some y =>
  have e1 : postE A E s (k, d, l) = if y = (k, d, l) then 0 else 5 := by unfold postE; rw [if_neg (fun h => h hz), if_neg (fun h => h hx)]; simp only [hg]
  have e2 : postB E (k, d, l) = E := by unfold postB; simp only [hg]
  have hS := rsame_sound hJ (k, d, l) y
  unfold rgV at hG
  rw [hg] at hG
  obtain ⟨k', d', l'⟩ := y
  simp only [enW_mk] at hS hG
  by_cases hy : (k', d', l') = (k, d, l)
  ·rw [if_pos hy] at e1
   have eR : posR A E s (k, d, l) = .tup [.agg [.row 2 (A.map acV), .row 3 (E.map enW), .int .i64 s], .int .i64 0] := by unfold posR; rw [e1, if_pos rfl, e2]; rfl
   rw [eR]
   have hy' := decide_eq_true hy.symm
   rw [hy'] at hS
   refine evFn (l := [(21, rentryF), (15, at1 _ (_, [])), (13, at1 _ (_, []))]) (nv := nv0) (fz := fz0) (dr := dr14) (dd := dd14) (lam := []) (ms := ms0) ⟨rentry_snd hJ, at1_snd hG, at1_snd hS, trivial⟩ hJ trivial ms0_ok Tryz.func14 rfl rfl (Nat.le_of_ble_eq_true rfl) (Nat.le_of_ble_eq_true rfl) drOk14 ?_
   dsimp only [Tryz.f14, dr14, dd14, Option.getD_some]
   refine ev_start ?_
   simp (disch := omega) only [at1_eq, hrE, hx', go_sem, evP_D, evD_guard, evD_cons, evD_zero, evD_nil]
  ·rw [if_neg hy] at e1
   have eR : posR A E s (k, d, l) = .tup [.agg [.zero, .zero, .int .i64 0], .int .i64 5] := by unfold posR; rw [e1, if_neg (by decide)]; rfl
   rw [eR]
   have hy' := decide_eq_false (fun h : (k, d, l) = (k', d', l') => hy h.symm)
   rw [hy'] at hS
   refine evFn (l := [(21, rentryF), (15, at1 _ (_, [])), (13, at1 _ (_, []))]) (nv := nv0) (fz := fz0) (dr := dr14) (dd := dd14) (lam := []) (ms := ms0) ⟨rentry_snd hJ, at1_snd hG, at1_snd hS, trivial⟩ hJ trivial ms0_ok Tryz.func14 rfl rfl (Nat.le_of_ble_eq_true rfl) (Nat.le_of_ble_eq_true rfl) drOk14 ?_
   dsimp only [Tryz.f14, dr14, dd14, Option.getD_some]
   refine ev_start ?_
   simp (disch := omega) only [at1_eq, hrE, hx', go_sem, evP_D, evD_guard, evD_cons, evD_zero, evD_nil]
 | none =>
  unfold rgV at hG
  rw [hg] at hG
  simp only at hG
  have e0 : postE A E s (k, d, l) = if knownB A (k, d, l) = false then 4 else if d ≤ s then 9 else if E.length = 60 then 2 else 0 := by unfold postE; rw [if_neg (fun h => h hz), if_neg (fun h => h hx)]; simp only [hg]
  cases hkn : knownB A (k, d, l) with
  | false =>
   have e1 : postE A E s (k, d, l) = 4 := by rw [e0, if_pos hkn]
   have eR : posR A E s (k, d, l) = .tup [.agg [.zero, .zero, .int .i64 0], .int .i64 4] := by unfold posR; rw [e1, if_neg (by decide)]; rfl
   rw [eR]
   refine evFn (l := [(21, rentryF), (15, at1 _ (_, [])), (40, hasF)]) (nv := nv0) (fz := fz0) (dr := dr14) (dd := dd14) (lam := []) (ms := ms0) ⟨rentry_snd hJ, at1_snd hG, has_snd hJ, trivial⟩ hJ trivial ms0_ok Tryz.func14 rfl rfl (Nat.le_of_ble_eq_true rfl) (Nat.le_of_ble_eq_true rfl) drOk14 ?_
   dsimp only [Tryz.f14, dr14, dd14, Option.getD_some]
   refine ev_start ?_
   simp (disch := omega) only [at1_eq, hrE, hx', List.length_map, go_sem, evP_D, evD_guard, evD_cons, evD_zero, evD_nil]
   refine evQ_loop [2, 3, 4, 32, 33, 34] [16, 24, 32] (fun σ => ∃ i : Nat, (i ≤ l.length ∧ ∀ j p, j < i → l[j]? = some p → hasA A p.1 = true) ∧ σ = ⟨[(2, .ptr 16 0), (3, .ptr 24 0), (4, .ptr 32 0), (32, .row 2 (l.map acV)), (33, .int .i64 l.length), (34, .int .i64 i)],
     [(16, .box (.agg [.row 2 (A.map acV), .row 3 (E.map enW), .int .i64 s])), (24, .box (.agg [.str k, .int .i64 d, .row 2 (l.map acV)])), (32, .box (.agg [.zero, .zero, .int .i64 0]))]⟩)
    (fun σ => l.length - (match Ev.look 34 σ.env with | some (.int _ n) => n.toNat | _ => 0)) ?_ ?_
   ·simp only [go_sem, evP_D, evD_guard, evD_cons, evD_zero, evD_nil]
    exact ⟨0, ⟨Nat.zero_le _, fun _ _ h => by omega⟩, rfl⟩
   ·rintro σ ⟨i, ⟨hi, hall⟩, rfl⟩
    by_cases hlt : i < l.length
    case neg =>
     have hi' : i = l.length := by omega
     subst hi'
     have hlt' : ¬ ((l.length : Int) < l.length) := by omega
     exfalso
     have : knownB A (k, d, l) = true := List.all_eq_true.2 fun p hp => by
      obtain ⟨j, hj⟩ := List.mem_iff_getElem?.1 hp
      exact hall j p (List.getElem?_eq_some_iff.1 hj).1 hj
     rw [hkn] at this
     cases this
    have hlt' : (i : Int) < l.length := by omega
    obtain ⟨⟨c, m⟩, hcn⟩ : ∃ p, l[i]? = some p := ⟨_, List.getElem?_eq_getElem hlt⟩
    have hg := acV_get hcn
    have hH := hasF_eq A c
    cases hb : hasA A c with
    | true =>
     rw [hb] at hH
     simp (disch := (first | omega | assumption)) only [hlt', idx_nat, List.length_map, hg, hH, go_sem, evP_D, evD_guard, evD_cons, evD_zero, evD_nil]
     refine ⟨⟨i + 1, ⟨hlt, fun j p hj hp => ?_⟩, rfl⟩, ?_⟩
     ·by_cases hij : j = i
      ·subst hij
       rw [hcn] at hp
       cases hp
       exact hb
      ·exact hall j p (by omega) hp
     ·have e3 : ((i : Int) + 1).toNat = i + 1 := by omega
      rw [e3, Int.toNat_natCast]; exact Nat.sub_lt_sub_left hlt (Nat.lt_succ_self i)
    | false =>
     rw [hb] at hH
     simp (disch := (first | omega | assumption)) only [hlt', idx_nat, List.length_map, hg, hH, go_sem, evP_D, evD_guard, evD_cons, evD_zero, evD_nil]
  | true =>
   unfold knownB at hkn
   by_cases hds : d ≤ s
   ·have e1 : postE A E s (k, d, l) = 9 := by rw [e0, if_neg (by unfold knownB; rw [hkn]; simp), if_pos hds]
    have eR : posR A E s (k, d, l) = .tup [.agg [.zero, .zero, .int .i64 0], .int .i64 9] := by unfold posR; rw [e1, if_neg (by decide)]; rfl
    rw [eR]
    refine evFn (l := [(21, rentryF), (15, at1 _ (_, [])), (40, hasF)]) (nv := nv0) (fz := fz0) (dr := dr14) (dd := dd14) (lam := []) (ms := ms0) ⟨rentry_snd hJ, at1_snd hG, has_snd hJ, trivial⟩ hJ trivial ms0_ok Tryz.func14 rfl rfl (Nat.le_of_ble_eq_true rfl) (Nat.le_of_ble_eq_true rfl) drOk14 ?_
    dsimp only [Tryz.f14, dr14, dd14, Option.getD_some]
    refine ev_start ?_
    simp (disch := omega) only [at1_eq, hrE, hx', List.length_map, go_sem, evP_D, evD_guard, evD_cons, evD_zero, evD_nil]
    refine evQ_loop [2, 3, 4, 32, 33, 34] [16, 24, 32] (fun σ => ∃ i : Nat, (i ≤ l.length ∧ ∀ j p, j < i → l[j]? = some p → hasA A p.1 = true) ∧ σ = ⟨[(2, .ptr 16 0), (3, .ptr 24 0), (4, .ptr 32 0), (32, .row 2 (l.map acV)), (33, .int .i64 l.length), (34, .int .i64 i)],
      [(16, .box (.agg [.row 2 (A.map acV), .row 3 (E.map enW), .int .i64 s])), (24, .box (.agg [.str k, .int .i64 d, .row 2 (l.map acV)])), (32, .box (.agg [.zero, .zero, .int .i64 0]))]⟩)
     (fun σ => l.length - (match Ev.look 34 σ.env with | some (.int _ n) => n.toNat | _ => 0)) ?_ ?_
    ·simp only [go_sem, evP_D, evD_guard, evD_cons, evD_zero, evD_nil]
     exact ⟨0, ⟨Nat.zero_le _, fun _ _ h => by omega⟩, rfl⟩
    ·rintro σ ⟨i, ⟨hi, hall⟩, rfl⟩
     by_cases hlt : i < l.length
     case neg =>
      have hi' : i = l.length := by omega
      subst hi'
      have hlt' : ¬ ((l.length : Int) < l.length) := by omega
      simp (disch := (first | omega | assumption)) only [hlt', hds, go_sem, evP_D, evD_guard, evD_cons, evD_zero, evD_nil]
     have hlt' : (i : Int) < l.length := by omega
     obtain ⟨⟨c, m⟩, hcn⟩ : ∃ p, l[i]? = some p := ⟨_, List.getElem?_eq_getElem hlt⟩
     have hg := acV_get hcn
     have hH := hasF_eq A c
     cases hb : hasA A c with
     | true =>
      rw [hb] at hH
      simp (disch := (first | omega | assumption)) only [hlt', idx_nat, List.length_map, hg, hH, go_sem, evP_D, evD_guard, evD_cons, evD_zero, evD_nil]
      refine ⟨⟨i + 1, ⟨hlt, fun j p hj hp => ?_⟩, rfl⟩, ?_⟩
      ·by_cases hij : j = i
       ·subst hij
        rw [hcn] at hp
        cases hp
        exact hb
       ·exact hall j p (by omega) hp
      ·have e3 : ((i : Int) + 1).toNat = i + 1 := by omega
       rw [e3, Int.toNat_natCast]; exact Nat.sub_lt_sub_left hlt (Nat.lt_succ_self i)
     | false =>
      rw [hb] at hH
      have := List.all_eq_true.1 hkn (c, m) (List.mem_of_getElem? hcn)
      simp only at this
      rw [hb] at this
      cases this
   by_cases h60 : E.length = 60
   ·have e1 : postE A E s (k, d, l) = 2 := by rw [e0, if_neg (by unfold knownB; rw [hkn]; simp), if_neg hds, if_pos h60]
    have eR : posR A E s (k, d, l) = .tup [.agg [.zero, .zero, .int .i64 0], .int .i64 2] := by unfold posR; rw [e1, if_neg (by decide)]; rfl
    have h60' : (60 : Int) ≤ ((E.length : Nat) : Int) := by omega
    rw [eR]
    refine evFn (l := [(21, rentryF), (15, at1 _ (_, [])), (40, hasF)]) (nv := nv0) (fz := fz0) (dr := dr14) (dd := dd14) (lam := []) (ms := ms0) ⟨rentry_snd hJ, at1_snd hG, has_snd hJ, trivial⟩ hJ trivial ms0_ok Tryz.func14 rfl rfl (Nat.le_of_ble_eq_true rfl) (Nat.le_of_ble_eq_true rfl) drOk14 ?_
    dsimp only [Tryz.f14, dr14, dd14, Option.getD_some]
    refine ev_start ?_
    simp (disch := omega) only [at1_eq, hrE, hx', List.length_map, go_sem, evP_D, evD_guard, evD_cons, evD_zero, evD_nil]
    refine evQ_loop [2, 3, 4, 32, 33, 34] [16, 24, 32] (fun σ => ∃ i : Nat, (i ≤ l.length ∧ ∀ j p, j < i → l[j]? = some p → hasA A p.1 = true) ∧ σ = ⟨[(2, .ptr 16 0), (3, .ptr 24 0), (4, .ptr 32 0), (32, .row 2 (l.map acV)), (33, .int .i64 l.length), (34, .int .i64 i)],
      [(16, .box (.agg [.row 2 (A.map acV), .row 3 (E.map enW), .int .i64 s])), (24, .box (.agg [.str k, .int .i64 d, .row 2 (l.map acV)])), (32, .box (.agg [.zero, .zero, .int .i64 0]))]⟩)
     (fun σ => l.length - (match Ev.look 34 σ.env with | some (.int _ n) => n.toNat | _ => 0)) ?_ ?_
    ·simp only [go_sem, evP_D, evD_guard, evD_cons, evD_zero, evD_nil]
     exact ⟨0, ⟨Nat.zero_le _, fun _ _ h => by omega⟩, rfl⟩
    ·rintro σ ⟨i, ⟨hi, hall⟩, rfl⟩
     by_cases hlt : i < l.length
     case neg =>
      have hi' : i = l.length := by omega
      subst hi'
      have hlt' : ¬ ((l.length : Int) < l.length) := by omega
      simp (disch := (first | omega | assumption)) only [hlt', hds, List.length_map, h60', go_sem, evP_D, evD_guard, evD_cons, evD_zero, evD_nil]
     have hlt' : (i : Int) < l.length := by omega
     obtain ⟨⟨c, m⟩, hcn⟩ : ∃ p, l[i]? = some p := ⟨_, List.getElem?_eq_getElem hlt⟩
     have hg := acV_get hcn
     have hH := hasF_eq A c
     cases hb : hasA A c with
     | true =>
      rw [hb] at hH
      simp (disch := (first | omega | assumption)) only [hlt', idx_nat, List.length_map, hg, hH, go_sem, evP_D, evD_guard, evD_cons, evD_zero, evD_nil]
      refine ⟨⟨i + 1, ⟨hlt, fun j p hj hp => ?_⟩, rfl⟩, ?_⟩
      ·by_cases hij : j = i
       ·subst hij
        rw [hcn] at hp
        cases hp
        exact hb
       ·exact hall j p (by omega) hp
      ·have e3 : ((i : Int) + 1).toNat = i + 1 := by omega
       rw [e3, Int.toNat_natCast]; exact Nat.sub_lt_sub_left hlt (Nat.lt_succ_self i)
     | false =>
      rw [hb] at hH
      have := List.all_eq_true.1 hkn (c, m) (List.mem_of_getElem? hcn)
      simp only at this
      rw [hb] at this
      cases this
   have h60' : ¬ (60 : Int) ≤ ((E.length : Nat) : Int) := by omega
   have e1 : postE A E s (k, d, l) = 0 := by rw [e0, if_neg (by unfold knownB; rw [hkn]; simp), if_neg hds, if_neg h60]
   have e2 : postB E (k, d, l) = insE (k, d, l) E := by unfold postB; simp only [hg]
   have eR : posR A E s (k, d, l) = .tup [.agg [.row 2 (A.map acV), .row 3 ((insE (k, d, l) E).map enW), .int .i64 s], .int .i64 0] := by unfold posR; rw [e1, if_pos rfl, e2]; rfl
   have hC := cloneE_sound hJ E (by omega)
   obtain ⟨_, _, _, _, _, hsrt⟩ := bkChk_iff.1 hz
   have hS := slice_entries hJ (E ++ [(k, d, l)]) (insE (k, d, l) E) ((insE_perm _ _).trans (List.perm_append_singleton _ _).symm) (insE_srt hsrt (getE_none hg)) (by simp; omega)
   rw [List.map_append] at hS
   simp only [List.map_cons, List.map_nil, enW_mk] at hS
   rw [eR]
   generalize hI : (insE (k, d, l) E).map enW = I at *
   clear hI
   refine evFn (l := [(21, rentryF), (15, at1 _ (_, [])), (40, hasF), (44, at1 _ (_, _))]) (nv := nv0) (fz := fzL [(73, [528])]) (dr := dr14) (dd := dd14) (lam := []) (ms := ⟨[], fun _ => [], [(45, st1 23 46 1 28 3 (E.map enW ++ [.agg [.str k, .int .i64 d, .row 2 (l.map acV)]]) I)]⟩) ⟨rentry_snd hJ, at1_snd hG, has_snd hJ, at1_snd hC, trivial⟩ hJ trivial ⟨trivial, st1_ok hS, trivial⟩ Tryz.func14 rfl rfl (Nat.le_of_ble_eq_true rfl) (Nat.le_of_ble_eq_true rfl) drOk14 ?_
   dsimp only [Tryz.f14, dr14, dd14, Option.getD_some]
   refine ev_start ?_
   simp (disch := omega) only [at1_eq, hrE, hx', List.length_map, go_sem, evP_D, evD_guard, evD_cons, evD_zero, evD_nil]
   refine evQ_loop [2, 3, 4, 32, 33, 34] [16, 24, 32] (fun σ => ∃ i : Nat, (i ≤ l.length ∧ ∀ j p, j < i → l[j]? = some p → hasA A p.1 = true) ∧ σ = ⟨[(2, .ptr 16 0), (3, .ptr 24 0), (4, .ptr 32 0), (32, .row 2 (l.map acV)), (33, .int .i64 l.length), (34, .int .i64 i)],
     [(16, .box (.agg [.row 2 (A.map acV), .row 3 (E.map enW), .int .i64 s])), (24, .box (.agg [.str k, .int .i64 d, .row 2 (l.map acV)])), (32, .box (.agg [.zero, .zero, .int .i64 0]))]⟩)
    (fun σ => l.length - (match Ev.look 34 σ.env with | some (.int _ n) => n.toNat | _ => 0)) ?_ ?_
   ·simp only [go_sem, evP_D, evD_guard, evD_cons, evD_zero, evD_nil]
    exact ⟨0, ⟨Nat.zero_le _, fun _ _ h => by omega⟩, rfl⟩
   ·rintro σ ⟨i, ⟨hi, hall⟩, rfl⟩
    by_cases hlt : i < l.length
    case neg =>
     have hi' : i = l.length := by omega
     subst hi'
     have hlt' : ¬ ((l.length : Int) < l.length) := by omega
     simp (disch := (first | omega | assumption)) only [at1_eq, st1_eq, ne_eq, not_false_eq_true, hlt', hds, List.length_map, h60', freezeL, St.freeze, List.filter_cons, List.filter_nil, bne, List.length_append, List.length_cons, List.length_nil, go_sem, evP_D, evD_guard, evD_cons, evD_zero, evD_nil]
    have hlt' : (i : Int) < l.length := by omega
    obtain ⟨⟨c, m⟩, hcn⟩ : ∃ p, l[i]? = some p := ⟨_, List.getElem?_eq_getElem hlt⟩
    have hg := acV_get hcn
    have hH := hasF_eq A c
    cases hb : hasA A c with
    | true =>
     rw [hb] at hH
     simp (disch := (first | omega | assumption)) only [hlt', idx_nat, List.length_map, hg, hH, go_sem, evP_D, evD_guard, evD_cons, evD_zero, evD_nil]
     refine ⟨⟨i + 1, ⟨hlt, fun j p hj hp => ?_⟩, rfl⟩, ?_⟩
     ·by_cases hij : j = i
      ·subst hij
       rw [hcn] at hp
       cases hp
       exact hb
      ·exact hall j p (by omega) hp
     ·have e3 : ((i : Int) + 1).toNat = i + 1 := by omega
      rw [e3, Int.toNat_natCast]; exact Nat.sub_lt_sub_left hlt (Nat.lt_succ_self i)
    | false =>
     rw [hb] at hH
     have := List.all_eq_true.1 hkn (c, m) (List.mem_of_getElem? hcn)
     simp only at this
     rw [hb] at this
     cases this
end Go.Proofs.YtdmkmbaaemhhhaaGreatDoor
end
section
namespace Go.Ev
open Go
noncomputable def at2 (a : List V) (r : V × List Ev.Blk) (b : List V) (q : V × List Ev.Blk) : List V → Option (V × List Ev.Blk) := fun x => open Classical in if x = a then some r else if x = b then some q else none
theorem at2_l (a : List V) (r : V × List Ev.Blk) (b : List V) (q : V × List Ev.Blk) : at2 a r b q a = some r := if_pos rfl
theorem at2_r {a : List V} {r : V × List Ev.Blk} {b : List V} {q : V × List Ev.Blk} (h : b ≠ a) : at2 a r b q b = some q := by unfold at2; rw [if_neg h, if_pos rfl]
theorem at2_snd {P : Program} {J : World → Prop} {f : FuncId} {a b : List V} {r q : V × List Ev.Blk} (h1 : SoundAt P J f a r.1 r.2) (h2 : SoundAt P J f b q.1 q.2) : Snd P J f (at2 a r b q) := by
 intro args r' bs h
 unfold at2 at h
 split at h
 ·rename_i e; subst e
  obtain rfl := Option.some.inj h
  exact h1
 ·split at h
  ·rename_i e; subst e
   obtain rfl := Option.some.inj h
   exact h2
  ·cases h
end Go.Ev
namespace Go.Proofs.YtdmkmbaaemhhhaaGreatDoor
open Go Go.Ev Go.RowKit Go.Acc
set_option maxHeartbeats 4000000
theorem bk_neg2 : bkChk [] [] (-2) = 1 := by
 have h : acChk [] = 0 := by decide +kernel
 unfold bkChk
 rw [if_neg (fun hh => hh h), if_pos (by omega)]
theorem bcheck2 {J : World → Prop} (hJ : Stable J) : SoundAt Tryz.prog J 11 [.agg [.zero, .zero, .int .i64 (-2)]] (.int .i64 1) [] := by
 have h := bcheck_sound hJ [] [] (-2) (by simp)
 rw [bk_neg2] at h
 refine sound_by h rfl fun w ok j c v hc hv => ?_
 match j with
 | 0 =>
  simp at hc
  subst hc
  refine ⟨_, rfl, ?_⟩
  cases hv with
  | agg cs vs hl h1 hh =>
   match vs, hl, h1, hh with
   | [a, b, d], _, h1, hh =>
    refine .agg [.row 2 [], .row 3 [], .int .i64 (-2)] [a, b, d] rfl h1 fun j c v hc hv => ?_
    match j, hc, hv with
    | 0, hc, hv => simp at hc hv; subst hc; subst hv; exact zero_row 2 _ _ _ (hh 0 _ _ rfl rfl)
    | 1, hc, hv => simp at hc hv; subst hc; subst hv; exact zero_row 3 _ _ _ (hh 1 _ _ rfl rfl)
    | 2, hc, hv => simp at hc hv; subst hc; subst hv; exact hh 2 _ _ rfl rfl
    | j + 3, hc, _ => simp at hc
 | j + 1 => simp at hc
end Go.Proofs.YtdmkmbaaemhhhaaGreatDoor
end
