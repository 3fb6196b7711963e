/-
  Ages by bounds, run by the machine: the search among bounds, the sums, equal rows of items.
-/
import Derived.Test.YtdjdipehfnnhpaaAgF
namespace Go.Proofs.Ytdjdipehfnnhpaa
open Go Go.Ev Go.RowKit Go.Tie Go.Spl Go.Srt Go.Lib
set_option maxHeartbeats 4000000
set_option linter.unusedSimpArgs false
set_option linter.unusedVariables false
attribute [local go_sem] subE partR boundsV ownP sliceW copyV clearV lenM takeV tk1 mapsV mkMapV hintOk lookV updV mapKE keyOk V.key app_lend callW_fn lendV postL_ret postL_normal postT_ret postT_normal takeR St.lent mkX_L bin_eql_vz bin_eql_zv bin_eql_rz bin_eql_zr bin_eql_zz bin_neq_vz bin_neq_zv bin_neq_rz bin_neq_zr bin_neq_zz eqH nilEq nonE plainI gOf_bool gOf_skip g_some g_none Int.ofNat_zero Int.cast_ofNat_Int Bool.false_and Bool.and_false sliceV noBox elemsZ V.scrub V.scrubL Blk.scrub appendV isSlice maxLen_eq leT List.contains_nil List.contains_cons nvL_at fzL_at fillV V.plain V.plainL Blk.plain List.size_toArray mapO_nil mapO_cons Option.isNone_none Option.isNone_some beqT beqF oI_not mkX_e phi_nil phi_cons bin_eql_bool bin_neq_bool bin_eql_agg bin_neq_agg eqV eqFs eqK_int eqK_bool' eqK_str mkX_T mkX_Φ mkX_n mkX_f mkX_d mkX_r nv0_at fz0_at evQ_dr evP_W evW_nil evW_cons evW_guard okW_eq tame_none tame_new tame_write wb_none wb_new wb_write okU_some offW_none offW_some touchOf V.noRef V.noRefL Option.isSome_some Option.isSome_none mild_none mild_new Option.getD_some Option.getD_none evQ_seq evQ_region evQ_block evQ_cond evQ_ret evQ_skip evQ_exit evO_cons evO_nil evO_guard freezeL_nil oS_some oS_none oS_ite oS_ite' oB_bool oI_true oI_false oE_normal oE_exit oE_ret bQ_normal bQ_ret bQ_exit lQ_normal lQ_ret lQ_exit List.zipIdx_cons List.zipIdx_nil List.map_cons List.map_nil evalOp opd_const opd_tmp opd_func ofC_int ofC_bool ofC_str ofC_nil app_none app_new app_write app_change putE_some putE_none setA_cons setA_nil setH_cons setH_nil mapA_cons mapA_nil look_cons look_nil e_mk h_mk drop_nil drop_mk keep_mk dstOk_some dstOk_none guardT_eq true_and and_true Bool.not_false Bool.not_true selB_true selB_false mem_nil mem_cons kpL_nil kpL_cons drL_nil drL_cons closed_mk V.refsIn V.refsInL Blk.refsIn List.all_cons List.all_nil lenV bin_add bin_sub bin_mul bin_quo bin_rem bin_eql bin_neq bin_lss bin_leq bin_gtr bin_geq un_neg un_not post_ret post_normal St.init Bool.false_eq_true List.length_map Bool.or_false Bool.or_true Bool.false_or Bool.true_or beq_self_eq_true Option.map_some Option.map_none Option.bind_some List.getElem?_cons_zero List.getElem?_cons_succ scalar stor isAggV V.cells List.cons_append List.nil_append if_true if_false wrap_of callV V.dataL V.data Bool.and_true Bool.true_and fresh names V.ren V.renL retV resV packL packV packC getBlks wrapR subV putV decide_true decide_false TK.agg List.length_cons List.length_nil List.take_succ_cons List.take_zero List.drop_succ_cons List.drop_zero List.take_nil List.drop_nil Nat.zero_add Nat.add_zero List.append_nil List.getElem?_nil elemsV ro ro0 ro1 roC ty2 ty3 ty4 ty5 ty6 ty7 ty8 ty9 ty10 ty11 ty12 ty13 ty14 ty18 ty19 ty21 ty24 ty25 ty33 ty34 ty35 ty36 ty41 ty42 ty43 ty45 ty46 ty53 ty63 ty64 ty69 ty74 ty77 ty78 ty96 ty98 ty108 ty115 ty142 ty143 ty148 ty149 ty152 ty153 ty154 ty155 eqs46 eqs64 eqs78
theorem eqT_sound {J : World → Prop} (hJ : Stable J) (xs ys : List It) : SoundAt Try.prog J 31 [.row 2 (xs.map itV), .row 2 (ys.map itV)] (.bool (decide (xs = ys))) [] := by
  refine SoundAt.row 0 rfl (callOk Try.func31 rfl rfl) fun hlen => ?_
  simp only [maxLen, List.length_map] at hlen
  refine evFn (l := []) (nv := nv0) (fz := fz0) (dr := dr31) (dd := dd31) (lam := []) trivial hJ trivial Try.func31 rfl rfl (Nat.le_of_ble_eq_true rfl) (Nat.le_of_ble_eq_true rfl) drOk31 ?_
  dsimp only [Try.f31, dr31, dd31, Option.getD_some]
  refine ev_start ?_
  by_cases hl : xs.length = ys.length
  · have hl' : (xs.length : Int) = ys.length := by omega
    simp (disch := omega) only [hl', List.length_map, go_sem, Int.reduceEq, Int.reduceLT, Int.reduceLE, Int.reduceNeg, Nat.reduceAdd, Nat.reduceLT, Nat.reduceEqDiff, Nat.reduceMul, Nat.reduceLeDiff, reduceIte, Nat.reduceBEq, reduceCtorEq, evP_D, evD_guard, evD_cons, evD_zero, evD_nil]
    refine evQ_loop [0, 1, 12, 13] [] (fun σ => ∃ k : Nat, (k ≤ ys.length ∧ xs.take k = ys.take k) ∧ σ = ⟨[(0, .row 2 (xs.map itV)), (1, .row 2 (ys.map itV)), (12, .int .i64 ys.length), (13, .int .i64 k)], []⟩) (fun σ => ys.length - (match Ev.look 13 σ.env with | some (.int _ n) => n.toNat | _ => 0)) ?_ ?_
    · simp only [go_sem, Int.reduceEq, Int.reduceLT, Int.reduceLE, Int.reduceNeg, Nat.reduceAdd, Nat.reduceLT, Nat.reduceEqDiff, Nat.reduceMul, Nat.reduceLeDiff, reduceIte, Nat.reduceBEq, reduceCtorEq, evP_D, evD_guard, evD_cons, evD_zero, evD_nil]
      exact ⟨0, ⟨Nat.zero_le _, rfl⟩, rfl⟩
    · rintro σ ⟨k, ⟨hk, hd⟩, rfl⟩
      by_cases hlt : k < ys.length
      · have hlt' : (k : Int) < ys.length := by omega
        have hlx : k < xs.length := by omega
        have hg := itV_get hlx
        have hg2 := itV_get hlt
        have he1 := (List.getElem?_eq_some_iff.1 (it_get hlx)).2
        have he2 := (List.getElem?_eq_some_iff.1 (it_get hlt)).2
        by_cases h1 : dy xs k = dy ys k
        · by_cases h2 : am xs k = am ys k
          · simp (disch := (first | omega | assumption)) only [hlt', idx_nat, List.length_map, hg, hg2, h1, h2, go_sem, Int.reduceEq, Int.reduceLT, Int.reduceLE, Int.reduceNeg, Nat.reduceAdd, Nat.reduceLT, Nat.reduceEqDiff, Nat.reduceMul, Nat.reduceLeDiff, reduceIte, Nat.reduceBEq, reduceCtorEq, evP_D, evD_guard, evD_cons, evD_zero, evD_nil]
            exact ⟨⟨k + 1, ⟨hlt, by rw [List.take_succ_eq_append_getElem hlx, List.take_succ_eq_append_getElem hlt, hd, he1, he2, h1, h2]⟩, rfl⟩, by show ys.length - ((k : Int) + 1).toNat < ys.length - (k : Int).toNat; omega⟩
          · have hne : xs ≠ ys := by intro h; subst h; exact h2 rfl
            simp (disch := (first | omega | assumption)) only [hlt', idx_nat, List.length_map, hg, hg2, h1, h2, hne, go_sem, Int.reduceEq, Int.reduceLT, Int.reduceLE, Int.reduceNeg, Nat.reduceAdd, Nat.reduceLT, Nat.reduceEqDiff, Nat.reduceMul, Nat.reduceLeDiff, reduceIte, Nat.reduceBEq, reduceCtorEq, evP_D, evD_guard, evD_cons, evD_zero, evD_nil]
        · have hne : xs ≠ ys := by intro h; subst h; exact h1 rfl
          simp (disch := (first | omega | assumption)) only [hlt', idx_nat, List.length_map, hg, hg2, h1, hne, go_sem, Int.reduceEq, Int.reduceLT, Int.reduceLE, Int.reduceNeg, Nat.reduceAdd, Nat.reduceLT, Nat.reduceEqDiff, Nat.reduceMul, Nat.reduceLeDiff, reduceIte, Nat.reduceBEq, reduceCtorEq, evP_D, evD_guard, evD_cons, evD_zero, evD_nil]
      · have hk' : k = ys.length := by omega
        subst hk'
        have hlt' : ¬ ((ys.length : Int) < ys.length) := by omega
        have he : xs = ys := by rw [← hl, List.take_length, hl, List.take_length] at hd; exact hd
        simp (disch := (first | omega | assumption)) only [hlt', he, go_sem, Int.reduceEq, Int.reduceLT, Int.reduceLE, Int.reduceNeg, Nat.reduceAdd, Nat.reduceLT, Nat.reduceEqDiff, Nat.reduceMul, Nat.reduceLeDiff, reduceIte, Nat.reduceBEq, reduceCtorEq, evP_D, evD_guard, evD_cons, evD_zero, evD_nil]
  · have hl' : ¬ (xs.length : Int) = ys.length := by omega
    have hne : xs ≠ ys := by intro h; subst h; exact hl rfl
    simp (disch := omega) only [hl', hne, List.length_map, go_sem, Int.reduceEq, Int.reduceLT, Int.reduceLE, Int.reduceNeg, Nat.reduceAdd, Nat.reduceLT, Nat.reduceEqDiff, Nat.reduceMul, Nat.reduceLeDiff, reduceIte, Nat.reduceBEq, reduceCtorEq, evP_D, evD_guard, evD_cons, evD_zero, evD_nil]
theorem bsI_sound {J : World → Prop} (l : List Int) (x : Int) (hs : l.Pairwise (· ≤ ·)) (hl : l.length ≤ 1000) : SoundAt Try.prog J 69 [.row 1 (l.map (V.int .i64)), .int .i64 x] (.tup [.int .i64 (cnt l x), .bool (l.contains x)]) [] := by
  refine ⟨callOk Try.func69 rfl rfl, fun w ok us hJ hok hlen hrel => ?_⟩
  match us, hlen with
  | [s, u], _ =>
    have hs0 := hrel 0 _ s rfl rfl
    have hu0 : RelD w ok (.int .i64 x) u := hrel 1 _ u rfl rfl
    cases hu0
    have fin : ∀ (e : Ending) (w' : World), e = .returned (.tuple #[.int .i64 (cnt l x), .bool (l.contains x)]) → (∃ q, w' = w.drewN q) →
        ∃ val ρr, e = .returned val ∧ Below w.heap.size w w' ∧ Inv ok w.heap.size w' ρr (fun j => ([] : List Blk)[j]?) ∧ Rel w' (okAt ok w.heap.size ρr w') ρr (.tup [.int .i64 (cnt l x), .bool (l.contains x)]) val := by
      rintro e w' rfl ⟨q, rfl⟩
      have hb := below_drewN (Below.refl w.heap.size w) q
      refine ⟨_, fun _ => none, rfl, hb, ⟨hb.size, fun b k hk => (by simp at hk), fun b sv hr => (by cases hr), fun b b' sv sv' g h1 => (by cases h1)⟩, .ro (.tup [.int .i64 (cnt l x), .bool (l.contains x)] [.int .i64 (cnt l x), .bool (l.contains x)] rfl fun j c v hc hv => ?_)⟩
      match j with
      | 0 => simp at hc hv; subst hc; subst hv; exact .int _ _
      | 1 => simp at hc hv; subst hc; subst hv; exact .bool _
      | _ + 2 => simp at hc
    generalize hes : l.map (V.int .i64) = es at hs0
    cases hs0 with
    | nil _ a =>
      have hl0 : l = [] := List.map_eq_nil_iff.1 hes
      subst hl0
      refine (show Calls Try.prog 69 _ w _ from Any.slices_BinarySearch_int_empty Try.laysNm225 a 0 x w).mono ?_
      rintro e w' ⟨rfl, rfl⟩
      exact fin _ _ rfl ⟨0, rfl⟩
    | row _ _ g o cap vs hokg hcap hmax hvl hsz h1 hc hr =>
      subst hes
      rw [List.length_map] at hvl ⊢
      have hvs := ints_of l vs hvl hr
      subst hvs
      have hcell : ∀ j, j < l.length → w.cell? ⟨g, o + j, none⟩ = some (.int .i64 (l.getD j 0)) := fun j hj => by
        have h2 := hc j (.int .i64 (l.getD j 0)) (by simp [hj]) 0 (.int .i64 (l.getD j 0)) rfl
        rwa [Nat.mul_one, Nat.add_zero] at h2
      refine (show Calls Try.prog 69 _ w _ from Any.slices_BinarySearch_int Try.laysNm225 g o l.length cap l x w (Nat.le_refl _) (by omega) hcell (by rw [List.take_length]; exact hs)).mono ?_
      rintro e w' ⟨rfl, hq⟩
      rw [List.take_length]
      exact fin _ _ rfl hq
theorem bsx {J : World → Prop} (l : List Int) (hs : l.Pairwise (· ≤ ·)) (hl : l.length ≤ 1000) : ∃ F : List V → Option (V × List Blk), (∀ x : Int, F [.row 1 (l.map (V.int .i64)), .int .i64 x] = some (.tup [.int .i64 (cnt l x), .bool (l.contains x)], [])) ∧ Snd Try.prog J 69 F :=
  famz (P := Try.prog) (J := J) (f := 69) (fun x : Int => [.row 1 (l.map (V.int .i64)), .int .i64 x]) (fun x => (.tup [.int .i64 (cnt l x), .bool (l.contains x)], [])) (fun i j h => by
    simp only [List.cons.injEq, V.int.injEq, true_and, and_true] at h
    rw [h]) fun x => bsI_sound l x hs hl
theorem int_get {l : List Int} {k : Nat} (h : k < l.length) : (l.map (V.int .i64))[k]? = some (.int .i64 (l.getD k 0)) := by
  simp [h]
/-- one round of an age -/
theorem ag_set {b : List Int} {today : Int} {l : List It} {k c : Nat} (hk : k < l.length) (hc : c = cnt b (mx 0 (today - dy l k))) : ((agL b today l k).map (V.int .i64)).set c (.int .i64 ((agL b today l k).getD c 0 + am l k)) = (agL b today l (k + 1)).map (V.int .i64) := by
  rw [agL_succ hk]
  unfold agStep
  simp only
  rw [← hc, List.map_set]
def agesE (l : List It) (today : Int) (b : List Int) : Int := if itE l = 0 then (if 0 ≤ today ∧ today ≤ 292193 then (if 40 < b.length then 2 else bdF 0 b b.length) else 1) else itE l
def agesV (l : List It) (today : Int) (b : List Int) : V × List Blk := if agesE l today b = 0 then (.tup [.vec 0, .int .i64 0], [.vec 3 1 ((agL b today l l.length).map (V.int .i64))]) else (.tup [.zero, .int .i64 (agesE l today b)], [])
set_option maxHeartbeats 4000000 in
theorem ages_sound {J : World → Prop} (hJ : Stable J) (l : List It) (today : Int) (b : List Int) : SoundAt Try.prog J 28 [.row 2 (l.map itV), .int .i64 today, .row 1 (b.map (V.int .i64))] (agesV l today b).1 (agesV l today b).2 := by
  refine SoundAt.row 2 rfl (callOk Try.func28 rfl rfl) fun hlen => ?_
  simp only [maxLen, List.length_map] at hlen
  obtain ⟨CF, hCF, sCF⟩ := achkx hJ
  have hC := hCF l
  by_cases e : itE l = 0
  case neg =>
    have hE : agesE l today b = itE l := by unfold agesE; rw [if_neg e]
    have hV : agesV l today b = (.tup [.zero, .int .i64 (itE l)], []) := by unfold agesV; rw [hE, if_neg e]
    rw [hV]
    refine evFn (l := [(29, CF)]) (nv := nv0) (fz := fz0) (dr := dr28) (dd := dd28) (lam := []) ⟨sCF, trivial⟩ hJ trivial Try.func28 rfl rfl (Nat.le_of_ble_eq_true rfl) (Nat.le_of_ble_eq_true rfl) drOk28 ?_
    dsimp only [Try.f28, dr28, dd28, Option.getD_some]
    refine ev_start ?_
    simp (disch := omega) only [hC, e, go_sem, Int.reduceEq, Int.reduceLT, Int.reduceLE, Int.reduceNeg, Nat.reduceAdd, Nat.reduceLT, Nat.reduceEqDiff, Nat.reduceMul, Nat.reduceLeDiff, reduceIte, Nat.reduceBEq, reduceCtorEq, evP_D, evD_guard, evD_cons, evD_zero, evD_nil]
  rw [e] at hC
  by_cases ht : 0 ≤ today ∧ today ≤ 292193
  case neg =>
    have hE : agesE l today b = 1 := by unfold agesE; rw [if_pos e, if_neg ht]
    have hV : agesV l today b = (.tup [.zero, .int .i64 1], []) := by unfold agesV; rw [hE, if_neg (by omega)]
    rw [hV]
    have ht' : decide (0 ≤ today ∧ today ≤ 292193) = false := decide_eq_false ht
    refine evFn (l := [(29, CF), (55, isTF)]) (nv := nv0) (fz := fz0) (dr := dr28) (dd := dd28) (lam := []) ⟨sCF, tis_snd hJ, trivial⟩ hJ trivial Try.func28 rfl rfl (Nat.le_of_ble_eq_true rfl) (Nat.le_of_ble_eq_true rfl) drOk28 ?_
    dsimp only [Try.f28, dr28, dd28, Option.getD_some]
    refine ev_start ?_
    simp (disch := omega) only [hC, isTF_eq, ht', go_sem, Int.reduceEq, Int.reduceLT, Int.reduceLE, Int.reduceNeg, Nat.reduceAdd, Nat.reduceLT, Nat.reduceEqDiff, Nat.reduceMul, Nat.reduceLeDiff, reduceIte, Nat.reduceBEq, reduceCtorEq, evP_D, evD_guard, evD_cons, evD_zero, evD_nil]
  by_cases h4 : 40 < b.length
  · have h4' : (40 : Int) < b.length := by omega
    have hE : agesE l today b = 2 := by unfold agesE; rw [if_pos e, if_pos ht, if_pos h4]
    have hV : agesV l today b = (.tup [.zero, .int .i64 2], []) := by unfold agesV; rw [hE, if_neg (by omega)]
    rw [hV]
    refine evFn (l := [(29, CF), (55, isTF)]) (nv := nv0) (fz := fz0) (dr := dr28) (dd := dd28) (lam := []) ⟨sCF, tis_snd hJ, trivial⟩ hJ trivial Try.func28 rfl rfl (Nat.le_of_ble_eq_true rfl) (Nat.le_of_ble_eq_true rfl) drOk28 ?_
    dsimp only [Try.f28, dr28, dd28, Option.getD_some]
    refine ev_start ?_
    simp (disch := omega) only [hC, isTF_eq, ht, h4', and_self, List.length_map, go_sem, Int.reduceEq, Int.reduceLT, Int.reduceLE, Int.reduceNeg, Nat.reduceAdd, Nat.reduceLT, Nat.reduceEqDiff, Nat.reduceMul, Nat.reduceLeDiff, reduceIte, Nat.reduceBEq, reduceCtorEq, evP_D, evD_guard, evD_cons, evD_zero, evD_nil]
  have h4' : ¬ (40 : Int) < b.length := by omega
  have hE : agesE l today b = bdF 0 b b.length := by unfold agesE; rw [if_pos e, if_pos ht, if_neg h4]
  have hok := itE_0 e
  have h40 := hok.1
  have hbs : ∃ F : List V → Option (V × List Blk), (bdF 0 b b.length = 0 → ∀ x : Int, F [.row 1 (b.map (V.int .i64)), .int .i64 x] = some (.tup [.int .i64 (cnt b x), .bool (b.contains x)], [])) ∧ Snd Try.prog J 69 F := by
    by_cases h0 : bdF 0 b b.length = 0
    · obtain ⟨F, h1, h2⟩ := bsx (J := J) b (bd_pairwise h0) (by omega)
      exact ⟨F, fun _ => h1, h2⟩
    · exact ⟨fun _ => none, fun h => absurd h h0, fun args r bs h => by cases h⟩
  obtain ⟨BF, hBF, sBF⟩ := hbs
  refine evFn (l := [(29, CF), (55, isTF), (69, BF)]) (nv := nv0) (fz := fz0) (dr := dr28) (dd := dd28) (lam := []) ⟨sCF, tis_snd hJ, sBF, trivial⟩ hJ trivial Try.func28 rfl rfl (Nat.le_of_ble_eq_true rfl) (Nat.le_of_ble_eq_true rfl) drOk28 ?_
  dsimp only [Try.f28, dr28, dd28, Option.getD_some]
  refine ev_start ?_
  simp (disch := omega) only [hC, isTF_eq, ht, h4', and_self, List.length_map, go_sem, Int.reduceEq, Int.reduceLT, Int.reduceLE, Int.reduceNeg, Nat.reduceAdd, Nat.reduceLT, Nat.reduceEqDiff, Nat.reduceMul, Nat.reduceLeDiff, reduceIte, Nat.reduceBEq, reduceCtorEq, evP_D, evD_guard, evD_cons, evD_zero, evD_nil]
  refine evQ_loop [0, 1, 2, 27, 28, 29] [] (fun σ => ∃ (k : Nat), (k ≤ b.length ∧ bdF 0 b k = 0) ∧ σ = ⟨[(0, .row 2 (l.map itV)), (1, .int .i64 today), (2, .row 1 (b.map (V.int .i64))), (27, .row 1 (b.map (V.int .i64))), (28, .int .i64 b.length), (29, .int .i64 k)], []⟩)
    (fun σ => b.length - (match Ev.look 29 σ.env with | some (.int _ n) => n.toNat | _ => 0)) ?_ ?_
  · simp only [go_sem, Int.reduceEq, Int.reduceLT, Int.reduceLE, Int.reduceNeg, Nat.reduceAdd, Nat.reduceLT, Nat.reduceEqDiff, Nat.reduceMul, Nat.reduceLeDiff, reduceIte, Nat.reduceBEq, reduceCtorEq, evP_D, evD_guard, evD_cons, evD_zero, evD_nil]
    exact ⟨0, ⟨Nat.zero_le _, rfl⟩, rfl⟩
  · rintro σ ⟨k, ⟨hk, hpre⟩, rfl⟩
    by_cases hlt : k < b.length
    · have hlt' : (k : Int) < b.length := by omega
      have hg := int_get hlt
      have hms : b.length - ((k : Int) + 1).toNat < b.length - (k : Int).toNat := by
        have e3 : ((k : Int) + 1).toNat = k + 1 := by omega
        rw [e3, Int.toNat_natCast]; omega
      have hstep : bdF 0 b (k + 1) = bdStep b 0 k := by rw [bdF, hpre]
      have hout : ∀ x : Int, bdStep b 0 k = x → x ≠ 0 → agesV l today b = (.tup [.zero, .int .i64 x], []) := fun x hx hx0 => by
        have : bdF 0 b b.length = x := by
          rw [bdF_fin (show k + 1 ≤ b.length by omega) (by rw [hstep, hx]; exact hx0), hstep, hx]
        unfold agesV
        rw [hE, this, if_neg hx0]
      by_cases hd : 0 ≤ b.getD k 0 ∧ b.getD k 0 ≤ 292193
      · have d1 : ¬ b.getD k 0 < 0 := by omega
        have d2 : ¬ 292193 < b.getD k 0 := by omega
        cases k with
        | zero =>
          have z0 : ((0 : Nat) : Int) = 0 := rfl
          have h0 : ¬ (0 : Int) < 0 := by omega
          have hst : bdStep b 0 0 = 0 := by unfold bdStep; rw [if_pos rfl, if_pos hd, if_neg (by omega)]
          rw [z0] at hlt' ⊢
          have hi0 : idx b.length 0 = some 0 := by
            have := idx_nat _ _ hlt
            rwa [z0] at this
          simp (disch := (first | omega | assumption)) only [hlt', hi0, List.length_map, hg, d1, d2, h0, go_sem, Int.reduceEq, Int.reduceLT, Int.reduceLE, Int.reduceNeg, Nat.reduceAdd, Nat.reduceLT, Nat.reduceEqDiff, Nat.reduceMul, Nat.reduceLeDiff, reduceIte, Nat.reduceBEq, reduceCtorEq, evP_D, evD_guard, evD_cons, evD_zero, evD_nil]
          exact ⟨⟨1, ⟨hlt, by rw [hstep, hst]⟩, rfl⟩, hms⟩
        | succ m =>
          have e1 : ((m + 1 : Nat) : Int) = (m : Int) + 1 := by omega
          have e2 : (m : Int) + 1 - 1 = m := by omega
          have e4 : (m : Int) + 1 = ((m + 1 : Nat) : Int) := by omega
          have h0 : (0 : Int) < (m : Int) + 1 := by omega
          have hgm := int_get (show m < b.length by omega)
          have hlm : m < b.length := by omega
          have hidx : idx b.length ((m : Int) + 1) = some (m + 1) := by rw [e4]; exact idx_nat _ _ hlt
          rw [e1] at hlt' hms ⊢
          by_cases hc : b.getD (m + 1) 0 ≤ b.getD m 0
          · have hst : bdStep b 0 (m + 1) = 3 := by unfold bdStep; rw [if_pos rfl, if_pos hd, if_pos ⟨by omega, by rw [Nat.add_sub_cancel]; exact hc⟩]
            rw [hout 3 hst (by omega)]
            simp (disch := (first | omega | assumption)) only [hlt', hidx, idx_nat, List.length_map, hg, hgm, d1, d2, h0, e2, hc, go_sem, Int.reduceEq, Int.reduceLT, Int.reduceLE, Int.reduceNeg, Nat.reduceAdd, Nat.reduceLT, Nat.reduceEqDiff, Nat.reduceMul, Nat.reduceLeDiff, reduceIte, Nat.reduceBEq, reduceCtorEq, evP_D, evD_guard, evD_cons, evD_zero, evD_nil]
          · have hst : bdStep b 0 (m + 1) = 0 := by unfold bdStep; rw [if_pos rfl, if_pos hd, if_neg (by rw [Nat.add_sub_cancel]; rintro ⟨_, h⟩; exact hc h)]
            simp (disch := (first | omega | assumption)) only [hlt', hidx, idx_nat, List.length_map, hg, hgm, d1, d2, h0, e2, hc, go_sem, Int.reduceEq, Int.reduceLT, Int.reduceLE, Int.reduceNeg, Nat.reduceAdd, Nat.reduceLT, Nat.reduceEqDiff, Nat.reduceMul, Nat.reduceLeDiff, reduceIte, Nat.reduceBEq, reduceCtorEq, evP_D, evD_guard, evD_cons, evD_zero, evD_nil]
            exact ⟨⟨m + 1 + 1, ⟨hlt, by rw [hstep, hst]⟩, rfl⟩, hms⟩
      · have hst : bdStep b 0 k = 1 := by unfold bdStep; rw [if_pos rfl, if_neg hd]
        rw [hout 1 hst (by omega)]
        by_cases d1 : b.getD k 0 < 0
        · simp (disch := (first | omega | assumption)) only [hlt', idx_nat, List.length_map, hg, d1, go_sem, Int.reduceEq, Int.reduceLT, Int.reduceLE, Int.reduceNeg, Nat.reduceAdd, Nat.reduceLT, Nat.reduceEqDiff, Nat.reduceMul, Nat.reduceLeDiff, reduceIte, Nat.reduceBEq, reduceCtorEq, evP_D, evD_guard, evD_cons, evD_zero, evD_nil]
        · have d2 : 292193 < b.getD k 0 := by omega
          simp (disch := (first | omega | assumption)) only [hlt', idx_nat, List.length_map, hg, d1, d2, go_sem, Int.reduceEq, Int.reduceLT, Int.reduceLE, Int.reduceNeg, Nat.reduceAdd, Nat.reduceLT, Nat.reduceEqDiff, Nat.reduceMul, Nat.reduceLeDiff, reduceIte, Nat.reduceBEq, reduceCtorEq, evP_D, evD_guard, evD_cons, evD_zero, evD_nil]
    · have hk' : k = b.length := by omega
      subst hk'
      have hV : agesV l today b = (.tup [.vec 0, .int .i64 0], [.vec 3 1 ((agL b today l l.length).map (V.int .i64))]) := by unfold agesV; rw [hE, hpre, if_pos rfl]
      rw [hV]
      have hB := hBF hpre
      have hlt' : ¬ ((b.length : Int) < b.length) := by omega
      have f1 : (0 : Int) ≤ (b.length : Int) + 1 := by omega
      have f2 : ((b.length : Int) + 1) * 8 ≤ 140737488355328 := by omega
      have f3 : (b.length : Int) + 1 ≤ 9223372036854775807 := by omega
      have f4 : ((b.length : Int) + 1).toNat = b.length + 1 := by omega
      simp (disch := (first | omega | assumption)) only [hlt', makeV, f1, f2, f3, f4, List.length_replicate, List.length_map, go_sem, Int.reduceEq, Int.reduceLT, Int.reduceLE, Int.reduceNeg, Nat.reduceAdd, Nat.reduceLT, Nat.reduceEqDiff, Nat.reduceMul, Nat.reduceLeDiff, reduceIte, Nat.reduceBEq, reduceCtorEq, evP_D, evD_guard, evD_cons, evD_zero, evD_nil]
      refine evQ_loop [1, 2, 11, 56, 57, 58] [440] (fun σ => ∃ (k : Nat), k ≤ l.length ∧ σ = ⟨[(1, .int .i64 today), (2, .row 1 (b.map (V.int .i64))), (11, .vec 440), (56, .row 2 (l.map itV)), (57, .int .i64 l.length), (58, .int .i64 k)],
          [(440, .vec 3 1 ((agL b today l k).map (V.int .i64)))]⟩)
        (fun σ => l.length - (match Ev.look 58 σ.env with | some (.int _ n) => n.toNat | _ => 0)) ?_ ?_
      · simp only [go_sem, Int.reduceEq, Int.reduceLT, Int.reduceLE, Int.reduceNeg, Nat.reduceAdd, Nat.reduceLT, Nat.reduceEqDiff, Nat.reduceMul, Nat.reduceLeDiff, reduceIte, Nat.reduceBEq, reduceCtorEq, evP_D, evD_guard, evD_cons, evD_zero, evD_nil]
        exact ⟨0, Nat.zero_le _, by rw [agL_zero, List.map_replicate]; rfl⟩
      · rintro σ ⟨k, hk, rfl⟩
        by_cases hkl : k < l.length
        · have hkl' : (k : Int) < l.length := by omega
          have hit := itV_get hkl
          have bi := it_bd hok hkl
          have hal := agL_len b today l k hk
          have hms : l.length - ((k : Int) + 1).toNat < l.length - (k : Int).toNat := by
            have e3 : ((k : Int) + 1).toNat = k + 1 := by omega
            rw [e3, Int.toNat_natCast]; omega
          by_cases hv : today - dy l k > 0
          · have em : mx 0 (today - dy l k) = today - dy l k := if_pos hv
            have hBk := hB (today - dy l k)
            obtain ⟨c, hc⟩ : ∃ c, c = cnt b (today - dy l k) := ⟨_, rfl⟩
            have hcl := cnt_le b (today - dy l k)
            have hset := ag_set (b := b) (today := today) hkl (c := c) (by rw [em]; exact hc)
            rw [← hc] at hBk hcl
            have hga := int_get (l := agL b today l k) (k := c) (by omega)
            have hab := agL_bd (b := b) (today := today) hok k hk c
            simp (disch := (first | omega | assumption)) only [hkl', idx_nat, List.length_map, hit, hv, hBk, hal, hga, hset, go_sem, Int.reduceEq, Int.reduceLT, Int.reduceLE, Int.reduceNeg, Nat.reduceAdd, Nat.reduceLT, Nat.reduceEqDiff, Nat.reduceMul, Nat.reduceLeDiff, reduceIte, Nat.reduceBEq, reduceCtorEq, evP_D, evD_guard, evD_cons, evD_zero, evD_nil]
            exact ⟨⟨k + 1, hkl, rfl⟩, hms⟩
          · have em : mx 0 (today - dy l k) = 0 := if_neg hv
            have hBk := hB 0
            obtain ⟨c, hc⟩ : ∃ c, c = cnt b 0 := ⟨_, rfl⟩
            have hcl := cnt_le b 0
            have hset := ag_set (b := b) (today := today) hkl (c := c) (by rw [em]; exact hc)
            rw [← hc] at hBk hcl
            have hga := int_get (l := agL b today l k) (k := c) (by omega)
            have hab := agL_bd (b := b) (today := today) hok k hk c
            simp (disch := (first | omega | assumption)) only [hkl', idx_nat, List.length_map, hit, hv, hBk, hal, hga, hset, go_sem, Int.reduceEq, Int.reduceLT, Int.reduceLE, Int.reduceNeg, Nat.reduceAdd, Nat.reduceLT, Nat.reduceEqDiff, Nat.reduceMul, Nat.reduceLeDiff, reduceIte, Nat.reduceBEq, reduceCtorEq, evP_D, evD_guard, evD_cons, evD_zero, evD_nil]
            exact ⟨⟨k + 1, hkl, rfl⟩, hms⟩
        · have hkl2 : k = l.length := by omega
          subst hkl2
          have hkl' : ¬ ((l.length : Int) < l.length) := by omega
          simp (disch := (first | omega | assumption)) only [hkl', go_sem, Int.reduceEq, Int.reduceLT, Int.reduceLE, Int.reduceNeg, Nat.reduceAdd, Nat.reduceLT, Nat.reduceEqDiff, Nat.reduceMul, Nat.reduceLeDiff, reduceIte, Nat.reduceBEq, reduceCtorEq, evP_D, evD_guard, evD_cons, evD_zero, evD_nil]
end Go.Proofs.Ytdjdipehfnnhpaa
