/-
  Payments of both packages, run by the machine.
-/
import Derived.Test.YtdjdipehfnnhpaaAgE
import Derived.Test.YtdjdipehfnnhpaaTiG
namespace Go.Proofs.Ytdjdipehfnnhpaa
open Go Go.Ev Go.RowKit Go.Tie Go.Spl Go.Srt Go.Lib
set_option maxHeartbeats 4000000
set_option linter.unusedSimpArgs false
set_option linter.unusedVariables false
attribute [local go_sem] subE partR boundsV ownP sliceW copyV clearV lenM takeV tk1 mapsV mkMapV hintOk lookV updV mapKE keyOk V.key app_lend callW_fn lendV postL_ret postL_normal postT_ret postT_normal takeR St.lent mkX_L bin_eql_vz bin_eql_zv bin_eql_rz bin_eql_zr bin_eql_zz bin_neq_vz bin_neq_zv bin_neq_rz bin_neq_zr bin_neq_zz eqH nilEq nonE plainI gOf_bool gOf_skip g_some g_none Int.ofNat_zero Int.cast_ofNat_Int Bool.false_and Bool.and_false sliceV noBox elemsZ V.scrub V.scrubL Blk.scrub appendV isSlice maxLen_eq leT List.contains_nil List.contains_cons nvL_at fzL_at fillV V.plain V.plainL Blk.plain List.size_toArray mapO_nil mapO_cons Option.isNone_none Option.isNone_some beqT beqF oI_not mkX_e phi_nil phi_cons bin_eql_bool bin_neq_bool bin_eql_agg bin_neq_agg eqV eqFs eqK_int eqK_bool' eqK_str mkX_T mkX_Φ mkX_n mkX_f mkX_d mkX_r nv0_at fz0_at evQ_dr evP_W evW_nil evW_cons evW_guard okW_eq tame_none tame_new tame_write wb_none wb_new wb_write okU_some offW_none offW_some touchOf V.noRef V.noRefL Option.isSome_some Option.isSome_none mild_none mild_new Option.getD_some Option.getD_none evQ_seq evQ_region evQ_block evQ_cond evQ_ret evQ_skip evQ_exit evO_cons evO_nil evO_guard freezeL_nil oS_some oS_none oS_ite oS_ite' oB_bool oI_true oI_false oE_normal oE_exit oE_ret bQ_normal bQ_ret bQ_exit lQ_normal lQ_ret lQ_exit List.zipIdx_cons List.zipIdx_nil List.map_cons List.map_nil evalOp opd_const opd_tmp opd_func ofC_int ofC_bool ofC_str ofC_nil app_none app_new app_write app_change putE_some putE_none setA_cons setA_nil setH_cons setH_nil mapA_cons mapA_nil look_cons look_nil e_mk h_mk drop_nil drop_mk keep_mk dstOk_some dstOk_none guardT_eq true_and and_true Bool.not_false Bool.not_true selB_true selB_false mem_nil mem_cons kpL_nil kpL_cons drL_nil drL_cons closed_mk V.refsIn V.refsInL Blk.refsIn List.all_cons List.all_nil lenV bin_add bin_sub bin_mul bin_quo bin_rem bin_eql bin_neq bin_lss bin_leq bin_gtr bin_geq un_neg un_not post_ret post_normal St.init Bool.false_eq_true List.length_map Bool.or_false Bool.or_true Bool.false_or Bool.true_or beq_self_eq_true Option.map_some Option.map_none Option.bind_some List.getElem?_cons_zero List.getElem?_cons_succ scalar stor isAggV V.cells List.cons_append List.nil_append if_true if_false wrap_of callV V.dataL V.data Bool.and_true Bool.true_and fresh names V.ren V.renL retV resV packL packV packC getBlks wrapR subV putV decide_true decide_false TK.agg List.length_cons List.length_nil List.take_succ_cons List.take_zero List.drop_succ_cons List.drop_zero List.take_nil List.drop_nil Nat.zero_add Nat.add_zero List.append_nil List.getElem?_nil elemsV ro ro0 ro1 roC ty2 ty3 ty4 ty5 ty6 ty7 ty8 ty9 ty10 ty11 ty12 ty13 ty14 ty18 ty19 ty21 ty24 ty25 ty33 ty34 ty35 ty36 ty41 ty42 ty43 ty45 ty46 ty53 ty63 ty64 ty69 ty74 ty77 ty78 ty96 ty98 ty108 ty115 ty142 ty143 ty148 ty149 ty152 ty153 ty154 ty155 eqs46 eqs64 eqs78
theorem insT_nil {J : World → Prop} (hJ : Stable J) : SoundAt Try.prog J 103 [.row 2 [], .int .i64 0, .int .i64 0, .fn 66 []] (.tup []) [] := by
  refine evFn (l := []) (nv := nv0) (fz := fz0) (dr := dr103) (dd := dd103) (lam := []) trivial hJ trivial Try.func103 rfl rfl (Nat.le_of_ble_eq_true rfl) (Nat.le_of_ble_eq_true rfl) drOk103 ?_
  dsimp only [Try.f103, dr103, dd103, Option.getD_some]
  refine ev_start ?_
  simp (disch := omega) only [go_sem, Int.reduceEq, Int.reduceLT, Int.reduceLE, Int.reduceNeg, Nat.reduceAdd, Nat.reduceLT, Nat.reduceEqDiff, Nat.reduceMul, Nat.reduceLeDiff, reduceIte, Nat.reduceBEq, reduceCtorEq, evP_D, evD_guard, evD_cons, evD_zero, evD_nil]
  refine evQ_loop [0, 1, 2, 3, 8] [] (fun σ => σ = ⟨[(0, .row 2 []), (1, .int .i64 0), (2, .int .i64 0), (3, .fn 66 []), (8, .int .i64 1)], []⟩) (fun _ => 0) ?_ ?_
  · simp only [go_sem, Int.reduceEq, Int.reduceLT, Int.reduceLE, Int.reduceNeg, Nat.reduceAdd, Nat.reduceLT, Nat.reduceEqDiff, Nat.reduceMul, Nat.reduceLeDiff, reduceIte, Nat.reduceBEq, reduceCtorEq, evP_D, evD_guard, evD_cons, evD_zero, evD_nil]
    rfl
  · rintro σ rfl
    have h : ¬ (1 : Int) < 0 := by omega
    simp (disch := omega) only [h, go_sem, Int.reduceEq, Int.reduceLT, Int.reduceLE, Int.reduceNeg, Nat.reduceAdd, Nat.reduceLT, Nat.reduceEqDiff, Nat.reduceMul, Nat.reduceLeDiff, reduceIte, Nat.reduceBEq, reduceCtorEq, evP_D, evD_guard, evD_cons, evD_zero, evD_nil]
theorem stbT_nil {J : World → Prop} (hJ : Stable J) : SoundAt Try.prog J 90 [.row 2 [], .int .i64 0, .fn 66 []] (.tup []) [] := by
  have hI := insT_nil hJ
  refine evFn (l := [(103, at1 _ (_, []))]) (nv := nv0) (fz := fz0) (dr := dr90) (dd := dd90) (lam := []) ⟨at1_snd hI, trivial⟩ hJ trivial Try.func90 rfl rfl (Nat.le_of_ble_eq_true rfl) (Nat.le_of_ble_eq_true rfl) drOk90 ?_
  dsimp only [Try.f90, dr90, dd90, Option.getD_some]
  refine ev_start ?_
  simp (disch := omega) only [go_sem, Int.reduceEq, Int.reduceLT, Int.reduceLE, Int.reduceNeg, Nat.reduceAdd, Nat.reduceLT, Nat.reduceEqDiff, Nat.reduceMul, Nat.reduceLeDiff, reduceIte, Nat.reduceBEq, reduceCtorEq, evP_D, evD_guard, evD_cons, evD_zero, evD_nil]
  refine evQ_loop [0, 1, 2, 6, 7, 8] [] (fun σ => σ = ⟨[(0, .row 2 []), (1, .int .i64 0), (2, .fn 66 []), (6, .int .i64 20), (7, .int .i64 0), (8, .int .i64 20)], []⟩) (fun _ => 0) ?_ ?_
  · simp only [go_sem, Int.reduceEq, Int.reduceLT, Int.reduceLE, Int.reduceNeg, Nat.reduceAdd, Nat.reduceLT, Nat.reduceEqDiff, Nat.reduceMul, Nat.reduceLeDiff, reduceIte, Nat.reduceBEq, reduceCtorEq, evP_D, evD_guard, evD_cons, evD_zero, evD_nil]
  · rintro σ rfl
    have h : ¬ (20 : Int) ≤ 0 := by omega
    simp (disch := omega) only [h, at1_eq, go_sem, Int.reduceEq, Int.reduceLT, Int.reduceLE, Int.reduceNeg, Nat.reduceAdd, Nat.reduceLT, Nat.reduceEqDiff, Nat.reduceMul, Nat.reduceLeDiff, reduceIte, Nat.reduceBEq, reduceCtorEq, evP_D, evD_guard, evD_cons, evD_zero, evD_nil]
    refine evQ_loop [0, 1, 2, 6] [] (fun σ => σ = ⟨[(0, .row 2 []), (1, .int .i64 0), (2, .fn 66 []), (6, .int .i64 20)], []⟩) (fun _ => 0) ?_ ?_
    · simp only [go_sem, Int.reduceEq, Int.reduceLT, Int.reduceLE, Int.reduceNeg, Nat.reduceAdd, Nat.reduceLT, Nat.reduceEqDiff, Nat.reduceMul, Nat.reduceLeDiff, reduceIte, Nat.reduceBEq, reduceCtorEq, evP_D, evD_guard, evD_cons, evD_zero, evD_nil]
    · rintro σ rfl
      have h : ¬ (20 : Int) < 0 := by omega
      simp (disch := omega) only [h, go_sem, Int.reduceEq, Int.reduceLT, Int.reduceLE, Int.reduceNeg, Nat.reduceAdd, Nat.reduceLT, Nat.reduceEqDiff, Nat.reduceMul, Nat.reduceLeDiff, reduceIte, Nat.reduceBEq, reduceCtorEq, evP_D, evD_guard, evD_cons, evD_zero, evD_nil]
theorem srtT_nil {J : World → Prop} (hJ : Stable J) : SoundAt Try.prog J 65 [.row 2 [], .fn 66 []] (.tup []) [] := by
  have hI := stbT_nil hJ
  refine evFn (l := [(90, at1 _ (_, []))]) (nv := nv0) (fz := fz0) (dr := dr65) (dd := dd65) (lam := []) ⟨at1_snd hI, trivial⟩ hJ trivial Try.func65 rfl rfl (Nat.le_of_ble_eq_true rfl) (Nat.le_of_ble_eq_true rfl) drOk65 ?_
  dsimp only [Try.f65, dr65, dd65, Option.getD_some]
  refine ev_start ?_
  simp (disch := omega) only [at1_eq, go_sem, Int.reduceEq, Int.reduceLT, Int.reduceLE, Int.reduceNeg, Nat.reduceAdd, Nat.reduceLT, Nat.reduceEqDiff, Nat.reduceMul, Nat.reduceLeDiff, reduceIte, Nat.reduceBEq, reduceCtorEq, evP_D, evD_guard, evD_cons, evD_zero, evD_nil]
theorem delT_nil {J : World → Prop} (hJ : Stable J) : SoundAt Try.prog J 67 [.row 2 [], .fn 68 []] (.row 2 []) [] := by
  have hI := indexT_sound hJ 68 pay2F (pay2_snd hJ) (fun x => decide (x.2 = 0)) [] (fun x => rfl)
  have e1 : idxT (fun x => decide (x.2 = 0)) [] = -1 := rfl
  rw [e1, List.map_nil] at hI
  refine evFn (l := [(91, at1 _ (_, []))]) (nv := nv0) (fz := fz0) (dr := dr67) (dd := dd67) (lam := []) ⟨at1_snd hI, trivial⟩ hJ trivial Try.func67 rfl rfl (Nat.le_of_ble_eq_true rfl) (Nat.le_of_ble_eq_true rfl) drOk67 ?_
  dsimp only [Try.f67, dr67, dd67, Option.getD_some]
  refine ev_start ?_
  simp (disch := omega) only [at1_eq, go_sem, Int.reduceEq, Int.reduceLT, Int.reduceLE, Int.reduceNeg, Nat.reduceAdd, Nat.reduceLT, Nat.reduceEqDiff, Nat.reduceMul, Nat.reduceLeDiff, reduceIte, Nat.reduceBEq, reduceCtorEq, evP_D, evD_guard, evD_cons, evD_zero, evD_nil]
def Rdlt (T : TypeId) (sz : Nat) (es xs es' : List V) : Prop := (T = 64 ∧ sz = 2) ∧ ∃ (l : List It), es = l.map itV ∧ xs = [.fn 68 []] ∧ l.length ≤ 1000 ∧ es' = (l.filter keep).map itV
theorem Rdlt_eq (l : List It) (h : l.length ≤ 1000) : pickL Rdlt 64 2 (l.map itV) [.fn 68 []] = some ((l.filter keep).map itV) := by
  refine pickL_eq ⟨⟨rfl, rfl⟩, l, rfl, rfl, h, rfl⟩ ?_
  rintro e ⟨_, l', h1, _, _, rfl⟩
  have := itV_inj h1
  subst this
  rfl
theorem Rdlt_ok {J : World → Prop} (hJ : Stable J) : ∀ T sz es xs es', pickL Rdlt T sz es xs = some es' → TakeAt Try.prog J 67 T sz es xs es' := by
  intro T sz es xs es' h
  obtain ⟨⟨rfl, rfl⟩, l, rfl, rfl, h1, rfl⟩ := pickL_of h
  exact delT_take hJ l h1
def payE (l : List It) (a : Int) : Int := if itE l = 0 then (if 0 ≤ a ∧ a ≤ 1000000000000 then 0 else 1) else itE l
noncomputable def payL (l : List It) (a : Int) : List It := if payE l a = 0 then (payGo a (sIt l)).filter keep else []
noncomputable def payN (l : List It) (a : Int) : Int := if payE l a = 0 then payR a (sIt l) else 0
theorem pay_ok {J : World → Prop} (hJ : Stable J) (p0 : It) (l0 : List It) (a : Int) (e : itE (p0 :: l0) = 0) (ha : 0 ≤ a ∧ a ≤ 1000000000000) :
    SoundAt Try.prog J 27 [.row 2 ((p0 :: l0).map itV), .int .i64 a] (.tup [.row 2 (((payGo a (sIt (p0 :: l0))).filter keep).map itV), .int .i64 (payR a (sIt (p0 :: l0))), .int .i64 0]) [] := by
  have hok := itE_0 e
  have h40 := hok.1
  obtain ⟨CF, hCF, sCF⟩ := achkx hJ
  have hC := hCF (p0 :: l0)
  rw [e] at hC
  have hK := cloneT_sound hJ p0 l0 (by omega)
  generalize p0 :: l0 = l at *
  have a1 : ¬ a < 0 := by omega
  have a2 : ¬ 1000000000000 < a := by omega
  have hsort := Rsrt_eqit 66 [] (fun x => 0 ≤ x.1 ∧ x.1 ≤ 292193) dLt l ⟨h40, fun x hx => (hok.2 x hx).1⟩
  have hS : srtL dLt l 0 l.length = sIt l := rfl
  rw [hS] at hsort
  have sok := sIt_ok hok
  have sl := sIt_len l
  have hdel := Rdlt_eq (payGo a (sIt l)) (by rw [payGo_len]; omega)
  refine evFn (l := [(29, CF), (64, at1 _ (_, [.vec 64 2 (l.map itV)]))]) (nv := nv0) (fz := fzL [(53, [184])]) (dr := dr27) (dd := dd27) (lam := [(65, false, pickL (Rsrtit (fun x => 0 ≤ x.1 ∧ x.1 ≤ 292193) dLt 66 [])), (67, true, pickL Rdlt)]) ⟨sCF, at1_snd hK, trivial⟩ hJ ⟨Rsrt_okit hJ 66 [] (by rfl) (pay1_snd hJ) (c := fun x y => x.1 - y.1) (fun x y hx hy => if_pos ⟨hx, hy⟩) (fun x y _ _ => by unfold dLt; omega) dLt_swo (by decide) (by decide), Rdlt_ok hJ, trivial⟩ Try.func27 rfl rfl (Nat.le_of_ble_eq_true rfl) (Nat.le_of_ble_eq_true rfl) drOk27 ?_
  dsimp only [Try.f27, dr27, dd27, Option.getD_some]
  refine ev_start ?_
  simp (disch := omega) only [hC, at1_eq, hsort, a1, a2, List.length_map, sl, List.mapM_nil, Option.pure_def, plainit, freezeL, St.freeze, List.filter_cons, List.filter_nil, bne, go_sem, Int.reduceEq, Int.reduceLT, Int.reduceLE, Int.reduceNeg, Nat.reduceAdd, Nat.reduceLT, Nat.reduceEqDiff, Nat.reduceMul, Nat.reduceLeDiff, reduceIte, Nat.reduceBEq, reduceCtorEq, evP_D, evD_guard, evD_cons, evD_zero, evD_nil]
  generalize sIt l = S at *
  refine evQ_loop [1, 8, 27, 28] [184] (fun σ => ∃ (k : Nat), k ≤ l.length ∧ σ = ⟨[(1, .int .i64 (payRk a S k)), (8, .vec 184), (27, .int .i64 l.length), (28, .int .i64 k)], [(184, .vec 64 2 ((payAt a S k).map itV))]⟩)
    (fun σ => l.length - (match Ev.look 28 σ.env with | some (.int _ n) => n.toNat | _ => 0)) ?_ ?_
  · simp only [go_sem, Int.reduceEq, Int.reduceLT, Int.reduceLE, Int.reduceNeg, Nat.reduceAdd, Nat.reduceLT, Nat.reduceEqDiff, Nat.reduceMul, Nat.reduceLeDiff, reduceIte, Nat.reduceBEq, reduceCtorEq, evP_D, evD_guard, evD_cons, evD_zero, evD_nil]
    exact ⟨0, Nat.zero_le _, by rw [payAt_zero]; rfl⟩
  · rintro σ ⟨k, hk, rfl⟩
    have hRb : ∀ j, 0 ≤ payRk a S j ∧ payRk a S j ≤ a := fun j => payR_bd _ a (fun p hp => (sok.2 p (List.mem_of_mem_take hp)).2.1) ha.1
    have hb := hRb k
    by_cases hlt : k < l.length
    · have hlt' : (k : Int) < l.length := by omega
      obtain ⟨p, hp⟩ : ∃ p, S[k]? = some p := ⟨_, List.getElem?_eq_getElem (by omega)⟩
      have hpb := sok.2 p (List.mem_of_getElem? hp)
      have hg : ((payAt a S k).map itV)[k]? = some (.agg [.int .i64 p.1, .int .i64 p.2]) := get_map itV _ k p (payAt_get a hp)
      have hset := payAt_succ (a := a) hp
      have hR := payRk_succ a S k p hp
      have hlen := payAt_len a S k
      have hms : l.length - ((k : Int) + 1).toNat < l.length - (k : Int).toNat := by
        have e3 : ((k : Int) + 1).toNat = k + 1 := by omega
        rw [e3, Int.toNat_natCast]; omega
      by_cases hm : p.2 < payRk a S k
      · have em : mn (payRk a S k) p.2 = p.2 := if_pos hm
        rw [em] at hset hR
        have hset2 := setit (payAt a S k) k (p.1, p.2 - p.2)
        rw [hset] at hset2
        simp only at hset2
        simp (disch := (first | omega | assumption)) only [hlt', idx_nat, List.length_map, hlen, sl, hg, hm, hset2, go_sem, Int.reduceEq, Int.reduceLT, Int.reduceLE, Int.reduceNeg, Nat.reduceAdd, Nat.reduceLT, Nat.reduceEqDiff, Nat.reduceMul, Nat.reduceLeDiff, reduceIte, Nat.reduceBEq, reduceCtorEq, evP_D, evD_guard, evD_cons, evD_zero, evD_nil]
        exact ⟨⟨k + 1, hlt, by rw [hR]; rfl⟩, hms⟩
      · have em : mn (payRk a S k) p.2 = payRk a S k := if_neg hm
        rw [em] at hset hR
        have hset2 := setit (payAt a S k) k (p.1, p.2 - payRk a S k)
        rw [hset] at hset2
        simp only at hset2
        simp (disch := (first | omega | assumption)) only [hlt', idx_nat, List.length_map, hlen, sl, hg, hm, hset2, go_sem, Int.reduceEq, Int.reduceLT, Int.reduceLE, Int.reduceNeg, Nat.reduceAdd, Nat.reduceLT, Nat.reduceEqDiff, Nat.reduceMul, Nat.reduceLeDiff, reduceIte, Nat.reduceBEq, reduceCtorEq, evP_D, evD_guard, evD_cons, evD_zero, evD_nil]
        exact ⟨⟨k + 1, hlt, by rw [hR]; rfl⟩, hms⟩
    · have hk' : k = S.length := by omega
      have hkl : k = l.length := by omega
      have hlt' : ¬ ((k : Int) < l.length) := by omega
      have hend : payAt a S k = payGo a S := by rw [hk', payAt_end]
      have hrk : payRk a S k = payR a S := by unfold payRk; rw [hk', List.take_length]
      simp (disch := (first | omega | assumption)) only [hlt', hend, hrk, hdel, freezeL, St.freeze, List.filter_cons, List.filter_nil, bne, go_sem, Int.reduceEq, Int.reduceLT, Int.reduceLE, Int.reduceNeg, Nat.reduceAdd, Nat.reduceLT, Nat.reduceEqDiff, Nat.reduceMul, Nat.reduceLeDiff, reduceIte, Nat.reduceBEq, reduceCtorEq, evP_D, evD_guard, evD_cons, evD_zero, evD_nil]
theorem pay_sound {J : World → Prop} (hJ : Stable J) (l : List It) (a : Int) :
    SoundAt Try.prog J 27 [.row 2 (l.map itV), .int .i64 a] (if payE l a = 0 then .tup [.row 2 ((payL l a).map itV), .int .i64 (payN l a), .int .i64 0] else .tup [.zero, .int .i64 0, .int .i64 (payE l a)]) [] := by
  obtain ⟨CF, hCF, sCF⟩ := achkx hJ
  have hC := hCF l
  by_cases e : itE l = 0
  · by_cases ha : 0 ≤ a ∧ a ≤ 1000000000000
    · have hE : payE l a = 0 := by unfold payE; rw [if_pos e, if_pos ha]
      have hL : payL l a = (payGo a (sIt l)).filter keep := if_pos hE
      have hN : payN l a = payR a (sIt l) := if_pos hE
      rw [if_pos hE, hL, hN]
      cases l with
      | cons p l0 => exact pay_ok hJ p l0 a e ha
      | nil =>
        have e0 : sIt [] = [] := by
          have := sIt_len []
          simpa using this
        rw [e0]
        rw [e, List.map_nil] at hC
        have hK := cloneT_nil hJ
        have hS := srtT_nil hJ
        have hD := delT_nil hJ
        have a1 : ¬ a < 0 := by omega
        have a2 : ¬ 1000000000000 < a := by omega
        refine evFn (l := [(29, CF), (64, at1 _ (_, [])), (65, at1 _ (_, [])), (67, at1 _ (_, []))]) (nv := nv0) (fz := fz0) (dr := dr27) (dd := dd27) (lam := []) ⟨sCF, at1_snd hK, at1_snd hS, at1_snd hD, trivial⟩ hJ trivial Try.func27 rfl rfl (Nat.le_of_ble_eq_true rfl) (Nat.le_of_ble_eq_true rfl) drOk27 ?_
        dsimp only [Try.f27, dr27, dd27, Option.getD_some]
        refine ev_start ?_
        simp (disch := omega) only [hC, at1_eq, a1, a2, payGo, payR, List.filter_nil, List.map_nil, List.length_nil, go_sem, Int.reduceEq, Int.reduceLT, Int.reduceLE, Int.reduceNeg, Nat.reduceAdd, Nat.reduceLT, Nat.reduceEqDiff, Nat.reduceMul, Nat.reduceLeDiff, reduceIte, Nat.reduceBEq, reduceCtorEq, evP_D, evD_guard, evD_cons, evD_zero, evD_nil]
        refine evQ_loop [1, 8, 27, 28] [] (fun σ => σ = ⟨[(1, .int .i64 a), (8, .row 2 []), (27, .int .i64 0), (28, .int .i64 0)], []⟩) (fun _ => 0) ?_ ?_
        · simp only [go_sem, Int.reduceEq, Int.reduceLT, Int.reduceLE, Int.reduceNeg, Nat.reduceAdd, Nat.reduceLT, Nat.reduceEqDiff, Nat.reduceMul, Nat.reduceLeDiff, reduceIte, Nat.reduceBEq, reduceCtorEq, evP_D, evD_guard, evD_cons, evD_zero, evD_nil]
          try rfl
        · rintro σ rfl
          have h : ¬ (0 : Int) < 0 := by omega
          simp (disch := omega) only [h, at1_eq, payGo, payR, List.filter_nil, List.map_nil, go_sem, Int.reduceEq, Int.reduceLT, Int.reduceLE, Int.reduceNeg, Nat.reduceAdd, Nat.reduceLT, Nat.reduceEqDiff, Nat.reduceMul, Nat.reduceLeDiff, reduceIte, Nat.reduceBEq, reduceCtorEq, evP_D, evD_guard, evD_cons, evD_zero, evD_nil]
    · have hE : payE l a = 1 := by unfold payE; rw [if_pos e, if_neg ha]
      rw [hE, if_neg (by omega)]
      rw [e] at hC
      refine evFn (l := [(29, CF)]) (nv := nv0) (fz := fz0) (dr := dr27) (dd := dd27) (lam := []) ⟨sCF, trivial⟩ hJ trivial Try.func27 rfl rfl (Nat.le_of_ble_eq_true rfl) (Nat.le_of_ble_eq_true rfl) drOk27 ?_
      dsimp only [Try.f27, dr27, dd27, Option.getD_some]
      refine ev_start ?_
      by_cases a1 : a < 0
      · simp (disch := omega) only [hC, a1, go_sem, Int.reduceEq, Int.reduceLT, Int.reduceLE, Int.reduceNeg, Nat.reduceAdd, Nat.reduceLT, Nat.reduceEqDiff, Nat.reduceMul, Nat.reduceLeDiff, reduceIte, Nat.reduceBEq, reduceCtorEq, evP_D, evD_guard, evD_cons, evD_zero, evD_nil]
      · have a2 : 1000000000000 < a := by omega
        simp (disch := omega) only [hC, a1, a2, go_sem, Int.reduceEq, Int.reduceLT, Int.reduceLE, Int.reduceNeg, Nat.reduceAdd, Nat.reduceLT, Nat.reduceEqDiff, Nat.reduceMul, Nat.reduceLeDiff, reduceIte, Nat.reduceBEq, reduceCtorEq, evP_D, evD_guard, evD_cons, evD_zero, evD_nil]
  · have hE : payE l a = itE l := by unfold payE; rw [if_neg e]
    rw [hE, if_neg e]
    refine evFn (l := [(29, CF)]) (nv := nv0) (fz := fz0) (dr := dr27) (dd := dd27) (lam := []) ⟨sCF, trivial⟩ hJ trivial Try.func27 rfl rfl (Nat.le_of_ble_eq_true rfl) (Nat.le_of_ble_eq_true rfl) drOk27 ?_
    dsimp only [Try.f27, dr27, dd27, Option.getD_some]
    refine ev_start ?_
    simp (disch := omega) only [hC, e, go_sem, Int.reduceEq, Int.reduceLT, Int.reduceLE, Int.reduceNeg, Nat.reduceAdd, Nat.reduceLT, Nat.reduceEqDiff, Nat.reduceMul, Nat.reduceLeDiff, reduceIte, Nat.reduceBEq, reduceCtorEq, evP_D, evD_guard, evD_cons, evD_zero, evD_nil]
set_option maxHeartbeats 2000000 in
theorem rpay_sound {J : World → Prop} (hJ : Stable J) (l : List It) (a : Int) (e : itE l = 0) (ha : 0 ≤ a ∧ a ≤ 1000000000000) :
    SoundAt Try.prog J 30 [.row 2 (l.map itV), .int .i64 a] (.tup [.row 2 ((payL l a).map itV), .int .i64 (payN l a)]) [] := by
  refine SoundAt.row 0 rfl (callOk Try.func30 rfl rfl) fun hlen => ?_
  simp only [maxLen, List.length_map] at hlen
  have hok := itE_0 e
  have h40 := hok.1
  have hE : payE l a = 0 := by unfold payE; rw [if_pos e, if_pos ha]
  have sok := sIt_ok hok
  obtain ⟨r1, r2⟩ := pay_ref (a := a) (sIt l) 0 a (fun p hp => (sok.2 p hp).2.1) (by unfold mx; split <;> omega)
  have hL : payL l a = refGo a 0 (sIt l) := by unfold payL; rw [if_pos hE, r1]
  have hN : payN l a = mx 0 (a - refS 0 (sIt l)) := by unfold payN; rw [if_pos hE, r2]
  rw [hL, hN]
  have hSo := sorted_sound hJ l hok
  have sl := sIt_len l
  have hget : ∀ k, k < l.length → ∃ i, (ordD l)[k]? = some i ∧ i < l.length ∧ (sIt l)[k]? = some (dy l i, am l i) := fun k hk => by
    refine ⟨ord (nd l) l.length k, by simp [ordD, hk], ((ord_perm (nd l) l.length).maps (k := k) (by omega)).2, ?_⟩
    rw [sIt_eq]
    simp [hk]
  have lO := toI_len (ordD l)
  rw [ordD_len] at lO
  generalize sIt l = S at *
  generalize ordD l = O at *
  refine evFn (l := [(61, at1 _ (_, [.vec 3 1 ((toI O).map (V.int .i64))]))]) (nv := (nvL [(6, (64, 2))])) (fz := fzL [(41, [48])]) (dr := dr30) (dd := dd30) (lam := []) ⟨at1_snd hSo, trivial⟩ hJ trivial Try.func30 rfl rfl (Nat.le_of_ble_eq_true rfl) (Nat.le_of_ble_eq_true rfl) drOk30 ?_
  dsimp only [Try.f30, dr30, dd30, Option.getD_some]
  refine ev_start ?_
  simp (disch := omega) only [at1_eq, List.length_map, lO, freezeL, St.freeze, List.filter_cons, List.filter_nil, bne, go_sem, Int.reduceEq, Int.reduceLT, Int.reduceLE, Int.reduceNeg, Nat.reduceAdd, Nat.reduceLT, Nat.reduceEqDiff, Nat.reduceMul, Nat.reduceLeDiff, reduceIte, Nat.reduceBEq, reduceCtorEq, evP_D, evD_guard, evD_cons, evD_zero, evD_nil]
  refine evQ_loop [0, 1, 6, 7, 12, 13, 14] [48, 96] (fun σ => ∃ (k : Nat), k ≤ l.length ∧ σ = ⟨[(0, .row 2 (l.map itV)), (1, .int .i64 a), (6, .vec 48), (7, .int .i64 (refS 0 (S.take k))), (12, .vec 96), (13, .int .i64 l.length), (14, .int .i64 k)],
    [(48, .vec 64 2 ((refGo a 0 (S.take k)).map itV)), (96, .vec 3 1 ((toI O).map (V.int .i64)))]⟩)
    (fun σ => l.length - (match Ev.look 14 σ.env with | some (.int _ n) => n.toNat | _ => 0)) ?_ ?_
  · simp only [go_sem, Int.reduceEq, Int.reduceLT, Int.reduceLE, Int.reduceNeg, Nat.reduceAdd, Nat.reduceLT, Nat.reduceEqDiff, Nat.reduceMul, Nat.reduceLeDiff, reduceIte, Nat.reduceBEq, reduceCtorEq, evP_D, evD_guard, evD_cons, evD_zero, evD_nil]
    exact ⟨0, Nat.zero_le _, rfl⟩
  · rintro σ ⟨k, hk, rfl⟩
    have hsb := refS_bd (S.take k) 0 (fun p hp => (sok.2 p (List.mem_of_mem_take hp)).2) (by omega)
    rw [List.length_take] at hsb
    have hsb2 : ((min k S.length : Nat) : Int) ≤ 40 := by omega
    have hgl := refGo_len a (S.take k) 0
    have hgl2 : (refGo a 0 (S.take k)).length ≤ 40 := by rw [List.length_take] at hgl; omega
    by_cases hlt : k < l.length
    · have hlt' : (k : Int) < l.length := by omega
      obtain ⟨i, hi, hil, hSi⟩ := hget k hlt
      have hig := toI_get hi
      have hit := itV_get hil
      have bi := it_bd hok hil
      have hs1 := refS_take S k 0 _ hSi
      have hg1 := refGo_take a S k 0 _ hSi
      simp only at hs1 hg1
      have hms : l.length - ((k : Int) + 1).toNat < l.length - (k : Int).toNat := by
        have e3 : ((k : Int) + 1).toNat = k + 1 := by omega
        rw [e3, Int.toNat_natCast]; omega
      by_cases hc : a < refS 0 (S.take k) + am l i
      · rw [if_pos hc] at hg1
        by_cases hm : refS 0 (S.take k) + am l i - a < am l i
        · have em : mn (am l i) (refS 0 (S.take k) + am l i - a) = refS 0 (S.take k) + am l i - a := if_pos hm
          rw [em] at hg1
          simp (disch := (first | omega | assumption)) only [hlt', idx_nat, List.length_map, lO, hig, hit, hc, hm, go_sem, Int.reduceEq, Int.reduceLT, Int.reduceLE, Int.reduceNeg, Nat.reduceAdd, Nat.reduceLT, Nat.reduceEqDiff, Nat.reduceMul, Nat.reduceLeDiff, reduceIte, Nat.reduceBEq, reduceCtorEq, evP_D, evD_guard, evD_cons, evD_zero, evD_nil]
          exact ⟨⟨k + 1, hlt, by rw [hs1, hg1, List.map_append]; rfl⟩, hms⟩
        · have em : mn (am l i) (refS 0 (S.take k) + am l i - a) = am l i := if_neg hm
          rw [em] at hg1
          simp (disch := (first | omega | assumption)) only [hlt', idx_nat, List.length_map, lO, hig, hit, hc, hm, go_sem, Int.reduceEq, Int.reduceLT, Int.reduceLE, Int.reduceNeg, Nat.reduceAdd, Nat.reduceLT, Nat.reduceEqDiff, Nat.reduceMul, Nat.reduceLeDiff, reduceIte, Nat.reduceBEq, reduceCtorEq, evP_D, evD_guard, evD_cons, evD_zero, evD_nil]
          exact ⟨⟨k + 1, hlt, by rw [hs1, hg1, List.map_append]; rfl⟩, hms⟩
      · rw [if_neg hc, List.append_nil] at hg1
        simp (disch := (first | omega | assumption)) only [hlt', idx_nat, List.length_map, lO, hig, hit, hc, go_sem, Int.reduceEq, Int.reduceLT, Int.reduceLE, Int.reduceNeg, Nat.reduceAdd, Nat.reduceLT, Nat.reduceEqDiff, Nat.reduceMul, Nat.reduceLeDiff, reduceIte, Nat.reduceBEq, reduceCtorEq, evP_D, evD_guard, evD_cons, evD_zero, evD_nil]
        exact ⟨⟨k + 1, hlt, by rw [hs1, hg1]; rfl⟩, hms⟩
    · have hk' : k = S.length := by omega
      have hlt' : ¬ ((k : Int) < l.length) := by omega
      have htk : S.take k = S := by rw [hk', List.take_length]
      rw [htk] at hsb hgl2 ⊢
      by_cases hm : 0 < a - refS 0 S
      · have em : mx 0 (a - refS 0 S) = a - refS 0 S := if_pos hm
        have hm' : a - refS 0 S > 0 := hm
        rw [em]
        simp (disch := (first | omega | assumption)) only [hlt', hm', freezeL, St.freeze, List.filter_cons, List.filter_nil, bne, go_sem, Int.reduceEq, Int.reduceLT, Int.reduceLE, Int.reduceNeg, Nat.reduceAdd, Nat.reduceLT, Nat.reduceEqDiff, Nat.reduceMul, Nat.reduceLeDiff, reduceIte, Nat.reduceBEq, reduceCtorEq, evP_D, evD_guard, evD_cons, evD_zero, evD_nil]
      · have em : mx 0 (a - refS 0 S) = 0 := if_neg hm
        have hm' : ¬ a - refS 0 S > 0 := hm
        rw [em]
        simp (disch := (first | omega | assumption)) only [hlt', hm', freezeL, St.freeze, List.filter_cons, List.filter_nil, bne, go_sem, Int.reduceEq, Int.reduceLT, Int.reduceLE, Int.reduceNeg, Nat.reduceAdd, Nat.reduceLT, Nat.reduceEqDiff, Nat.reduceMul, Nat.reduceLeDiff, reduceIte, Nat.reduceBEq, reduceCtorEq, evP_D, evD_guard, evD_cons, evD_zero, evD_nil]
end Go.Proofs.Ytdjdipehfnnhpaa
