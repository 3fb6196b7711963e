/-
  TrialSays' law, run by the machine.
-/
import Derived.Test.YtdjdipehfnnhpaaDoorTsH
namespace Go.Proofs.YtdjdipehfnnhpaaDoor
open Go Go.Ev Go.RowKit Go.Acc
set_option maxHeartbeats 4000000
set_option linter.unusedSimpArgs false
set_option linter.unusedVariables false
attribute [local go_sem] lenM takeV tk1 mapsV mkMapV hintOk lookV updV mapKE keyOk V.key app_lend callW_fn lendV postL_ret postL_normal St.lent mkX_L bin_eql_vz bin_eql_zv bin_eql_rz bin_eql_zr bin_eql_zz bin_neq_vz bin_neq_zv bin_neq_rz bin_neq_zr bin_neq_zz eqH nilEq nonE plainI gOf_bool gOf_skip g_some g_none Int.ofNat_zero Int.cast_ofNat_Int Bool.false_and Bool.and_false sliceV noBox elemsZ V.scrub V.scrubL Blk.scrub appendV isSlice maxLen_eq leT List.contains_nil List.contains_cons nvL_at fzL_at fillV V.plain V.plainL Blk.plain List.size_toArray mapO_nil mapO_cons Option.isNone_none Option.isNone_some beqT beqF oI_not mkX_e phi_nil phi_cons bin_eql_bool bin_neq_bool bin_eql_agg bin_neq_agg eqV eqFs eqK_int eqK_bool' eqK_str mkX_T mkX_Φ mkX_n mkX_f mkX_d mkX_r nv0_at fz0_at evQ_dr evP_W evW_nil evW_cons evW_guard okW_eq tame_none tame_new tame_write wb_none wb_new wb_write okU_some offW_none offW_some touchOf V.noRef V.noRefL Option.isSome_some Option.isSome_none mild_none mild_new Option.getD_some Option.getD_none evQ_seq evQ_region evQ_block evQ_cond evQ_ret evQ_skip evQ_exit evO_cons evO_nil evO_guard freezeL_nil oS_some oS_none oS_ite oS_ite' oB_bool oI_true oI_false oE_normal oE_exit oE_ret bQ_normal bQ_ret bQ_exit lQ_normal lQ_ret lQ_exit List.zipIdx_cons List.zipIdx_nil List.map_cons List.map_nil evalOp opd_const opd_tmp opd_func ofC_int ofC_bool ofC_str ofC_nil app_none app_new app_write app_change putE_some putE_none setA_cons setA_nil setH_cons setH_nil mapA_cons mapA_nil look_cons look_nil e_mk h_mk drop_nil drop_mk keep_mk dstOk_some dstOk_none guardT_eq true_and and_true Bool.not_false Bool.not_true selB_true selB_false mem_nil mem_cons kpL_nil kpL_cons drL_nil drL_cons closed_mk V.refsIn V.refsInL Blk.refsIn List.all_cons List.all_nil lenV bin_add bin_sub bin_mul bin_quo bin_rem bin_eql bin_neq bin_lss bin_leq bin_gtr bin_geq un_neg un_not post_ret post_normal St.init Bool.false_eq_true List.length_map Bool.or_false Bool.or_true Bool.false_or Bool.true_or beq_self_eq_true Option.map_some Option.map_none Option.bind_some List.getElem?_cons_zero List.getElem?_cons_succ scalar stor isAggV V.cells List.cons_append List.nil_append if_true if_false wrap_of callV V.dataL V.data Bool.and_true Bool.true_and fresh names V.ren V.renL retV resV packL packV packC getBlks wrapR subV putV decide_true decide_false TK.agg List.length_cons List.length_nil List.take_succ_cons List.take_zero List.drop_succ_cons List.drop_zero List.take_nil List.drop_nil Nat.zero_add Nat.add_zero List.append_nil List.getElem?_nil elemsV ro ro0 ro1 roC ty2 ty3 ty4 ty5 ty6 ty7 ty8 ty9 ty10 ty11 ty12 ty13 ty14 ty18 ty19 ty21 ty24 ty25 ty28 ty29 ty30 ty31 ty35 ty36 ty37 ty45 ty50 ty51 ty71 ty75 ty79 ty80 ty84 ty91 ty92 ty98 ty99 ty109 ty114 ty129 ty134 ty146 ty158 ty159 ty160 ty161 ty165 ty166 ty171 ty172 ty175 ty176 ty177 ty178 eqs51 eqs80 eqs92 eqs99
theorem rkinds_ex {J : World → Prop} (hJ : Stable J) (A : List (ByteArray × Int)) (E : List En) (s : Int) (hc : bkChk A E s = 0) :
    ∃ F : List V → Option (V × List Blk), (∀ x : Int × Int × Int, F [.agg [.row 2 (A.map acV), .row 3 (E.map enW), .int .i64 s], .int .i64 x.1, .int .i64 x.2.1, .int .i64 x.2.2] = some (.int .i64 (kdS E x.1 x.2.1 x.2.2 A), [])) ∧ Snd Tryd.prog J 38 F :=
  fam_ex (fun x : Int × Int × Int => [bkV A E s, .int .i64 x.1, .int .i64 x.2.1, .int .i64 x.2.2]) (fun x => (.int .i64 (kdS E x.1 x.2.1 x.2.2 A), [])) (fun i j h => by
    simp only [List.cons.injEq, V.int.injEq, true_and, and_true] at h
    rw [h.1, h.2.1, h.2.2]) fun x => rkinds_sound hJ A E s x.1 x.2.1 x.2.2 hc
set_option maxRecDepth 20000 in
set_option maxHeartbeats 16000000 in
theorem trial_law {J : World → Prop} (hJ : Stable J) (A : List (ByteArray × Int)) (E : List En) (s day to : Int) (hE : okEn E) : SoundAt Tryd.prog J 6 [bkV A E s, .int .i64 day, .int .i64 to] (.bool true) [] := by
  have hT := trial_sound hJ A E s day hE.1
  have hP := profit_sound hJ A E s day to hE.1
  have hS := sheet_sound hJ A E s day hE.1
  have hB := rbook_sound hJ A E s hE
  unfold bkV at hT hP hS hB ⊢
  by_cases hz : bkChk A E s = 0
  case neg =>
    have e1 : tlookE A E s day = bkChk A E s := if_pos hz
    have e2 : profE A E s day to = bkChk A E s := by unfold profE; rw [e1, if_pos hz]
    have e3 : profN A E s day to = 0 := by unfold profN; rw [e2, if_neg hz]
    rw [e1, if_neg hz, if_neg hz] at hT
    rw [e2, e3] at hP
    rw [e1, if_neg hz, if_neg hz, if_neg hz] at hS
    refine evFn (l := [(32, at1 _ (_, [])), (33, at1 _ (_, [])), (34, at1 _ (_, [])), (35, at1 _ (_, [])), (36, dayF)]) (nv := nv0) (fz := fz0) (dr := dr6) (dd := dd6) (lam := []) ⟨at1_snd hT, at1_snd hP, at1_snd hS, at1_snd hB, day_snd hJ, trivial⟩ hJ trivial Tryd.func6 rfl rfl (Nat.le_of_ble_eq_true rfl) (Nat.le_of_ble_eq_true rfl) drOk6 ?_
    dsimp only [Tryd.f6, dr6, dd6, Option.getD_some]
    refine ev_start ?_
    generalize bkChk A E s = q at hz
    simp (disch := omega) only [at1_eq, hz, go_sem, Int.reduceEq, Int.reduceLT, Int.reduceLE, Int.reduceNeg, Nat.reduceAdd, Nat.reduceLT, Nat.reduceEqDiff, Nat.reduceMul, Nat.reduceLeDiff, reduceIte, Nat.reduceBEq, reduceCtorEq, evP_D, evD_guard, evD_cons, evD_zero, evD_nil]
  by_cases hd : 0 ≤ day ∧ day ≤ 292193
  case neg =>
    have e1 : tlookE A E s day = 1 := by unfold tlookE; rw [if_neg (fun h => h hz), if_neg hd]
    have e2 : profE A E s day to = 1 := by unfold profE; rw [e1, if_pos (by decide)]
    have e3 : profN A E s day to = 0 := by unfold profN; rw [e2]; rfl
    rw [e1, if_neg (by decide), if_neg (by decide)] at hT
    rw [e2, e3] at hP
    rw [e1, if_neg (by decide), if_neg (by decide), if_neg (by decide)] at hS
    have hd' := decide_eq_false hd
    refine evFn (l := [(32, at1 _ (_, [])), (33, at1 _ (_, [])), (34, at1 _ (_, [])), (35, at1 _ (_, [])), (36, dayF)]) (nv := nv0) (fz := fz0) (dr := dr6) (dd := dd6) (lam := []) ⟨at1_snd hT, at1_snd hP, at1_snd hS, at1_snd hB, day_snd hJ, trivial⟩ hJ trivial Tryd.func6 rfl rfl (Nat.le_of_ble_eq_true rfl) (Nat.le_of_ble_eq_true rfl) drOk6 ?_
    dsimp only [Tryd.f6, dr6, dd6, Option.getD_some]
    refine ev_start ?_
    simp (disch := omega) only [at1_eq, dayF_eq, hz, hd', go_sem, Int.reduceEq, Int.reduceLT, Int.reduceLE, Int.reduceNeg, Nat.reduceAdd, Nat.reduceLT, Nat.reduceEqDiff, Nat.reduceMul, Nat.reduceLeDiff, reduceIte, Nat.reduceBEq, reduceCtorEq, evP_D, evD_guard, evD_cons, evD_zero, evD_nil]
  have e1 : tlookE A E s day = 0 := by unfold tlookE; rw [if_neg (fun h => h hz), if_pos hd]
  have hd' := decide_eq_true hd
  have hR := rtrial_sound hJ A E s day hz
  unfold bkV at hR
  obtain ⟨KF, hKF, hKFs⟩ := rkinds_ex hJ A E s hz
  have k0 := hKF (0, day, 0)
  have k1 := hKF (0, day, 1)
  have k2 := hKF (0, day, 2)
  have k3 := hKF (day, to, 3)
  have k4 := hKF (day, to, 4)
  simp only at k0 k1 k2 k3 k4
  rw [e1, if_pos rfl, if_pos rfl] at hT
  rw [e1, if_pos rfl, if_pos rfl, if_pos rfl] at hS
  obtain ⟨h1, _, h3, h4⟩ := bkChk_ok hz
  have hEn : ∀ x ∈ E, enX x = 0 := fun x hx => (h4 x hx).1
  have hA24 := (acChk_codes h1).1
  have b1 := kdS_bd hEn h3 0 day 1 hA24 A.length
  have b2 := kdS_bd hEn h3 0 day 2 hA24 A.length
  have b3 := kdS_bd hEn h3 day to 3 hA24 A.length
  have b4 := kdS_bd hEn h3 day to 4 hA24 A.length
  rw [List.take_length] at b1 b2 b3 b4
  by_cases ht : 0 ≤ to ∧ to ≤ 292193
  case neg =>
    have e2 : profE A E s day to = 1 := by unfold profE; rw [if_neg (fun h => h e1), if_neg (fun h => ht h.1)]
    have e3 : profN A E s day to = 0 := by unfold profN; rw [e2]; rfl
    rw [e2, e3] at hP
    have ht' := decide_eq_false ht
    refine evFn (l := [(32, at1 _ (_, [])), (33, at1 _ (_, [])), (34, at1 _ (_, [])), (35, at1 _ (_, [])), (36, dayF), (37, at1 _ (_, [])), (38, KF)]) (nv := nv0) (fz := fz0) (dr := dr6) (dd := dd6) (lam := []) ⟨at1_snd hT, at1_snd hP, at1_snd hS, at1_snd hB, day_snd hJ, at1_snd hR, hKFs, trivial⟩ hJ trivial Tryd.func6 rfl rfl (Nat.le_of_ble_eq_true rfl) (Nat.le_of_ble_eq_true rfl) drOk6 ?_
    dsimp only [Tryd.f6, dr6, dd6, Option.getD_some]
    refine ev_start ?_
    simp (disch := omega) only [at1_eq, dayF_eq, hz, hd', ht', k0, k1, k2, Int.zero_sub, go_sem, Int.reduceEq, Int.reduceLT, Int.reduceLE, Int.reduceNeg, Nat.reduceAdd, Nat.reduceLT, Nat.reduceEqDiff, Nat.reduceMul, Nat.reduceLeDiff, reduceIte, Nat.reduceBEq, reduceCtorEq, evP_D, evD_guard, evD_cons, evD_zero, evD_nil]
  have ht' := decide_eq_true ht
  by_cases hf : to < day
  · have e2 : profE A E s day to = 1 := by unfold profE; rw [if_neg (fun h => h e1), if_neg (fun h => by omega)]
    have e3 : profN A E s day to = 0 := by unfold profN; rw [e2]; rfl
    rw [e2, e3] at hP
    refine evFn (l := [(32, at1 _ (_, [])), (33, at1 _ (_, [])), (34, at1 _ (_, [])), (35, at1 _ (_, [])), (36, dayF), (37, at1 _ (_, [])), (38, KF)]) (nv := nv0) (fz := fz0) (dr := dr6) (dd := dd6) (lam := []) ⟨at1_snd hT, at1_snd hP, at1_snd hS, at1_snd hB, day_snd hJ, at1_snd hR, hKFs, trivial⟩ hJ trivial Tryd.func6 rfl rfl (Nat.le_of_ble_eq_true rfl) (Nat.le_of_ble_eq_true rfl) drOk6 ?_
    dsimp only [Tryd.f6, dr6, dd6, Option.getD_some]
    refine ev_start ?_
    simp (disch := omega) only [at1_eq, dayF_eq, hz, hd', ht', hf, k0, k1, k2, Int.zero_sub, go_sem, Int.reduceEq, Int.reduceLT, Int.reduceLE, Int.reduceNeg, Nat.reduceAdd, Nat.reduceLT, Nat.reduceEqDiff, Nat.reduceMul, Nat.reduceLeDiff, reduceIte, Nat.reduceBEq, reduceCtorEq, evP_D, evD_guard, evD_cons, evD_zero, evD_nil]
  · have e2 : profE A E s day to = 0 := by unfold profE; rw [if_neg (fun h => h e1), if_pos ⟨ht, by omega⟩]
    have e3 : profN A E s day to = -kdS E day to 3 A - kdS E day to 4 A := by unfold profN; rw [if_pos e2]
    rw [e2, e3] at hP
    refine evFn (l := [(32, at1 _ (_, [])), (33, at1 _ (_, [])), (34, at1 _ (_, [])), (35, at1 _ (_, [])), (36, dayF), (37, at1 _ (_, [])), (38, KF)]) (nv := nv0) (fz := fz0) (dr := dr6) (dd := dd6) (lam := []) ⟨at1_snd hT, at1_snd hP, at1_snd hS, at1_snd hB, day_snd hJ, at1_snd hR, hKFs, trivial⟩ hJ trivial Tryd.func6 rfl rfl (Nat.le_of_ble_eq_true rfl) (Nat.le_of_ble_eq_true rfl) drOk6 ?_
    dsimp only [Tryd.f6, dr6, dd6, Option.getD_some]
    refine ev_start ?_
    simp (disch := omega) only [at1_eq, dayF_eq, hz, hd', ht', hf, k0, k1, k2, k3, k4, Int.zero_sub, go_sem, Int.reduceEq, Int.reduceLT, Int.reduceLE, Int.reduceNeg, Nat.reduceAdd, Nat.reduceLT, Nat.reduceEqDiff, Nat.reduceMul, Nat.reduceLeDiff, reduceIte, Nat.reduceBEq, reduceCtorEq, evP_D, evD_guard, evD_cons, evD_zero, evD_nil]
end Go.Proofs.YtdjdipehfnnhpaaDoor
