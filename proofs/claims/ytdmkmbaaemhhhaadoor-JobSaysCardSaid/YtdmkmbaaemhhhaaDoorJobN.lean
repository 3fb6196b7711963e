/-
  JobSays' law, run by the machine.
-/
import Derived.Test.YtdmkmbaaemhhhaaDoorJobM
namespace Go.Proofs.YtdmkmbaaemhhhaaDoor
open Go Go.Ev Go.RowKit Go.Job Go.Acc
set_option maxHeartbeats 4000000
set_option linter.unusedSimpArgs false
set_option linter.unusedVariables false
attribute [local go_sem] mutV getB mvB bkB V.mv V.mvL V.bk V.bkL Blk.mv Blk.bk posN nmN backN noDup app_writes setHL_nil setHL_cons postM_ret postM_normal resM hasB_nil hasB_cons St.mut names_nil names_cons sortV cellOf mkX_M mkX_S mkX_ln lnL_at ms0_mt ms0_st V.lone V.loneL List.zip_cons_cons List.zip_nil_left Option.isNone_none bornV subE partR unB bytesW boundsV ownP sliceW copyV clearV lenM takeV tk1 mapsV mkMapV hintOk lookV updV mapKE keyOk V.key app_lend callW_fn lendV postL_ret postL_normal postT_ret postT_normal takeR St.lent mkX_L bin_eql_vz bin_eql_zv bin_eql_rz bin_eql_zr bin_eql_zz bin_neq_vz bin_neq_zv bin_neq_rz bin_neq_zr bin_neq_zz eqH nilEq nonE plainI gOf_bool gOf_skip g_some g_none Int.ofNat_zero Int.cast_ofNat_Int Bool.false_and Bool.and_false sliceV noBox elemsZ V.scrub V.scrubL Blk.scrub appendV isSlice maxLen_eq leT List.contains_nil List.contains_cons nvL_at fzL_at fillV V.plain V.plainL Blk.plain List.size_toArray mapO_nil mapO_cons Option.isNone_some beqT beqF oI_not mkX_e phi_nil phi_cons bin_eql_bool bin_neq_bool bin_eql_agg bin_neq_agg eqV eqFs eqK_int eqK_bool' eqK_str mkX_T mkX_Φ mkX_n mkX_f mkX_d mkX_r nv0_at fz0_at evQ_dr evP_W evW_nil evW_cons evW_guard okW_eq tame_none tame_new tame_write wb_none wb_new wb_write okU_some offW_none offW_some touchOf V.noRef V.noRefL Option.isSome_some Option.isSome_none mild_none mild_new Option.getD_some Option.getD_none evQ_seq evQ_region evQ_block evQ_cond evQ_ret evQ_skip evQ_exit evO_cons evO_nil evO_guard freezeL_nil oS_some oS_none oS_ite oS_ite' oB_bool oI_true oI_false oE_normal oE_exit oE_ret bQ_normal bQ_ret bQ_exit lQ_normal lQ_ret lQ_exit List.zipIdx_cons List.zipIdx_nil List.map_cons List.map_nil evalOp opd_const opd_tmp opd_func ofC_int ofC_bool ofC_str ofC_nil app_none app_new app_write app_change putE_some putE_none setA_cons setA_nil setH_cons setH_nil mapA_cons mapA_nil look_cons look_nil e_mk h_mk drop_nil drop_mk keep_mk dstOk_some dstOk_none guardT_eq true_and and_true Bool.not_false Bool.not_true selB_true selB_false mem_nil mem_cons kpL_nil kpL_cons drL_nil drL_cons closed_mk V.refsIn V.refsInL Blk.refsIn List.all_cons List.all_nil lenV bin_add bin_sub bin_mul bin_quo bin_rem bin_eql bin_neq bin_lss bin_leq bin_gtr bin_geq un_neg un_not post_ret post_normal St.init Bool.false_eq_true List.length_map Bool.or_false Bool.or_true Bool.false_or Bool.true_or beq_self_eq_true Option.map_some Option.map_none Option.bind_some List.getElem?_cons_zero List.getElem?_cons_succ scalar stor isAggV V.cells List.cons_append List.nil_append if_true if_false wrap_of callV V.dataL V.data Bool.and_true Bool.true_and fresh names V.ren V.renL retV resV packL packV packC getBlks wrapR subV putV decide_true decide_false TK.agg List.length_cons List.length_nil List.take_succ_cons List.take_zero List.drop_succ_cons List.drop_zero List.take_nil List.drop_nil Nat.zero_add Nat.add_zero List.append_nil List.getElem?_nil elemsV ro ro0 ro1 roC ty2 ty3 ty4 ty5 ty6 ty7 ty8 ty9 ty10 ty11 ty12 ty13 ty14 ty18 ty19 ty21 ty22 ty23 ty24 ty28 ty29 ty32 ty33 ty34 ty38 ty39 ty40 ty56 ty60 ty61 ty62 ty75 ty78 ty79 ty85 ty93 ty94 ty97 ty118 ty127 ty141 ty142 ty143 ty144 ty148 ty149 ty154 ty155 ty158 ty159 ty160 ty161 eqs29 eqs61 eqs79 eqs94
theorem jcheckx : ∃ F : List V → Option (V × List Ev.Blk), (∀ l : List Pl, F [.row 7 (l.map plV)] = some (.int .i64 (plChk keyOk' codeOk l), [])) ∧ Snd Tryd.prog Tab 7 F := by
  exact famj (P := Tryd.prog) (J := Tab) (f := 7) (fun l : List Pl => [V.row 7 (l.map plV)]) (fun l => (.int .i64 (plChk keyOk' codeOk l), [])) (fun i j h => by
    simp only [List.cons.injEq, V.row.injEq, true_and, and_true] at h
    rw [plV_inj h]) fun l => jcheck_sound l
def pl0 : Pl := ⟨ByteArray.empty, 0, 0, 0, 0, ByteArray.empty, ByteArray.empty⟩
theorem chk_pl0 : plChk keyOk' codeOk [pl0] = 3 := by
  have h1 : keyOk' pl0.key = false := by decide +kernel
  have h2 : oneE keyOk' codeOk pl0 = 3 := if_pos (.inl h1)
  unfold plChk
  rw [if_neg (by simp)]
  simp [plE, h2]
theorem pl0_row : [pl0].map plV = [.agg [.str ByteArray.empty, .int .i64 0, .int .i64 0, .int .i64 0, .int .i64 0, .str ByteArray.empty, .str ByteArray.empty]] := rfl
set_option maxRecDepth 100000 in
set_option maxHeartbeats 4000000 in
theorem job_law (l : List Pl) (day : Int) (hks : ∀ p ∈ l, p.key.size ≤ maxLen) : SoundAt Tryd.prog Tab 3 [.row 7 (l.map plV), .int .i64 day] (.bool true) [] := by
  have hJ := stableTab
  obtain ⟨CF, hCF, sCF⟩ := jcheckx
  have hP := rplans_sound hJ l hks
  have c1 := hCF l
  have c0 := hCF [pl0]
  rw [chk_pl0, pl0_row] at c0
  by_cases h0 : plChk keyOk' codeOk l = 0
  · by_cases hd : 0 ≤ day ∧ day ≤ 292193
    · have hD := jdue_sound l day h0 hd
      have hR := rdue_sound hJ l day h0
      have hE := eqJ_sound hJ (dueL day l)
      have hd' : decide (0 ≤ day ∧ day ≤ 292193) = true := decide_eq_true hd
      rw [h0] at hP c1
      generalize dueL day l = E at *
      refine evFn (l := [(5, at1 _ (_, [.vec 34 3 (E.map enJ)])), (6, at1 _ (_, [])), (7, CF), (8, dayF), (10, at1 _ (_, [.vec 34 3 (E.map enJ)])), (9, at1 _ (_, []))]) (nv := nv0) (fz := fz0) (dr := dr3) (dd := dd3) (lam := []) (ms := ms0) ⟨at1_snd hD, at1_snd hP, sCF, day_snd hJ, at1_snd hR, at1_snd hE, trivial⟩ hJ trivial ms0_ok Tryd.func3 rfl rfl (Nat.le_of_ble_eq_true rfl) (Nat.le_of_ble_eq_true rfl) drOk3 ?_
      dsimp only [Tryd.f3, dr3, dd3, Option.getD_some]
      refine ev_start ?_
      simp (disch := omega) only [at1_eq, c1, c0, dayF_eq, hd', go_sem, Int.reduceEq, Int.reduceLT, Int.reduceLE, Int.reduceNeg, Nat.reduceAdd, Nat.reduceLT, Nat.reduceEqDiff, Nat.reduceMul, Nat.reduceLeDiff, reduceIte, Nat.reduceBEq, reduceCtorEq, evP_D, evD_guard, evD_cons, evD_zero, evD_nil]
    · have hD := jdue_bad l day 1 (by rw [if_pos h0, if_neg hd]) (by omega)
      have hd' : decide (0 ≤ day ∧ day ≤ 292193) = false := decide_eq_false hd
      rw [h0] at hP c1
      refine evFn (l := [(5, at1 _ (_, [])), (6, at1 _ (_, [])), (7, CF), (8, dayF)]) (nv := nv0) (fz := fz0) (dr := dr3) (dd := dd3) (lam := []) (ms := ms0) ⟨at1_snd hD, at1_snd hP, sCF, day_snd hJ, trivial⟩ hJ trivial ms0_ok Tryd.func3 rfl rfl (Nat.le_of_ble_eq_true rfl) (Nat.le_of_ble_eq_true rfl) drOk3 ?_
      dsimp only [Tryd.f3, dr3, dd3, Option.getD_some]
      refine ev_start ?_
      simp (disch := omega) only [at1_eq, c1, c0, dayF_eq, hd', go_sem, Int.reduceEq, Int.reduceLT, Int.reduceLE, Int.reduceNeg, Nat.reduceAdd, Nat.reduceLT, Nat.reduceEqDiff, Nat.reduceMul, Nat.reduceLeDiff, reduceIte, Nat.reduceBEq, reduceCtorEq, evP_D, evD_guard, evD_cons, evD_zero, evD_nil]
  · have hD := jdue_bad l day _ (by rw [if_neg h0]) h0
    generalize plChk keyOk' codeOk l = e at *
    refine evFn (l := [(5, at1 _ (_, [])), (6, at1 _ (_, [])), (7, CF), (8, dayF)]) (nv := nv0) (fz := fz0) (dr := dr3) (dd := dd3) (lam := []) (ms := ms0) ⟨at1_snd hD, at1_snd hP, sCF, day_snd hJ, trivial⟩ hJ trivial ms0_ok Tryd.func3 rfl rfl (Nat.le_of_ble_eq_true rfl) (Nat.le_of_ble_eq_true rfl) drOk3 ?_
    dsimp only [Tryd.f3, dr3, dd3, Option.getD_some]
    refine ev_start ?_
    simp (disch := omega) only [at1_eq, c1, c0, h0, go_sem, Int.reduceEq, Int.reduceLT, Int.reduceLE, Int.reduceNeg, Nat.reduceAdd, Nat.reduceLT, Nat.reduceEqDiff, Nat.reduceMul, Nat.reduceLeDiff, reduceIte, Nat.reduceBEq, reduceCtorEq, evP_D, evD_guard, evD_cons, evD_zero, evD_nil]
end Go.Proofs.YtdmkmbaaemhhhaaDoor
